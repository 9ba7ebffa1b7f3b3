/- lichenlaw11.awake. -/
import Derived.Test.YtkjdhkpkcepilaaGreatTwins11
import Derived.Test.YtkjdhkpkcepilaaGreatCtlR
import Derived.Test.YtkjdhkpkcepilaaGreatLaw0
namespace Go.Proofs.YtkjdhkpkcepilaaGreat
open Go.RowKit
theorem fr_xyz4 : (freshL ⟨#[120, 121, 122]⟩).getD 4 0 = 121 ∧ (freshL ⟨#[120, 121, 122]⟩).getD 5 0 = 122 := by
  unfold freshL
  rw [if_neg (by decide)]
  constructor
  all_goals
    rw [List.getD_eq_getElem?_getD, List.getElem?_map, List.getElem?_range (by decide)]
    kernel_rfl
theorem xyz4 (fa : ByteArray) (h : (⟨(freshL ⟨#[120, 121, 122]⟩).toArray⟩ : ByteArray) = fa) : intsOf (fetched fa 4 2) = [121, 122] := by
  obtain ⟨h1, h2⟩ := fr_xyz4
  have e : fetched fa 4 2 = [121, 122] := by
    show [fa.data.toList.getD 4 0, fa.data.toList.getD 5 0] = _
    rw [← h]
    dsimp only
    rw [h1, h2]
  rw [e]
  rfl
set_option maxRecDepth 100000 in
set_option maxHeartbeats 8000000 in
theorem awake11 (w : World) :
    Calls Tryz.prog 41 #[] w fun e w' => e = .returned (.bool true) ∧ Upd none' w w' := by
  obtain ⟨fa, hfa⟩ : ∃ fa : ByteArray, (⟨(freshL ⟨#[120, 121, 122]⟩).toArray⟩ : ByteArray) = fa := ⟨_, rfl⟩
  have HFA := Lib.hid hfa
  clear hfa
  go_enter Tryz.func41, Tryz.ntmps41
  go_upto_region 2 with (go_at_call 42; refine (c_twins11 (Upd.refl none' w) _ (by decide) fa HFA.out).mono ?_; rintro e w1 ⟨b, r, rfl, hC1⟩)
  have HN := Lib.hid (reg_new (at_new fa) hC1 (Int.le_refl 0) (by decide))
  clear hC1
  go_upto_region 3 with (go_at_call 28; refine HN.out.mono ?_; rintro e w2 ⟨k, rfl, hR2⟩)
  have HR2 := Lib.hid hR2
  clear hR2 HN
  go_upto_region 6 with (first | (go_at_call 28; refine (ctlnew_nil _).mono ?_; rintro e w3 ⟨rfl, rfl⟩) | (go_at_call 25; refine (num_any _ _).mono ?_; rintro e w' ⟨rfl, rfl⟩))
  have hrd := reg_read3 HR2.out rfl rfl 4 (by decide) 2 (by decide) (by decide) (-1) (.inl ⟨rfl, rfl⟩)
  rw [show (Cor.new fa).a = fa from rfl, xyz4 fa HFA.out] at hrd
  have HRD := Lib.hid hrd
  clear hrd HR2
  go_upto_region 7 with (go_at_call 36; refine HRD.out.mono ?_; rintro e w4 ⟨oa, oc, rfl, hR4⟩)
  have HNO := Lib.hid (reg_none hR4 0 0 0 (by decide) (.slice none 0 0))
  have HR4 := Lib.hid hR4
  clear hR4 HRD
  go_upto_region 8 with (go_at_call 36; refine HNO.out.mono ?_; rintro e w5 ⟨rfl, hU5⟩)
  have HW1 := Lib.hid (reg_w (HR4.out.fr hU5) 0 159 (by decide) (by decide))
  clear HNO HR4 hU5
  go_upto_region 9 with (go_at_call 43; refine HW1.out.mono ?_; rintro e w6 ⟨rfl, hR6⟩)
  have HW2 := Lib.hid (reg_w hR6 2 2 (by decide) (by decide))
  clear hR6 HW1
  go_upto_region 10 with (go_at_call 43; refine HW2.out.mono ?_; rintro e w7 ⟨rfl, hR7⟩)
  have hR7' : Reg (Cor.new fa) b k 159 0 2 (-1) [] [] _ _ w w7 _ := hR7
  have HG := Lib.hid (go_ok hR7' (by decide) (by decide) (out := idL 2) (by decide) 2 rfl 0 (by decide) (fun w1 u => reg_id (hR7'.fr u) rfl rfl 2 (by decide) (by decide) (-1) (.inl ⟨rfl, rfl⟩)))
  clear hR7 hR7' HW2
  go_upto_region 11 with (go_at_call 45; refine HG.out.mono ?_; rintro e w8 ⟨rfl, hR8⟩)
  have hR8' : Reg (Cor.new fa) b k 159 0 2 (-1) [] [239, 64] _ _ w w8 _ := hR8
  have HS := Lib.hid (reg_rs hR8')
  clear hR8 hR8' HG
  go_upto_region 12 with (go_at_call 44; refine HS.out.mono ?_; rintro e w9 ⟨rfl, hR9⟩)
  have HD := Lib.hid (reg_rd hR9)
  clear hR9 HS
  go_upto_region 13 with (go_at_call 44; refine HD.out.mono ?_; rintro e w10 ⟨rfl, hR10⟩)
  have HC := Lib.hid (reg_cut hR10 5 (by decide) (by decide))
  clear hR10 HD
  go_upto_region 14 with (go_at_call 32; refine HC.out.mono ?_; rintro e w11 ⟨rfl, hR11⟩)
  have HX := Lib.hid (reg_gone hR11.nil 159 (by decide) (by decide) 0 none 0 [] List.mem_cons_self 1 (by kernel_rfl) (by decide) (by rw [show phsMany (cmdPhs (opOf 159) 0 [] 1) = 16 from by kernel_rfl]; decide) (by rw [show phsMany (cmdPhs (opOf 159) 0 [] 1) = 16 from by kernel_rfl]; decide))
  clear hR11 HC
  go_upto_region 15 with (go_at_call 36; refine HX.out.mono ?_; rintro e w12 ⟨rfl, hG⟩)
  have HWR := Lib.hid (gone_write hG 4 1)
  have HLO := Lib.hid (fun w' (u : Upd none' w12 w') => gone_lost (hG.fr u))
  have HCK := Lib.hid (fun w' (u : Upd none' w12 w') => gone_clocks (hG.fr u))
  have hs : Calls Tryz.prog 47 #[.slice oa 2 oc, .slice (some ⟨w12.heap.size, 0, none⟩) 2 2] (w12.alloc (.cells #[.int .i64 121, .int .i64 122] 3)) fun e w' => e = .returned (.bool true) ∧ Upd none' w12 w' :=
    (same_ints _ _ _ [121, 122] [121, 122] ((hG.rs (r := (.slice oa 2 oc, ints [121, 122])) (by repeat (first | exact List.mem_cons_self | apply List.mem_cons_of_mem))).upd ((Upd.refl none' w12).alloc _) (fun _ _ _ f => f)) (rs_lit w12 [121, 122] (by decide))).mono (fun e w' h => ⟨h.1, ((Upd.refl none' w12).alloc _).trans h.2 (fun _ _ f => f)⟩)
  have HSA := Lib.hid hs
  have HU := Lib.hid hG.up
  clear hG hs HX
  go_upto_region 16 with (go_at_call 43; refine HWR.out.mono ?_; rintro e w13 ⟨rfl, rfl⟩)
  go_wp2_with (first | (go_at_call 25; refine (num_any _ _).mono ?_; rintro e w' ⟨rfl, rfl⟩) | (go_at_call 47; refine HSA.out.mono ?_; rintro e w14 ⟨rfl, hU14⟩) | (go_at_call 46; refine (HLO.out _ hU14).mono ?_; rintro e w15 ⟨rfl, rfl⟩) | (go_at_call 31; refine (HCK.out _ hU14).mono ?_; rintro e w15 ⟨rfl, rfl⟩) | (go_at_call 45; refine (go_nil _).mono ?_; rintro e w15 ⟨rfl, rfl⟩))
  go_ret
  exact ⟨rfl, HU.out.trans hU14 (fun _ _ f => f)⟩
end Go.Proofs.YtkjdhkpkcepilaaGreat
