/- lichenlaw11.CtlCuts. -/
import Derived.Test.YtkjdhkpkcepilaaGreatAwake11
namespace Go.Proofs.YtkjdhkpkcepilaaGreat
open Go.RowKit
set_option maxRecDepth 100000 in
set_option maxHeartbeats 8000000 in
theorem lawCtlCuts (w : World) (bound : Int) (_ : (Lit.int .i64 bound).wf = true) (v0 : Value) (zs : List Int) (h0 : IntsR w v0 zs) :
    Calls Tryz.prog 13 #[.int .i64 bound, v0] w fun e w' => e = .returned (.bool true) ∧ Upd none' w w' := by
  have hand := i64_and1023 bound
  obtain ⟨B, hB⟩ : ∃ B : Nat, bound % 1024 = (B : Int) := ⟨(bound % 1024).toNat, by omega⟩
  have hB2 : B < 1024 := by omega
  rw [hB] at hand
  obtain ⟨fa, hfa⟩ : ∃ fa : ByteArray, (⟨(freshL ⟨#[97]⟩).toArray⟩ : ByteArray) = fa := ⟨_, rfl⟩
  have HFA := Lib.hid hfa
  obtain ⟨k1, k2, a0, cap0, rfl, k4, k5⟩ := h0
  obtain ⟨M, hM⟩ : ∃ M, zs.length = M := ⟨_, rfl⟩
  rw [hM] at k4 k5 ⊢
  have HK := Lib.hid k5
  have HM := Lib.hid hM
  clear hfa hB k2 k5 hM k1
  go_enter Tryz.func13, Tryz.ntmps13
  go_upto_region 4 with (first | (go_at_call 41; refine (awake11 _).mono ?_; rintro e w0 ⟨rfl, hU1⟩) | (go_at_call 42; refine (c_twins11 hU1 _ (by decide) fa HFA.out).mono ?_; rintro e w1 ⟨b, r, rfl, hC1⟩))
  have HN := Lib.hid (reg_new (at_new fa) hC1 (Int.le_refl 0) (by decide))
  clear hC1
  go_upto_region 7 with (first | (go_at_call 28; refine HN.out.mono ?_; rintro e w2 ⟨k, rfl, hR2⟩) | (go_at_call 25; refine (num_any _ _).mono ?_; rintro e w' ⟨rfl, rfl⟩))
  have HCT := Lib.hid (reg_cut hR2 (B : Int) (by omega) (by omega))
  clear hR2 HN
  go_upto_region 10 with (go_at_call 32; refine HCT.out.mono ?_; rintro e w3 ⟨rfl, hR3⟩)
  have HR3 := Lib.hid hR3
  clear hR3 HCT
  go_loopw [9, 10] (fun lv iv wr => ∃ (i l : Nat), i ≤ M ∧ i ≤ 30 ∧ l ≤ B ∧ lv = .int .i64 (l : Int) ∧ iv = .int .i64 (i : Int) ∧ Hid (Reg (Cor.new fa) b k 0 0 0 (l : Int) [] [] (2000 + 200 * (i : Int)) ((B : Int) - (l : Int)) w wr [])) (fun _ iv _ => 30 - (intOf iv).toNat)
  case atStart => exact ⟨0, B, Nat.zero_le _, Nat.zero_le _, Nat.le_refl _, rfl, rfl, Lib.hid (by rw [show (B : Int) - (B : Int) = 0 by omega]; exact HR3.out.most (by decide) (by decide))⟩
  case round =>
    clear HR3
    rename World => W2
    obtain ⟨i, l, hi1, hi2, hlB, rfl, rfl, hR⟩ := hrel
    by_cases hlt : i < M ∧ i < 30
    · obtain ⟨hl1, hl2⟩ := hlt
      obtain ⟨bb, oo, rfl, hbb, hcc⟩ := HK.out (by intro h; have := HM.out; rw [h] at this; simp at this; omega)
      obtain ⟨x, hx⟩ : ∃ x, zs.getD i 0 = x := ⟨_, rfl⟩
      have hcell : W2.cell? ⟨bb, oo + i, none⟩ = some (.int .i64 x) := by
        rw [hR.out.up.cell (p := ⟨bb, oo + i, none⟩) hbb (fun f => f), hcc i hl1, hx]
      have ha1 := i64_and15 x
      obtain ⟨m, hm⟩ : ∃ m : Nat, x % 16 = (m : Int) := ⟨(x % 16).toNat, by omega⟩
      have hm16 : m ≤ 15 := by omega
      rw [hm] at ha1
      clear hcc hx hbb hm
      by_cases hfit : 8 + 8 * m ≤ l
      · obtain ⟨l2, hl2e⟩ : ∃ l2 : Nat, l = l2 + (8 + 8 * m) := ⟨l - (8 + 8 * m), by omega⟩
        have HID := Lib.hid (reg_id hR.out rfl rfl m (by omega) (by omega) ((l : Int) - (8 + 8 * (m : Int))) (.inr ⟨by omega, rfl⟩))
        have hw1 : IntKind.i64.wrap ((l : Int) - (8 + 8 * (m : Int))) = (l2 : Int) := by rw [IntWalk.i64_in _ (by omega)]; omega
        have hw2 : IntKind.i64.wrap ((B : Int) - (l2 : Int)) = (B : Int) - (l2 : Int) := IntWalk.i64_in _ (by omega)
        have hng : ¬ (l : Int) < 8 + 8 * (m : Int) := by omega
        have HL := Lib.hid hl2e
        clear hR hl2e
        go_upto_region 19 with (go_at_call 36; refine HID.out.mono ?_; rintro e w4 ⟨oa, oc, rfl, hR4⟩)
        have hck := reg_clocks hR4
        rw [show (B : Int) - (l : Int) + (8 + 8 * (m : Int)) = (B : Int) - (l2 : Int) by have := HL.out; omega] at hck hR4
        rw [show (l : Int) - (8 + 8 * (m : Int)) = (l2 : Int) by have := HL.out; omega] at hR4
        have HCK := Lib.hid hck
        have HR4 := Lib.hid hR4
        clear hck hR4 HID hcell ha1
        go_wp2_with (first | (go_at_call 25; refine (num_any _ _).mono ?_; rintro e w' ⟨rfl, rfl⟩) | (go_at_call 31; refine HCK.out.mono ?_; rintro e w7 ⟨rfl, rfl⟩))
        refine ⟨?rel, ?measure⟩
        case rel => exact ⟨i + 1, l2, by omega, by omega, by have := HL.out; omega, rfl, by go_num, Lib.hid ((HR4.out.most (by omega) (by omega)).rowsub fun r hr => (by cases hr))⟩
        case measure => simp [intOf]; omega
      · have HG := Lib.hid (reg_gone hR.out.nil 159 (by decide) (by decide) 0 none 0 [] List.mem_cons_self (m : Int) (id_may m (by omega)) (by omega) (by rw [id_many]; omega) (by rw [id_many]; omega))
        have hgt : (l : Int) < 8 + 8 * (m : Int) := by omega
        clear hR
        go_upto_region 16 with (go_at_call 36; refine HG.out.mono ?_; rintro e w4 ⟨rfl, hG4⟩)
        have HRL := Lib.hid (gone_run hG4 159 0 1 (.slice none 0 0))
        have hck := gone_clocks hG4
        rw [show (B : Int) - (l : Int) + (l : Int) = (B : Int) by omega] at hck
        have HCK := Lib.hid hck
        have HLO := Lib.hid (gone_lost hG4)
        have HU := Lib.hid hG4.up
        clear hG4 hck HG hcell ha1
        go_wp2_with (first | (go_at_call 36; refine HRL.out.mono ?_; rintro e w7 ⟨rfl, rfl⟩) | (go_at_call 25; refine (num_any _ _).mono ?_; rintro e w' ⟨rfl, rfl⟩) | (go_at_call 31; refine HCK.out.mono ?_; rintro e w7 ⟨rfl, rfl⟩) | (go_at_call 46; refine HLO.out.mono ?_; rintro e w7 ⟨rfl, rfl⟩))
        go_ret
        exact ⟨rfl, HU.out⟩
    · have HU := Lib.hid hR.out.up
      have HLO := Lib.hid (reg_lost hR.out)
      have hor : M ≤ i ∨ i < M ∧ i = 30 := by omega
      clear hR hlt
      rcases hor with h | ⟨h, rfl⟩
      all_goals
        go_wp2_with (go_at_call 46; refine HLO.out.mono ?_; rintro e w7 ⟨rfl, rfl⟩)
        go_ret
        exact ⟨rfl, HU.out⟩
end Go.Proofs.YtkjdhkpkcepilaaGreat
