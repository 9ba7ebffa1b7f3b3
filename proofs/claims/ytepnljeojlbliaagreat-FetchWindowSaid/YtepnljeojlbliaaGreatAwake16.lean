/- lichenlaw16.awake. -/
import Derived.Test.YtepnljeojlbliaaGreatTwins16
import Derived.Test.YtepnljeojlbliaaGreatReady
import Derived.Test.YtepnljeojlbliaaGreatLaw0
namespace Go.Proofs.YtepnljeojlbliaaGreat
open Go.RowKit
theorem fr_xyz : (freshL ⟨#[120, 121, 122]⟩).getD 4094 0 = 122 ∧ (freshL ⟨#[120, 121, 122]⟩).getD 4095 0 = 120 := by
  unfold freshL
  rw [if_neg (by decide)]
  constructor
  all_goals
    rw [List.getD_eq_getElem?_getD, List.getElem?_map, List.getElem?_range (by decide)]
    kernel_rfl
theorem xyz_two (fa : ByteArray) (h : (⟨(freshL ⟨#[120, 121, 122]⟩).toArray⟩ : ByteArray) = fa) : (⟨(fetched fa 4094 2).toArray⟩ : ByteArray) = ⟨#[122, 120]⟩ := by
  obtain ⟨h1, h2⟩ := fr_xyz
  have e : fetched fa 4094 2 = [122, 120] := by
    show [fa.data.toList.getD 4094 0, fa.data.toList.getD 4095 0] = _
    rw [← h]
    dsimp only
    rw [h1, h2]
  rw [e]
set_option maxRecDepth 100000 in
set_option maxHeartbeats 8000000 in
theorem awake16 (w : World) :
    Calls Tryz.prog 47 #[] w fun e w' => e = .returned (.bool true) ∧ Upd none' w w' := by
  obtain ⟨fa, hfa⟩ : ∃ fa : ByteArray, (⟨(freshL ⟨#[120, 121, 122]⟩).toArray⟩ : ByteArray) = fa := ⟨_, rfl⟩
  have HFA := Lib.hid hfa
  clear hfa
  go_enter Tryz.func47, Tryz.ntmps47
  go_upto_region 2 with (go_at_call 48; refine (c_twins16 (Upd.refl none' w) _ (by decide) fa HFA.out).mono ?_; rintro e w1 ⟨b, r, rfl, hC1⟩)
  have HN := Lib.hid (rdy_new Own.emp_ok (at_new fa) hC1 (Int.le_refl 0) (by decide))
  clear hC1
  go_upto_region 5 with (first | (go_at_call 49; refine HN.out.mono ?_; rintro e w2 ⟨k, fo, fi, rfl, hR2⟩) | (go_at_call 16; refine (num_any _ _).mono ?_; rintro e w' ⟨rfl, rfl⟩))
  have HE := Lib.hid (rdy_en hR2 rfl rfl (by decide))
  clear hR2
  go_upto_region 6 with (go_at_call 50; refine HE.out.mono ?_; rintro e w3 ⟨oa3, oc3, rfl, hR3⟩)
  have HP := Lib.hid (rdy_put hR3 rfl rfl rfl (by decide))
  clear hR3
  go_upto_region 7 with (go_at_call 50; refine HP.out.mono ?_; rintro e w4 ⟨oa4, oc4, rfl, hR4⟩)
  have hf := rdy_fetch hR4 rfl rfl rfl fa rfl 4094 2 (by decide) (by decide) (by decide) (by decide)
  rw [xyz_two fa HFA.out] at hf
  have HF := Lib.hid hf
  have HZ := Lib.hid (fetch_zero k 4096 (by decide))
  have HO := Lib.hid (fetch_no k 4095 2 (by decide))
  have HL := Lib.hid (fetch_nil 0 1)
  clear hf hR4 HE HP HN
  go_upto_region 8 with (go_at_call 51; refine HF.out.mono ?_; rintro e w5 ⟨rfl, hR5⟩)
  have HU := Lib.hid hR5.up
  clear hR5 HF
  go_upto_region 9 with (go_at_call 51; refine (HZ.out _).mono ?_; rintro e w6 ⟨rfl, rfl⟩)
  go_upto_region 10 with (go_at_call 51; refine (HO.out _).mono ?_; rintro e w7 ⟨rfl, rfl⟩)
  go_upto_region 11 with (go_at_call 51; refine (HL.out _).mono ?_; rintro e w8 ⟨rfl, rfl⟩)
  clear HZ HO HL
  go_wp2_with (go_at_call 16; refine (num_any _ _).mono ?_; rintro e w' ⟨rfl, rfl⟩)
  go_ret
  exact ⟨rfl, HU.out⟩
end Go.Proofs.YtepnljeojlbliaaGreat
