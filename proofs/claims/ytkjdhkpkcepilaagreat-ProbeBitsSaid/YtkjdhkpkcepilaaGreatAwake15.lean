/- lichenlaw15.awake. -/
import Derived.Test.YtkjdhkpkcepilaaGreatTwins15
import Derived.Test.YtkjdhkpkcepilaaGreatProbeQ
import Derived.Test.YtkjdhkpkcepilaaGreatLaw0
namespace Go.Proofs.YtkjdhkpkcepilaaGreat
open Go.RowKit
set_option pp.deepTerms true in
set_option pp.maxSteps 100000 in
set_option maxRecDepth 100000 in
set_option maxHeartbeats 800000 in
theorem awake15 (w : World) :
    Calls Tryz.prog 34 #[] w fun e w' => e = .returned (.bool true) ∧ Upd none' w w' := by
  obtain ⟨fa, hfa⟩ : ∃ fa : ByteArray, (⟨(freshL ⟨#[120, 121, 122]⟩).toArray⟩ : ByteArray) = fa := ⟨_, rfl⟩
  have HFA := Lib.hid hfa
  clear hfa
  go_enter Tryz.func34, Tryz.ntmps34
  go_upto_region 2 with (go_at_call 35; refine (c_twins15 (Upd.refl none' w) _ (by decide) fa HFA.out).mono ?_; rintro e w1 ⟨b, r, rfl, hC1⟩)
  have HN := Lib.hid (rdy_new Own.emp_ok (at_new fa) hC1 (Int.le_refl 0) (by decide))
  clear hC1
  go_upto_region 5 with (first | (go_at_call 28; refine HN.out.mono ?_; rintro e w2 ⟨k, fo, fi, rfl, hR2⟩) | (go_at_call 25; refine (num_any _ _).mono ?_; rintro e w' ⟨rfl, rfl⟩))
  have HP := Lib.hid (rdy_probe hR2 rfl rfl (by decide))
  clear hR2 HN
  go_upto_region 6 with (go_at_call 37; refine HP.out.mono ?_; rintro e w3 ⟨rfl, hR3⟩)
  have HQ := Lib.hid (rdy_quad hR3 rfl rfl rfl (by decide))
  clear hR3 HP
  go_upto_region 7 with (go_at_call 38; refine HQ.out.mono ?_; rintro e w4 ⟨rfl, hR4⟩)
  have HPR := Lib.hid (rdy_protect hR4 rfl rfl rfl (by decide))
  clear hR4 HQ
  go_upto_region 8 with (go_at_call 39; refine HPR.out.mono ?_; rintro e w5 ⟨rfl, hR5⟩)
  have HS := Lib.hid (rdy_status hR5 rfl 4 2 rfl rfl)
  clear hR5 HPR
  go_upto_region 9 with (go_at_call 40; refine HS.out.mono ?_; rintro e w6 ⟨rfl, hR6⟩)
  have HU := Lib.hid hR6.up
  clear hR6 HS
  go_upto_region 10 with (go_at_call 37; refine (probe_nil _).mono ?_; rintro e w7 ⟨rfl, rfl⟩)
  go_wp2_with (first | (go_at_call 25; refine (num_any _ _).mono ?_; rintro e w' ⟨rfl, rfl⟩) | (go_at_call 38; refine (quad_nil _).mono ?_; rintro e w7 ⟨rfl, rfl⟩) | (go_at_call 39; refine (protect_nil _).mono ?_; rintro e w7 ⟨rfl, rfl⟩))
  go_ret
  exact ⟨rfl, HU.out⟩
end Go.Proofs.YtkjdhkpkcepilaaGreat
