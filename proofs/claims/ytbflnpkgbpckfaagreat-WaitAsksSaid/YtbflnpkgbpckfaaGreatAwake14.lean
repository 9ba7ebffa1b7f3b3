/- lichenlaw14.awake. -/
import Derived.Test.YtbflnpkgbpckfaaGreatTwins14
import Derived.Test.YtbflnpkgbpckfaaGreatWaitP
import Derived.Test.YtbflnpkgbpckfaaGreatLaw0
namespace Go.Proofs.YtbflnpkgbpckfaaGreat
open Go.RowKit
set_option maxRecDepth 100000 in
set_option maxHeartbeats 8000000 in
theorem awake14 (w : World) :
    Calls Tryz.prog 40 #[] w fun e w' => e = .returned (.bool true) ∧ Upd none' w w' := by
  obtain ⟨fa, hfa⟩ : ∃ fa : ByteArray, (⟨(freshL ⟨#[120, 121, 122]⟩).toArray⟩ : ByteArray) = fa := ⟨_, rfl⟩
  have HFA := Lib.hid hfa
  clear hfa
  go_enter Tryz.func40, Tryz.ntmps40
  go_upto_region 2 with (go_at_call 41; refine (c_twins14 (Upd.refl none' w) _ (by decide) fa HFA.out).mono ?_; rintro e w1 ⟨b, r, rfl, hC1⟩)
  have HN := Lib.hid (rdy_new Own.emp_ok (at_new fa) hC1 (Int.le_refl 0) (by decide))
  clear hC1
  go_upto_region 5 with (first | (go_at_call 34; refine HN.out.mono ?_; rintro e w2 ⟨k, fo, fi, rfl, hR2⟩) | (go_at_call 19; refine (num_any _ _).mono ?_; rintro e w' ⟨rfl, rfl⟩))
  have HX := Lib.hid (rdy_next hR2 40 (by decide))
  clear hR2
  go_upto_region 6 with (go_at_call 43; refine HX.out.mono ?_; rintro e w3 ⟨rfl, hR3⟩)
  have HE := Lib.hid (rdy_en hR3 rfl rfl (by decide))
  clear hR3 HX HN
  go_upto_region 7 with (go_at_call 35; refine HE.out.mono ?_; rintro e w4 ⟨oa4, oc4, rfl, hR4⟩)
  have HP := Lib.hid (rdy_erase hR4 rfl rfl 2048 (by decide) (by decide))
  clear hR4 HE
  go_upto_region 8 with (go_at_call 35; refine HP.out.mono ?_; rintro e w5 ⟨oa5, oc5, rfl, hR5⟩)
  obtain ⟨c, hcj, hcg, hR6⟩ : ∃ c : Cor, c.job = some ⟨4, 0, ⟨#[]⟩, 40, false⟩ ∧ c.goes = false ∧ Rdy .emp c b k fo fi (0 + 9 + 33) (0 + 8 + 32) w w5 [] := ⟨_, rfl, rfl, hR5⟩
  have hok : c.Ok := ⟨hcg, fun j hj => by rw [hcj] at hj; simp only [Option.some.injEq] at hj; subst hj; decide⟩
  have hw := rdy_wait_no hR6 hok 2 (fun r hr => by rw [busy_asks hok hcj rfl]; exact decide_eq_true (by dsimp only; omega)) (by decide) (by decide)
  have HW := Lib.hid hw
  clear hR5 hR6 hw HP
  go_upto_region 9 with (go_at_call 42; refine HW.out.mono ?_; rintro e w6 ⟨rfl, hR6⟩)
  have hok2 := hok.pass (16 * ((2 : Nat) : Int))
  have hw := rdy_wait hR6 hok2 0 (fun r hr => absurd hr (Nat.not_lt_zero r)) (by rw [show 16 * ((0 : Nat) : Int) = 0 from rfl, cpass_zero hok2.2, busy_asks hok hcj rfl]; exact decide_eq_false (by decide)) 9 (by decide) (by decide) (by decide)
  have HW := Lib.hid hw
  clear hR6 hw
  go_upto_region 10 with (go_at_call 42; refine HW.out.mono ?_; rintro e w7 ⟨rfl, hR7⟩)
  have hok3 := hok2.pass (16 * (((0 : Nat) : Int) + 1))
  have hw := rdy_wait hR7 hok3 0 (fun r hr => absurd hr (Nat.not_lt_zero r)) (by rw [show 16 * ((0 : Nat) : Int) = 0 from rfl, cpass_zero hok3.2, cpass_pass _ _ _ (by decide) (by decide), cpass_pass _ _ _ (by decide) (by decide), works_pass hcj rfl]; exact decide_eq_false (by decide)) 1 (by decide) (by decide) (by decide)
  have HW := Lib.hid hw
  clear hR7 hw
  go_upto_region 11 with (go_at_call 42; refine HW.out.mono ?_; rintro e w8 ⟨rfl, hR8⟩)
  have hok4 := hok3.pass (16 * (((0 : Nat) : Int) + 1))
  have hw := rdy_wait_no hR8 hok4 0 (fun r hr => absurd hr (Nat.not_lt_zero r)) (by decide) (by decide)
  have HW := Lib.hid hw
  clear hR8 hw
  go_upto_region 12 with (go_at_call 42; refine HW.out.mono ?_; rintro e w9 ⟨rfl, hR9⟩)
  have HL := Lib.hid (wait_nil 1)
  have HU := Lib.hid hR9.up
  clear hR9 HW hok hok2 hok3 hok4 hcj hcg HFA
  go_upto_region 13 with (go_at_call 42; refine (HL.out _).mono ?_; rintro e w8 ⟨rfl, rfl⟩)
  go_wp2_with (go_at_call 19; refine (num_any _ _).mono ?_; rintro e w' ⟨rfl, rfl⟩)
  go_ret
  exact ⟨rfl, HU.out⟩
end Go.Proofs.YtbflnpkgbpckfaaGreat
