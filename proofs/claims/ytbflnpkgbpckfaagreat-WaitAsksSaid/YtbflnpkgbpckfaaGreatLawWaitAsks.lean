/- lichenlaw14.WaitAsks. -/
import Derived.Test.YtbflnpkgbpckfaaGreatAwake14
import Derived.Test.YtbflnpkgbpckfaaGreatNums
namespace Go.Proofs.YtbflnpkgbpckfaaGreat
open Go.RowKit
theorem u400 (x : Int) : ∃ j : Nat, (IntKind.u64.wrap x).tmod 400 = (j : Int) ∧ j < 400 := by
  have h : IntKind.u64.wrap x = x % 18446744073709551616 := by first | exact IntKind.wrap_u64 x | rfl
  refine ⟨(x % 18446744073709551616 % 400).toNat, ?_, by omega⟩
  rw [h, Int.tmod_eq_emod_of_nonneg (by omega)]
  omega
set_option maxRecDepth 100000 in
set_option maxHeartbeats 8000000 in
theorem lawWaitAsks (w : World) (duration : Int) (_ : (Lit.int .i64 duration).wf = true) :
    Calls Tryz.prog 12 #[.int .i64 duration] w fun e w' => e = .returned (.bool true) ∧ Upd none' w w' := by
  obtain ⟨j, hj, hj4⟩ := u400 duration
  obtain ⟨d, hd, hd1, hd4⟩ : ∃ d : Nat, (d : Int) = 1 + (j : Int) ∧ 1 ≤ d ∧ d ≤ 400 := ⟨1 + j, by omega, by omega, by omega⟩
  have hwd : IntKind.i64.wrap (1 + (j : Int)) = (d : Int) := by rw [hd]; exact IntWalk.i64_in _ (by omega)
  obtain ⟨i, hi⟩ : ∃ i : Nat, i = (d + 6) / 16 := ⟨_, rfl⟩
  obtain ⟨fa, hfa⟩ : ∃ fa : ByteArray, (⟨(freshL ⟨#[97]⟩).toArray⟩ : ByteArray) = fa := ⟨_, rfl⟩
  have HFA := Lib.hid hfa
  have HI := Lib.hid (show (∀ r : Nat, r < i → 16 * (r : Int) + 9 < (d : Int)) ∧ ¬ 16 * (i : Int) + 9 < (d : Int) ∧ i ≤ 25 from ⟨fun r hr => by omega, by omega, by omega⟩)
  clear hfa hi
  have HD := Lib.hid (And.intro hd1 hd4)
  clear hd
  go_enter Tryz.func12, Tryz.ntmps12
  go_upto_region 4 with (first | (go_at_call 40; refine (awake14 _).mono ?_; rintro e w0 ⟨rfl, hU1⟩) | (go_at_call 41; refine (c_twins14 hU1 _ (by decide) fa HFA.out).mono ?_; rintro e w1 ⟨b, r, rfl, hC1⟩))
  have HN := Lib.hid (rdy_new Own.emp_ok (at_new fa) hC1 (Int.le_refl 0) (by decide))
  clear hC1
  go_upto_region 7 with (first | (go_at_call 34; refine HN.out.mono ?_; rintro e w2 ⟨k, fo, fi, rfl, hR2⟩) | (go_at_call 19; refine (num_any _ _).mono ?_; rintro e w' ⟨rfl, rfl⟩))
  have hok0 : (Cor.new fa).Ok := ⟨rfl, fun j hj => by cases hj⟩
  have hw := rdy_wait hR2 hok0 0 (fun r hr => absurd hr (Nat.not_lt_zero r)) (by kernel_rfl) 5 (by decide) (by decide) (by decide)
  rw [cpass_none (show (Cor.new fa).job = none from rfl)] at hw
  have HW := Lib.hid hw
  clear hR2 hw HN hok0
  go_upto_region 9 with (go_at_call 42; refine HW.out.mono ?_; rintro e w3 ⟨rfl, hR3⟩)
  have HX := Lib.hid (rdy_next hR3 (d : Int) (by have := HD.out; omega))
  clear hR3 HW
  go_upto_region 10 with (go_at_call 43; refine HX.out.mono ?_; rintro e w4 ⟨rfl, hR4⟩)
  have HE := Lib.hid (rdy_en hR4 rfl rfl (by decide))
  clear hR4 HX
  go_upto_region 11 with (go_at_call 35; refine HE.out.mono ?_; rintro e w5 ⟨oa5, oc5, rfl, hR5⟩)
  have HP := Lib.hid (rdy_erase hR5 rfl rfl 3000 (by decide) (by decide))
  clear hR5 HE
  go_upto_region 12 with (go_at_call 35; refine HP.out.mono ?_; rintro e w6 ⟨oa6, oc6, rfl, hR6⟩)
  obtain ⟨c, hcj, hcg, hR7⟩ : ∃ c : Cor, c.job = some ⟨5, 0, ⟨#[]⟩, (d : Int), false⟩ ∧ c.goes = false ∧ Rdy .emp c b k fo fi 59 56 w w6 [] := ⟨_, rfl, rfl, hR6⟩
  have hok : c.Ok := ⟨hcg, fun j hj => by rw [hcj] at hj; simp only [Option.some.injEq] at hj; subst hj; have := HD.out; dsimp only; omega⟩
  have HR7 := Lib.hid hR7
  have HCK := Lib.hid (rdy_clocks hR7)
  clear hR6 hR7 HP
  go_upto_region 13 with (go_at_call 39; refine HCK.out.mono ?_; rintro e w7 ⟨rfl, rfl⟩)
  have hw := rdy_wait HR7.out hok i (fun r hr => by rw [busy_asks hok hcj rfl]; exact decide_eq_true (HI.out.1 r hr)) (by rw [busy_asks hok hcj rfl]; exact decide_eq_false (by have := HI.out.2.1; dsimp only; omega)) 256 (by have := HI.out.2.2; omega) (by decide) (by have := HI.out.2.2; omega)
  have HW := Lib.hid hw
  clear hw HCK HR7 hok hcj hcg
  go_upto_region 14 with (go_at_call 42; refine HW.out.mono ?_; rintro e w8 ⟨rfl, hR8⟩)
  have HCK := Lib.hid (rdy_clocks hR8)
  have HU := Lib.hid hR8.up
  clear hR8 HW hj hwd
  have hib : i ≤ 25 := HI.out.2.2
  have hdb : 1 ≤ d ∧ d ≤ 400 := HD.out
  go_wp2
  go_loopw [13] (fun iv wr => ∃ r : Nat, r ≤ i ∧ iv = .int .i64 ((r : Int) + 1) ∧ Hid (w8 = wr)) (fun iv _ => i + 1 - (intOf iv).toNat)
  case atStart => exact ⟨0, by omega, rfl, Lib.hid rfl⟩
  case round =>
    obtain ⟨r, hr, rfl, hR⟩ := hrel
    have hww := hR.out
    subst hww
    have e1 : IntKind.i64.wrap ((r : Int) + 1 - 1) = (r : Int) := by rw [show (r : Int) + 1 - 1 = (r : Int) by omega]; exact IntWalk.i64_in _ (by omega)
    by_cases hlt : r < i
    · have hl := HI.out.1 r hlt
      go_wp2
      refine ⟨?rel, ?measure⟩
      case rel => exact ⟨r + 1, by omega, by go_num, Lib.hid trivial⟩
      case measure => simp [intOf]; omega
    · obtain rfl : r = i := by omega
      have hl := HI.out.2.1
      go_wp2_with (first | (go_at_call 19; refine (num_any _ _).mono ?_; rintro e w' ⟨rfl, rfl⟩) | (go_at_call 39; refine HCK.out.mono ?_; rintro e w9 ⟨rfl, rfl⟩))
      go_ret
      exact ⟨rfl, HU.out⟩
end Go.Proofs.YtbflnpkgbpckfaaGreat
