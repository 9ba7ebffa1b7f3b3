/- lichenlaw16.FetchBytes. -/
import Derived.Test.YtbflnpkgbpckfaaGreatAwake16
import Derived.Test.YtbflnpkgbpckfaaGreatNums
namespace Go.Proofs.YtbflnpkgbpckfaaGreat
open Go.RowKit
theorem u3584 (x : Int) : ∃ j : Nat, (IntKind.u64.wrap x).tmod 3584 = (j : Int) ∧ j < 3584 := by
  rw [IntKind.wrap_u64]
  have h0 : 0 ≤ x % 18446744073709551616 := Int.emod_nonneg _ (by decide)
  rw [Int.tmod_eq_emod_of_nonneg h0]
  have h1 := Int.emod_nonneg (x % 18446744073709551616) (show (3584 : Int) ≠ 0 by decide)
  have h2 := Int.emod_lt_of_pos (x % 18446744073709551616) (show (0 : Int) < 3584 by decide)
  exact ⟨(x % 18446744073709551616 % 3584).toNat, by omega, by omega⟩
theorem u513 (x : Int) : ∃ j : Nat, (IntKind.u64.wrap x).tmod 513 = (j : Int) ∧ j < 513 := by
  rw [IntKind.wrap_u64]
  have h0 : 0 ≤ x % 18446744073709551616 := Int.emod_nonneg _ (by decide)
  rw [Int.tmod_eq_emod_of_nonneg h0]
  have h1 := Int.emod_nonneg (x % 18446744073709551616) (show (513 : Int) ≠ 0 by decide)
  have h2 := Int.emod_lt_of_pos (x % 18446744073709551616) (show (0 : Int) < 513 by decide)
  exact ⟨(x % 18446744073709551616 % 513).toNat, by omega, by omega⟩
set_option maxRecDepth 100000 in
set_option maxHeartbeats 8000000 in
theorem lawFetchBytes (w : World) (s : ByteArray) (hs : s.size ≤ 9223372036854775807) (at_ : Int) (_ : (Lit.int .i64 at_).wf = true) (many : Int) (_ : (Lit.int .i64 many).wf = true) :
    Calls Tryz.prog 10 #[.string s, .int .i64 at_, .int .i64 many] w fun e w' => e = .returned (.bool true) ∧ Upd none' w w' := by
  obtain ⟨k, hkat, hk⟩ := u3584 at_
  obtain ⟨m, hmat, hm⟩ := u513 many
  obtain ⟨fa, hfa⟩ : ∃ fa : ByteArray, (⟨(freshL s).toArray⟩ : ByteArray) = fa := ⟨_, rfl⟩
  have hsz : fa.size = 4096 := by rw [← hfa]; simpa [ByteArray.size] using freshL_len s
  have HFA := Lib.hid hfa
  clear hfa
  go_enter Tryz.func10, Tryz.ntmps10
  go_upto_region 4 with (first | (go_at_call 32; refine (awake16 _).mono ?_; rintro e w0 ⟨rfl, hU1⟩) | (go_at_call 33; refine (c_twins16 hU1 _ hs fa HFA.out).mono ?_; rintro e w1 ⟨b, r, rfl, hC1⟩))
  have HN := Lib.hid (rdy_new Own.emp_ok (at_new fa) hC1 (Int.le_refl 0) (by decide))
  clear hC1
  go_upto_region 7 with (first | (go_at_call 34; refine HN.out.mono ?_; rintro e w2 ⟨kk, fo, fi, rfl, hR2⟩) | (go_at_call 19; refine (num_any _ _).mono ?_; rintro e w' ⟨rfl, rfl⟩))
  have HE := Lib.hid (rdy_en hR2 rfl rfl (by decide))
  clear hR2
  go_upto_region 8 with (go_at_call 35; refine HE.out.mono ?_; rintro e w3 ⟨oa3, oc3, rfl, hR3⟩)
  have HP := Lib.hid (rdy_put hR3 rfl rfl rfl (by decide))
  clear hR3
  go_upto_region 11 with (go_at_call 35; refine HP.out.mono ?_; rintro e w4 ⟨oa4, oc4, rfl, hR4⟩)
  have HF := Lib.hid (rdy_fetch hR4 rfl rfl rfl fa rfl (k : Int) m (by omega) (by omega) (by omega) (by omega))
  clear hR4 HE HP HN
  go_upto_region 12 with (go_at_call 36; refine HF.out.mono ?_; rintro e w5 ⟨rfl, hR5⟩)
  have HC := Lib.hid (rdy_cells hR5 fa rfl)
  have HU := Lib.hid hR5.up
  clear hR5 HF
  go_upto_region 13 with (go_at_call 20; refine HC.out.mono ?_; rintro e w6 ⟨rfl, rfl⟩)
  have hx := fetched_cut fa hsz k m (by omega)
  clear HC HFA hkat hmat
  go_wp2_with (go_at_call 19; refine (num_any _ _).mono ?_; rintro e w' ⟨rfl, rfl⟩)
  go_ret
  exact ⟨rfl, HU.out⟩
end Go.Proofs.YtbflnpkgbpckfaaGreat
