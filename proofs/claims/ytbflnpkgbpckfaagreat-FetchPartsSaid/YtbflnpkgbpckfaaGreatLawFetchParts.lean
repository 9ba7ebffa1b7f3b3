/- lichenlaw16.FetchParts. -/
import Derived.Test.YtbflnpkgbpckfaaGreatAwake16
import Derived.Test.YtbflnpkgbpckfaaGreatNums
namespace Go.Proofs.YtbflnpkgbpckfaaGreat
open Go.RowKit
theorem and255N (x : Int) : ∃ m : Nat, bits .and .i64 x 255 = (m : Int) ∧ m < 256 := ⟨(x % 256).toNat, by rw [i64_and255]; omega, by omega⟩
theorem uN (x : Int) (n : Nat) (h : 0 < n) (hn : n ≤ 1048576) : ∃ j : Nat, (IntKind.u64.wrap x).tmod (n : Int) = (j : Int) ∧ j < n := by
  rw [IntKind.wrap_u64]
  have h0 : 0 ≤ x % 18446744073709551616 := Int.emod_nonneg _ (by decide)
  rw [Int.tmod_eq_emod_of_nonneg h0]
  have h1 := Int.emod_nonneg (x % 18446744073709551616) (show (n : Int) ≠ 0 by omega)
  have h2 := Int.emod_lt_of_pos (x % 18446744073709551616) (show (0 : Int) < n by omega)
  exact ⟨(x % 18446744073709551616 % n).toNat, by omega, by omega⟩
theorem parts_app (xs ys zs : List UInt8) (h : xs = ys ++ zs) : (⟨xs.toArray⟩ : ByteArray) = ⟨ys.toArray⟩ ++ ⟨zs.toArray⟩ := by
  subst h
  rfl
set_option maxRecDepth 100000 in
set_option maxHeartbeats 8000000 in
theorem lawFetchParts (w : World) (s : ByteArray) (hs : s.size ≤ 9223372036854775807) (at_ : Int) (_ : (Lit.int .i64 at_).wf = true) (many : Int) (_ : (Lit.int .i64 many).wf = true) (cut : Int) (_ : (Lit.int .i64 cut).wf = true) :
    Calls Tryz.prog 8 #[.string s, .int .i64 at_, .int .i64 many, .int .i64 cut] w fun e w' => e = .returned (.bool true) ∧ Upd none' w w' := by
  obtain ⟨m, hmand, hm⟩ := and255N many
  obtain ⟨k, hkat, hk⟩ := uN at_ (4096 - m) (by omega) (by omega)
  obtain ⟨i, hiat, hi⟩ := uN cut (m + 1) (by omega) (by omega)
  rw [show ((4096 - m : Nat) : Int) = 4096 - (m : Int) by omega] at hkat
  rw [show ((m + 1 : Nat) : Int) = (m : Int) + 1 by omega] at hiat
  obtain ⟨fa, hfa⟩ : ∃ fa : ByteArray, (⟨(freshL s).toArray⟩ : ByteArray) = fa := ⟨_, rfl⟩
  have hsz : fa.size = 4096 := by rw [← hfa]; simpa [ByteArray.size] using freshL_len s
  have HFA := Lib.hid hfa
  have HP0 := Lib.hid (fetched_parts fa hsz k m i (by omega) (by omega))
  have hw1 : IntKind.i64.wrap (4096 - (m : Int)) = 4096 - (m : Int) := IntWalk.i64_in _ (by omega)
  have hw2 : IntKind.u64.wrap (4096 - (m : Int)) = 4096 - (m : Int) := by rw [IntKind.wrap_u64]; omega
  have hw3 : IntKind.i64.wrap ((m : Int) + 1) = (m : Int) + 1 := IntWalk.i64_in _ (by omega)
  have hw4 : IntKind.u64.wrap ((m : Int) + 1) = (m : Int) + 1 := by rw [IntKind.wrap_u64]; omega
  have hw5 : IntKind.i64.wrap ((k : Int) + (i : Int)) = (k : Int) + (i : Int) := IntWalk.i64_in _ (by omega)
  have hz1 : ((4096 : Int) - (m : Int) == 0) = false := by simp; omega
  have hz2 : ((m : Int) + 1 == 0) = false := by simp; omega
  obtain ⟨mi, hmi, hmil⟩ : ∃ mi : Nat, (m : Int) - (i : Int) = (mi : Int) ∧ mi = m - i := ⟨m - i, by omega, rfl⟩
  have hw6 : IntKind.i64.wrap ((m : Int) - (i : Int)) = (mi : Int) := by rw [hmi]; exact IntWalk.i64_in _ (by omega)
  rw [← hmil] at HP0
  have HMI := Lib.hid hmil
  have HKI := Lib.hid (And.intro hk hi)
  have hll : (fetched fa (k : Int) m).length = m := fetched_len _ _ _
  have hpa := parts_app _ _ _ HP0.out
  clear hfa hmi hmil
  go_enter Tryz.func8, Tryz.ntmps8
  go_upto_region 4 with (first | (go_at_call 32; refine (awake16 _).mono ?_; rintro e w0 ⟨rfl, hU1⟩) | (go_at_call 33; refine (c_twins16 hU1 _ hs fa HFA.out).mono ?_; rintro e w1 ⟨b, r, rfl, hC1⟩))
  have HN := Lib.hid (rdy_new Own.emp_ok (at_new fa) hC1 (Int.le_refl 0) (by decide))
  clear hC1
  go_upto_region 7 with (first | (go_at_call 34; refine HN.out.mono ?_; rintro e w2 ⟨kk, fo, fi, rfl, hR2⟩) | (go_at_call 19; refine (num_any _ _).mono ?_; rintro e w' ⟨rfl, rfl⟩))
  have HE := Lib.hid (rdy_en hR2 rfl rfl (by decide))
  clear hR2
  go_upto_region 8 with (go_at_call 35; refine HE.out.mono ?_; rintro e w3 ⟨oa3, oc3, rfl, hR3⟩)
  have HP := Lib.hid (rdy_put hR3 rfl rfl rfl (by decide))
  clear hR3
  go_upto_region 9 with (go_at_call 35; refine HP.out.mono ?_; rintro e w4 ⟨oa4, oc4, rfl, hR4⟩)
  have HF := Lib.hid (rdy_fetch hR4 rfl rfl rfl fa rfl (k : Int) m (by omega) (by omega) (by omega) (by omega))
  clear hR4 HE HP HN
  go_upto_region 13 with (go_at_call 36; refine HF.out.mono ?_; rintro e w5 ⟨rfl, hR5⟩)
  have HF2 := Lib.hid (rdy_fetch hR5 rfl rfl rfl fa rfl (k : Int) i (by omega) (by omega) (by omega) (by omega))
  clear hR5 HF
  go_upto_region 14 with (go_at_call 36; refine HF2.out.mono ?_; rintro e w6 ⟨rfl, hR6⟩)
  have HF3 := Lib.hid (rdy_fetch hR6 rfl rfl rfl fa rfl ((k : Int) + (i : Int)) mi (by omega) (by have := HMI.out; omega) (by have := HMI.out; omega) (by have := HMI.out; omega))
  clear hR6 HF2
  go_upto_region 15 with (go_at_call 36; refine HF3.out.mono ?_; rintro e w7 ⟨rfl, hR7⟩)
  have HU := Lib.hid hR7.up
  clear hR7 HF3 hkat hiat hmand hw1 hw2 hw3 hw4 hw5 hw6
  have hl1 : (fetched fa (k : Int) i).length = i := fetched_len _ _ _
  have hl2 : (fetched fa ((k : Int) + (i : Int)) mi).length = mi := fetched_len _ _ _
  have hb0 : i + mi < 9223372036854775807 := by have := HMI.out; omega
  have hsum : (i : Int) + (mi : Int) = (m : Int) := by have := HMI.out; omega
  go_wp2_with (go_at_call 19; refine (num_any _ _).mono ?_; rintro e w' ⟨rfl, rfl⟩)
  go_ret
  exact ⟨rfl, HU.out⟩
end Go.Proofs.YtbflnpkgbpckfaaGreat
