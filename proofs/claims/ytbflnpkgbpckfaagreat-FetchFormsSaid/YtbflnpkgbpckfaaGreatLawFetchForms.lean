/- lichenlaw16.FetchForms. -/
import Derived.Test.YtbflnpkgbpckfaaGreatAwake16
import Derived.Test.YtbflnpkgbpckfaaGreatNums
import Derived.BigQuiet
namespace Go.Proofs.YtbflnpkgbpckfaaGreat
open Go.RowKit
theorem u6 (x : Int) : ∃ j : Nat, (IntKind.u64.wrap x).tmod 6 = (j : Int) ∧ j < 6 := by
  have h : IntKind.u64.wrap x = x % 18446744073709551616 := by first | exact IntKind.wrap_u64 x | rfl
  refine ⟨(x % 18446744073709551616 % 6).toNat, ?_, by omega⟩
  rw [h, Int.tmod_eq_emod_of_nonneg (by omega)]
  omega
def fAts (m : Int) : List Int := [-m, 4096 + m, 4096, 0, 0, 4000]
def fMs (m : Int) : List Int := [1, 0, 1, 512 + m, -m, 97]
theorem forms_no (m : Int) (hm : 1 ≤ m ∧ m ≤ 1024) (j : Nat) (hj : j < 6) : fmayB ((fAts m).getD j 0) ((fMs m).getD j 0) = false := by
  refine decide_eq_false ?_
  rcases (show j = 0 ∨ j = 1 ∨ j = 2 ∨ j = 3 ∨ j = 4 ∨ j = 5 by omega) with rfl | rfl | rfl | rfl | rfl | rfl
  all_goals
    simp only [fAts, fMs, List.getD_cons_zero, List.getD_cons_succ]
    omega
theorem upd_drewN (w : World) (n : Nat) : Upd none' w (w.drewN n) := (Upd.refl none' w).drewN n
set_option maxRecDepth 100000 in
set_option maxHeartbeats 8000000 in
theorem lawFetchForms (w : World) (which : Int) (_ : (Lit.int .i64 which).wf = true) (x : Int) (_ : (Lit.int .i64 x).wf = true) :
    Calls Tryz.prog 11 #[.int .i64 which, .int .i64 x] w fun e w' => e = .returned (.bool true) ∧ Upd none' w w' := by
  obtain ⟨m, hm1, hm2, hmand, hmw⟩ := many_1023 x
  obtain ⟨j, hj, hj6⟩ := u6 which
  have hw1 : IntKind.i64.wrap (512 + (m : Int)) = 512 + (m : Int) := IntWalk.i64_in _ (by omega)
  have hw2 : IntKind.i64.wrap (4096 + (m : Int)) = 4096 + (m : Int) := IntWalk.i64_in _ (by omega)
  have hw3 : IntKind.i64.wrap (-(m : Int)) = -(m : Int) := IntWalk.i64_in _ (by omega)
  obtain ⟨fa, hfa⟩ : ∃ fa : ByteArray, (⟨(freshL ⟨#[97]⟩).toArray⟩ : ByteArray) = fa := ⟨_, rfl⟩
  have HFA := Lib.hid hfa
  clear hfa
  go_enter Tryz.func11, Tryz.ntmps11
  go_upto_region 5 with (first | (go_at_call 32; refine (awake16 _).mono ?_; rintro e w0 ⟨rfl, hU1⟩) | (go_at_call 33; refine (c_twins16 hU1 _ (by decide) fa HFA.out).mono ?_; rintro e w1 ⟨b, r, rfl, hC1⟩))
  have HN := Lib.hid (rdy_new Own.emp_ok (at_new fa) hC1 (Int.le_refl 0) (by decide))
  clear hC1
  go_upto_region 8 with (first | (go_at_call 34; refine HN.out.mono ?_; rintro e w2 ⟨kk, fo, fi, rfl, hR2⟩) | (go_at_call 19; refine (num_any _ _).mono ?_; rintro e w' ⟨rfl, rfl⟩))
  have hR3 := ((hR2.lit (ints (fAts m)) 3 6 rfl (by decide)).lit (ints (fMs m)) 3 6 rfl (by decide))
  have hsz1 : ∀ (W : World) (c : Array Value) (t : TypeId), (W.alloc (.cells c t)).heap.size = W.heap.size + 1 := fun W c t => by simp
  simp only [hsz1] at hR3
  obtain ⟨g1, o1, e1, hg1, hc1⟩ := (hR3.rs (List.mem_cons_of_mem _ List.mem_cons_self)).cells (by decide)
  obtain ⟨g2, o2, e2, hg2, hc2⟩ := (hR3.rs List.mem_cons_self).cells (by decide)
  simp only [Option.some.injEq, Addr.mk.injEq, and_true] at e1 e2
  obtain ⟨rfl, rfl⟩ := e1
  obtain ⟨rfl, rfl⟩ := e2
  have k1 := hc1 j hj6
  have k2 := hc2 j hj6
  rw [ints_at _ _ (by exact hj6)] at k1 k2
  rw [Nat.zero_add] at k1 k2
  have HNO := Lib.hid (fetch_no kk _ _ (forms_no m (by omega) j hj6))
  obtain ⟨A, hA⟩ : ∃ A, (fAts m).getD j 0 = A := ⟨_, rfl⟩
  obtain ⟨B, hB⟩ : ∃ B, (fMs m).getD j 0 = B := ⟨_, rfl⟩
  rw [hA] at k1 HNO
  rw [hB] at k2 HNO
  have HZ := Lib.hid (fetch_zero kk 4096 (by decide))
  have hjI : (j : Int) < 6 := by omega
  have HR := Lib.hid hR3
  clear hR2 hR3 hc1 hc2 hA hB hg1 hg2 HN HFA hsz1
  go_upto_region 11 with fail
  obtain ⟨W5, hW5⟩ : ∃ W5 : World, W5 = (w2.alloc (.cells (ints (fAts m)).toArray 3)).alloc (.cells (ints (fMs m)).toArray 3) := ⟨_, rfl⟩
  change Code.wp _ _ _ _ ((w2.alloc (.cells (ints (fAts m)).toArray 3)).alloc (.cells (ints (fMs m)).toArray 3))
  rw [← hW5] at k1 k2 HR ⊢
  clear hW5 hw1 hw2 hw3 hmand hmw hj
  generalize w2.heap.size = g1 at *
  go_quiet ((go_at_call 36; refine Calls.quiet_of_same ((HNO.out _).mono (fun _ _ h => ⟨h.1, h.2.symm⟩))))
  go_upto_region 13 with (go_at_call 36; refine (HZ.out _).mono ?_; rintro e w5 ⟨rfl, rfl⟩)
  go_wp2_with (first | (go_at_call 19; refine (num_any _ _).mono ?_; rintro e w' ⟨rfl, rfl⟩) | (go_at_call 39; refine (rdy_clocks (HR.out.fr (upd_drewN _ _))).mono ?_; rintro e w7 ⟨rfl, rfl⟩))
  go_ret
  exact ⟨rfl, HR.out.up.trans (upd_drewN _ _) (fun _ _ f => f)⟩
end Go.Proofs.YtbflnpkgbpckfaaGreat
