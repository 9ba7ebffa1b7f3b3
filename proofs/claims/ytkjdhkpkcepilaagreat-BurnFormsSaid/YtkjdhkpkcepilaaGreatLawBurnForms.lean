/- lichenlaw17.BurnForms. -/
import Derived.Test.YtkjdhkpkcepilaaGreatAwake17
import Derived.Test.YtkjdhkpkcepilaaGreatNums
import Derived.BigQuiet
namespace Go.Proofs.YtkjdhkpkcepilaaGreat
open Go.RowKit
def bAts (m : Int) : List Int := [-m, 4096 + m, 4095, 3000, 0, 2047]
def bTexts (Z : ByteArray) : List ByteArray := [⟨#[120]⟩, ⟨#[]⟩, ⟨#[120, 121]⟩, Z, ⟨#[120]⟩, ⟨#[120, 121]⟩]
def bWant : List Int := [1700, 1700, 1700, 1700, 1701, 1701]
theorem bforms (k : Nat) (m : Int) (hm : 1 ≤ m ∧ m ≤ 1024) (Z : ByteArray) (hZ : (Z.size : Int) = 512 + m) (j : Nat) (hj : j < 6) (w : World) :
    Calls Tryz.prog 29 #[.pointer (some ⟨k, 0, none⟩), .int .i64 ((bAts m).getD j 0), .string ((bTexts Z).getD j ⟨#[]⟩)] w fun e w' => e = .returned (.int .i64 (bWant.getD j 0)) ∧ Upd none' w w' := by
  rcases (show j = 0 ∨ j = 1 ∨ j = 2 ∨ j = 3 ∨ j = 4 ∨ j = 5 by omega) with rfl | rfl | rfl | rfl | rfl | rfl
  · refine (burn_no k (-m) ⟨#[120]⟩ (decide_eq_false (by show ¬ (0 ≤ ((1 : Nat) : Int) ∧ _ ∧ _ ∧ _); omega)) w).mono ?_
    rintro e w' ⟨rfl, rfl⟩
    exact ⟨rfl, Upd.refl _ _⟩
  · refine (burn_no k (4096 + m) ⟨#[]⟩ (decide_eq_false (by show ¬ (0 ≤ ((0 : Nat) : Int) ∧ _ ∧ _ ∧ 4096 + m ≤ 4096 - ((0 : Nat) : Int)); omega)) w).mono ?_
    rintro e w' ⟨rfl, rfl⟩
    exact ⟨rfl, Upd.refl _ _⟩
  · refine (burn_no k 4095 ⟨#[120, 121]⟩ (by decide) w).mono ?_
    rintro e w' ⟨rfl, rfl⟩
    exact ⟨rfl, Upd.refl _ _⟩
  · refine (burn_no k 3000 Z (decide_eq_false (by omega)) w).mono ?_
    rintro e w' ⟨rfl, rfl⟩
    exact ⟨rfl, Upd.refl _ _⟩
  · exact burn_image k 0 ⟨#[120]⟩ (by decide) (by decide) (by decide) (by decide) w
  · exact burn_image k 2047 ⟨#[120, 121]⟩ (by decide) (by decide) (by decide) (by decide) w
set_option maxRecDepth 100000 in
set_option maxHeartbeats 8000000 in
theorem lawBurnForms (w : World) (which : Int) (_ : (Lit.int .i64 which).wf = true) (x : Int) (_ : (Lit.int .i64 x).wf = true) :
    Calls Tryz.prog 7 #[.int .i64 which, .int .i64 x] w fun e w' => e = .returned (.bool true) ∧ Upd none' w w' := by
  obtain ⟨m, hm1, hm2, hmand, hmw⟩ := many_1023 x
  obtain ⟨j, hj, hj6⟩ := uN which 6 (by decide) (by decide)
  rw [show ((6 : Nat) : Int) = 6 from rfl] at hj
  obtain ⟨z, hz⟩ : ∃ z : Nat, z = 512 + m := ⟨_, rfl⟩
  have hw1 : IntKind.i64.wrap (512 + (m : Int)) = (z : Int) := by rw [IntWalk.i64_in _ (by omega)]; omega
  have hw2 : IntKind.i64.wrap (4096 + (m : Int)) = 4096 + (m : Int) := IntWalk.i64_in _ (by omega)
  have hw3 : IntKind.i64.wrap (-(m : Int)) = -(m : Int) := IntWalk.i64_in _ (by omega)
  obtain ⟨fa, hfa⟩ : ∃ fa : ByteArray, (⟨(freshL ⟨#[97]⟩).toArray⟩ : ByteArray) = fa := ⟨_, rfl⟩
  have hsz : fa.size = 4096 := by rw [← hfa]; simpa [ByteArray.size] using freshL_len _
  have HFA := Lib.hid hfa
  have HZ := Lib.hid hz
  clear hfa
  go_enter Tryz.func7, Tryz.ntmps7
  go_upto_region 5 with (first | (go_at_call 26; refine (awake17 _).mono ?_; rintro e w0 ⟨rfl, hU1⟩) | (go_at_call 27; refine (c_twins17 hU1 _ (by decide) fa HFA.out).mono ?_; rintro e w1 ⟨b, r, rfl, hC1⟩))
  have HN := Lib.hid (rdy_new Own.emp_ok (at_new fa) hC1 (Int.le_refl 0) (by decide))
  clear hC1
  go_upto_region 8 with (first | (go_at_call 28; refine HN.out.mono ?_; rintro e w2 ⟨kk, fo, fi, rfl, hR2⟩) | (go_at_call 25; refine (num_any _ _).mono ?_; rintro e w' ⟨rfl, rfl⟩))
  have HC := Lib.hid (rdy_cells hR2 fa rfl)
  have hR3 := hR2.lit (ints (bAts m)) 3 6 rfl (by decide)
  have HR3 := Lib.hid hR3
  clear hR2 hR3 HN
  go_upto_region 12 with (go_at_call 24; refine HC.out.mono ?_; rintro e w3 ⟨rfl, rfl⟩)
  clear HC
  obtain ⟨W3, hW3⟩ : ∃ W3 : World, W3 = w2.alloc (.cells (ints (bAts m)).toArray 3) := ⟨_, rfl⟩
  change Code.wp _ _ _ _ (w2.alloc (.cells (ints (bAts m)).toArray 3))
  rw [← hW3] at HR3 ⊢
  clear hW3
  generalize w2.heap.size = g1 at *
  have hmk := make_bytesN z (by omega)
  clear hz
  have hBz : Buf (W3.alloc (.cells (bytesV (List.replicate z 0)).toArray 5)) W3.heap.size (List.replicate z 0) 5 := ⟨[], (0, 0), by rw [List.append_nil]; exact heap_alloc_new W3 _, .inl rfl⟩
  have hst := fun cap => run_string_buf (P := Tryz.prog) hBz 53 5 9 Tryz.underlying53 Tryz.underlying5 Tryz.underlying9 z cap List.length_replicate
  have hR4 := (((HR3.out.fr ((Upd.refl none' W3).alloc (.cells (bytesV (List.replicate z 0)).toArray 5))).lit ((bTexts ⟨Array.replicate z 0⟩).map Value.string) 9 6 rfl (by decide)).lit (ints bWant) 3 6 rfl (by decide))
  have HR4 := Lib.hid hR4
  clear hR4 hBz
  go_upto_region 15 with fail
  clear hmk hst hw1 hw2 hw3 hmand hmw hj
  have hsz1 : ∀ (W : World) (c : Array Value) (t : TypeId), (W.alloc (.cells c t)).heap.size = W.heap.size + 1 := fun W c t => by simp
  have hR5 := HR4.out
  simp only [hsz1] at hR5
  obtain ⟨W5, hW5⟩ : ∃ W5 : World, W5 = ((W3.alloc (.cells (bytesV (List.replicate z 0)).toArray 5)).alloc (.cells ((bTexts ⟨Array.replicate z 0⟩).map Value.string).toArray 9)).alloc (.cells (ints bWant).toArray 3) := ⟨_, rfl⟩
  change Code.wp _ _ _ _ (((W3.alloc (.cells (bytesV (List.replicate z 0)).toArray 5)).alloc (.cells ((bTexts ⟨Array.replicate z 0⟩).map Value.string).toArray 9)).alloc (.cells (ints bWant).toArray 3))
  rw [← hW5] at hR5 ⊢
  clear hW5 HR4 HR3
  obtain ⟨g5, hg5⟩ : ∃ g5, W3.heap.size + 1 = g5 := ⟨_, rfl⟩
  rw [hg5] at hR5 ⊢
  obtain ⟨g6, hg6⟩ : ∃ g6, g5 + 1 = g6 := ⟨_, rfl⟩
  rw [hg6] at hR5 ⊢
  clear hg5 hg6
  obtain ⟨x1, o1, e1, hx1, hc1⟩ := (hR5.rs (List.mem_cons_of_mem _ (List.mem_cons_of_mem _ List.mem_cons_self))).cells (by decide)
  obtain ⟨x2, o2, e2, hx2, hc2⟩ := (hR5.rs (List.mem_cons_of_mem _ List.mem_cons_self)).cells (by decide)
  obtain ⟨x3, o3, e3, hx3, hc3⟩ := (hR5.rs List.mem_cons_self).cells (by decide)
  simp only [Option.some.injEq, Addr.mk.injEq, and_true] at e1 e2 e3
  obtain ⟨rfl, rfl⟩ := e1
  obtain ⟨rfl, rfl⟩ := e2
  obtain ⟨rfl, rfl⟩ := e3
  have k1 := hc1 j hj6
  have k2 := hc2 j hj6
  have k3 := hc3 j hj6
  rw [Nat.zero_add] at k1 k2 k3
  rw [ints_at _ _ (by exact hj6)] at k1 k3
  have k2' : W5.cell? ⟨g5, j, none⟩ = some (.string ((bTexts ⟨Array.replicate z 0⟩).getD j ⟨#[]⟩)) := by
    rw [k2, List.getElem?_map, List.getD_eq_getElem?_getD, List.getElem?_eq_getElem (show j < (bTexts ⟨Array.replicate z 0⟩).length from hj6)]
    rfl
  have HF := Lib.hid (fun w => bforms kk m (by omega) ⟨Array.replicate z 0⟩ (by rw [show (⟨Array.replicate z 0⟩ : ByteArray).size = z from Array.size_replicate, HZ.out]; omega) j hj6 w)
  obtain ⟨A, hA⟩ : ∃ A, (bAts m).getD j 0 = A := ⟨_, rfl⟩
  obtain ⟨T, hT⟩ : ∃ T, (bTexts ⟨Array.replicate z 0⟩).getD j ⟨#[]⟩ = T := ⟨_, rfl⟩
  obtain ⟨V, hV⟩ : ∃ V, bWant.getD j 0 = V := ⟨_, rfl⟩
  rw [hA] at k1 HF
  rw [hT] at k2' HF
  rw [hV] at k3 HF
  have HR := Lib.hid hR5
  have hjI : (j : Int) < 6 := by omega
  have q1 : ∀ u : UW W5, u.val.cell? ⟨g1, j, none⟩ = some (.int .i64 A) := fun u => (u.upd.cell (p := ⟨g1, j, none⟩) hx1 (fun f => f)).trans k1
  have q2 : ∀ u : UW W5, u.val.cell? ⟨g5, j, none⟩ = some (.string T) := fun u => (u.upd.cell (p := ⟨g5, j, none⟩) hx2 (fun f => f)).trans k2'
  have Q3 : Hid (∀ w', Upd none' W5 w' → w'.cell? ⟨g6, j, none⟩ = some (.int .i64 V)) := Lib.hid (fun w' u => (u.cell (p := ⟨g6, j, none⟩) hx3 (fun f => f)).trans k3)
  clear hR5 k1 k2 k2' k3 hc1 hc2 hc3 hA hT hV hsz1 hx1 hx2 hx3
  refine wp_region_upd_lit W5 (Upd.refl none' W5) (by kernel_rfl) (by kernel_rfl) ?_
  repeat (go_big_quiet_step ((go_at_call 29; exact quiet_upd (HF.out _))))
  refine wpQuiet_nil ?_
  rintro _ ⟨⟨W6, hU6⟩, rfl⟩
  clear q1 q2
  go_upto_region 17 with (go_at_call 29; refine (burn_empty kk 0 (by decide) _).mono ?_; rintro e W7 ⟨rfl, hU7⟩)
  have HPN := Lib.hid (fun w => pages_no 0 (-(m : Int)) (decide_eq_false (by omega)) w)
  have HPZ : Hid (∀ w, Calls Tryz.prog 30 #[.int .i64 4096, .int .i64 0] w fun e w' => ∃ oa oc, e = .returned (.tuple #[.slice oa 0 oc, .int .i64 0]) ∧ Upd none' w w') := Lib.hid (fun w => (pages_ok 4096 0 (by decide) (by decide) w).mono (by
    rintro e w' ⟨v, rfl, hrow, -, hU9⟩
    obtain ⟨oa, oc, rfl, -⟩ := hrow.form
    exact ⟨oa, oc, rfl, hU9⟩))
  have hw3 : IntKind.i64.wrap (-(m : Int)) = -(m : Int) := IntWalk.i64_in _ (by omega)
  have HU7 := Lib.hid (hU6.trans hU7 (fun _ _ f => f))
  clear hU6 hU7
  go_upto_region 18 with (go_at_call 30; refine (HPN.out _).mono ?_; rintro e W8 ⟨rfl, rfl⟩)
  go_upto_region 19 with (go_at_call 30; refine (HPZ.out _).mono ?_; rintro e W9 ⟨oa, oc, rfl, hU9⟩)
  have hU := HU7.out.trans hU9 (fun _ _ f => f)
  have hR9 := HR.out.fr hU
  have q3 : ∀ u : UW W9, u.val.cell? ⟨g6, j, none⟩ = some (.int .i64 V) := fun u => Q3.out _ (hU.trans u.upd (fun _ _ f => f))
  have HCK := Lib.hid (fun (u : UW W9) => rdy_clocks (hR9.fr u.upd))
  have HCE := Lib.hid (fun (u : UW W9) => rdy_cells (hR9.fr u.upd) fa rfl)
  have HUP := Lib.hid hR9.up
  clear hU9 hU hR9 HPN HPZ
  refine wp_region_upd_lit W9 (Upd.refl none' W9) (by kernel_rfl) (by kernel_rfl) ?_
  repeat (go_big_quiet_step ((first | (go_at_call 25; exact quiet_eq (num_any _ _)) | (go_at_call 31; exact quiet_eq (HCK.out _)) | (go_at_call 24; exact quiet_eq (HCE.out _)))))
  refine wpQuiet_nil ?_
  rintro _ ⟨⟨W10, hU10⟩, rfl⟩
  go_wp2
  go_ret
  exact ⟨rfl, HUP.out.trans hU10 (fun _ _ f => f)⟩
end Go.Proofs.YtkjdhkpkcepilaaGreat
