/- lichenlaw17.BurnPages. -/
import Derived.Test.YtkjdhkpkcepilaaGreatAwake17
import Derived.Test.YtkjdhkpkcepilaaGreatNums
namespace Go.Proofs.YtkjdhkpkcepilaaGreat
open Go.RowKit
/-- The parts behind the first ones. -/
theorem pages_at (a n j p : Nat) (D : List Nat) (h : D ++ pagesL (a + p) (n - p) = pagesL a n) (hD : D.length = j) (hj : j < (pagesL a n).length) (hp : p ≤ n) :
    p < n ∧ (pagesL a n).getD j 0 = min (n - p) (32 - (a + p) % 32) ∧ (D ++ [min (n - p) (32 - (a + p) % 32)]) ++ pagesL (a + (p + min (n - p) (32 - (a + p) % 32))) (n - (p + min (n - p) (32 - (a + p) % 32))) = pagesL a n ∧ (j + 1 = (pagesL a n).length → n - p ≤ 32 - (a + p) % 32) ∧ (j + 1 < (pagesL a n).length → 32 - (a + p) % 32 < n - p) := by
  have hpn : p < n := by
    by_cases h0 : n - p = 0
    · rw [h0, pagesL_zero, List.append_nil] at h
      rw [← h, hD] at hj
      omega
    · omega
  have hst := pagesL_step (a + p) (n - p) (by omega)
  have e1 : a + p + min (n - p) (32 - (a + p) % 32) = a + (p + min (n - p) (32 - (a + p) % 32)) := Nat.add_assoc _ _ _
  have e2 : n - p - min (n - p) (32 - (a + p) % 32) = n - (p + min (n - p) (32 - (a + p) % 32)) := Nat.sub_sub _ _ _
  rw [e1, e2] at hst
  rw [hst] at h
  refine ⟨hpn, ?_, ?_, ?_, ?_⟩
  · rw [← h, List.getD_eq_getElem?_getD, List.getElem?_append_right (by omega), hD, Nat.sub_self]
    rfl
  · rw [← h, List.append_assoc]
    rfl
  · intro hl
    rw [← h, List.length_append, List.length_cons, hD] at hl
    by_cases hc : n - p ≤ 32 - (a + p) % 32
    · exact hc
    · rw [pagesL_step _ (n - (p + min (n - p) (32 - (a + p) % 32))) (by omega)] at hl
      simp at hl
  · intro hl
    rw [← h, List.length_append, List.length_cons, hD] at hl
    by_cases hc : n - p ≤ 32 - (a + p) % 32
    · rw [Nat.min_eq_left hc, show n - (p + (n - p)) = 0 by omega, pagesL_zero] at hl
      simp at hl
    · omega
set_option maxRecDepth 100000 in
set_option maxHeartbeats 8000000 in
theorem lawBurnPages (w : World) (at_ : Int) (_ : (Lit.int .i64 at_).wf = true) (many : Int) (_ : (Lit.int .i64 many).wf = true) :
    Calls Tryz.prog 5 #[.int .i64 at_, .int .i64 many] w fun e w' => e = .returned (.bool true) ∧ Upd none' w w' := by
  obtain ⟨m, hmmod, hm⟩ := uN many 513 (by decide) (by decide)
  obtain ⟨a, hamod, ha⟩ := uN at_ (4096 - m) (by omega) (by omega)
  rw [show ((513 : Nat) : Int) = 513 from rfl] at hmmod
  rw [show ((4096 - m : Nat) : Int) = 4096 - (m : Int) by omega] at hamod
  have hw1 : IntKind.i64.wrap (4096 - (m : Int)) = 4096 - (m : Int) := IntWalk.i64_in _ (by omega)
  have hw2 : IntKind.u64.wrap (4096 - (m : Int)) = 4096 - (m : Int) := by rw [IntKind.wrap_u64]; omega
  have hz1 : ((4096 : Int) - (m : Int) == 0) = false := by simp; omega
  have hp := fun w => pages_ok a m (by omega) (by omega) w
  obtain ⟨L, hL⟩ : ∃ L, pagesL a m = L := ⟨_, rfl⟩
  obtain ⟨M, hM⟩ : ∃ M, L.length = M := ⟨_, rfl⟩
  have hMm : M ≤ 512 := by
    have := (pagesL_len m a).1
    rw [hL, hM] at this
    omega
  have hsum : L.sum = m := by rw [← hL]; exact pagesL_sum m a
  rw [hL] at hp
  have hlm : (ints (natI L)).length = M := by rw [ints_len, natI_len, hM]
  have HH := Lib.hid (And.intro hL (And.intro hM hsum))
  have HP := Lib.hid hp
  clear hL hM hp hsum
  go_enter Tryz.func5, Tryz.ntmps5
  go_upto_region 5 with (go_at_call 26; refine (awake17 _).mono ?_; rintro e w0 ⟨rfl, hU1⟩)
  clear hmmod hamod hw1 hw2 hz1
  go_upto_region 10 with (first | (go_at_call 30; refine (HP.out _).mono ?_; rintro e w3 ⟨v, rfl, hrow, hown, hU3⟩; obtain ⟨oa, oc, rfl, -⟩ := hrow.form; rw [hlm] at hrow hown) | (go_at_call 25; refine (num_any _ _).mono ?_; rintro e w' ⟨rfl, rfl⟩))
  have hrs := hrow.rs (by rw [hlm]; omega)
  have HU := Lib.hid (hU1.trans hU3 (fun _ _ f => f))
  have HRS := Lib.hid hrs
  clear hrow hown hrs hU1 hU3 HP
  go_loopw [9, 10] (fun kv iv wr => ∃ (j p : Nat) (D : List Nat), j ≤ M ∧ p ≤ m ∧ kv = .int .i64 ((a + p : Nat) : Int) ∧ iv = .int .i64 (j : Int) ∧ Hid (D ++ pagesL (a + p) (m - p) = pagesL a m ∧ D.length = j ∧ (0 < j → (a + p) % 32 = 0 ∨ p = m) ∧ w3 = wr)) (fun _ iv _ => M - (intOf iv).toNat)
  case atStart => exact ⟨0, 0, [], Nat.zero_le _, Nat.zero_le _, rfl, rfl, Lib.hid ⟨rfl, rfl, fun h => absurd h (Nat.lt_irrefl 0), rfl⟩⟩
  case round =>
    obtain ⟨j, p, D, hj, hpm, rfl, rfl, hH⟩ := hrel
    obtain ⟨hD, hDl, h32, hw⟩ := hH.out
    subst hw
    clear hH
    by_cases hlt : j < M
    · obtain ⟨k1, k2, k3, k4, k5⟩ := pages_at a m j p D hD hDl (by rw [HH.out.1, HH.out.2.1]; exact hlt) hpm
      rw [HH.out.1, HH.out.2.1] at k4 k5
      rw [HH.out.1] at k2
      obtain ⟨x, hx⟩ : ∃ x, a + p = x := ⟨_, rfl⟩
      obtain ⟨z, hz⟩ : ∃ z, min (m - p) (32 - (a + p) % 32) = z := ⟨_, rfl⟩
      rw [hz] at k2 k3
      rw [hx] at hz h32 k4 k5 ⊢
      obtain ⟨gx, ox, e1, hgx, hcc⟩ := HRS.out.cells (by omega)
      subst e1
      have hcell := hcc j hlt
      rw [ints_at _ _ (by rw [natI_len, HH.out.2.1]; exact hlt), show (natI L).getD j 0 = (z : Int) from by
        rw [← k2]
        unfold natI
        rw [List.getD_eq_getElem?_getD, List.getElem?_map, List.getElem?_eq_getElem (show j < L.length by rw [HH.out.2.1]; exact hlt), List.getD_eq_getElem?_getD, List.getElem?_eq_getElem (show j < L.length by rw [HH.out.2.1]; exact hlt)]
        rfl] at hcell
      have HK := Lib.hid k3
      have HDl := Lib.hid hDl
      have hz1 : 1 ≤ z ∧ z ≤ 32 - x % 32 ∧ p + z ≤ m := by omega
      have hxl : x + z ≤ 4096 := by omega
      have hdv : ((x : Int) + (z : Int) - 1) / 32 = (x : Int) / 32 := by omega
      have hor1 : j = 0 ∨ (x : Int) % 32 = 0 := by omega
      have hor2 : j + 1 = M ∨ ((x : Int) + (z : Int)) % 32 = 0 := by omega
      have hfin : j + 1 ≤ M ∧ p + z ≤ m ∧ (0 < j + 1 → (a + (p + z)) % 32 = 0 ∨ p + z = m) := by omega
      have HF := Lib.hid hfin
      have HX := Lib.hid hx
      clear k1 k2 k3 k4 k5 hD hDl h32 hz hcc hgx hfin hx
      rcases hor1 with rfl | hor1
      all_goals rcases hor2 with hor2 | hor2
      all_goals try rw [Nat.add_zero] at hcell
      all_goals
        go_wp2
        all_goals
          refine ⟨?rel, ?measure⟩
          case rel => first
            | exact ⟨j + 1, p + z, D ++ [z], HF.out.1, HF.out.2.1, by have := HX.out; go_num, by go_num, Lib.hid ⟨HK.out, by rw [List.length_append, HDl.out]; rfl, HF.out.2.2, by first | rfl | trivial⟩⟩
            | exact ⟨1, p + z, D ++ [z], HF.out.1, HF.out.2.1, by have := HX.out; go_num, by go_num, Lib.hid ⟨HK.out, by rw [List.length_append, HDl.out]; rfl, HF.out.2.2, by first | rfl | trivial⟩⟩
          case measure => simp [intOf]; omega
    · obtain rfl : j = M := by omega
      have hpe : p = m := by
        by_cases h0 : m - p = 0
        · omega
        · have hs := congrArg List.length hD
          rw [HH.out.1, HH.out.2.1, List.length_append, hDl, pagesL_step _ (m - p) (by omega), List.length_cons] at hs
          omega
      subst hpe
      go_wp2
      go_ret
      exact ⟨rfl, HU.out⟩
end Go.Proofs.YtkjdhkpkcepilaaGreat
