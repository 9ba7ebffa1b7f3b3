/- The closures of wire.may. · slices.ContainsFunc of numbers, with one function. -/
import Derived.Test.YtepnljeojlbliaaGreatLane
import Derived.Test.YtepnljeojlbliaaGreatChip
namespace Go.Proofs.YtepnljeojlbliaaGreat
open Go.RowKit
def notB (b : Int) : Bool := !byteB b
theorem may2 (x : Int) (w : World) : Calls Tryz.prog 174 #[.int .i64 x] w fun e w' => e = .returned (.bool (notB x)) ∧ w = w' := by
  have hb := lane_byte x
  unfold notB
  cases h : byteB x
  all_goals
    rw [h] at hb
    go_enter Tryz.func174, Tryz.ntmps174
    go_wp2_with (go_at_call 175; refine (hb _).mono ?_; rintro e w1 ⟨rfl, rfl⟩)
    go_ret
    exact ⟨rfl, rfl⟩
theorem may1 (x m : Int) (w : World) : Calls Tryz.prog 173 #[.int .i64 x, .int .i64 m] w fun e w' => e = .returned (.bool (decide (1 ≤ x ∧ x ≤ m))) ∧ w = w' := by
  by_cases h1 : 1 ≤ x
  · by_cases h2 : x ≤ m
    · rw [decide_eq_true (show 1 ≤ x ∧ x ≤ m from ⟨h1, h2⟩)]
      go_enter Tryz.func173, Tryz.ntmps173
      go_wp2
      go_ret
      exact ⟨rfl, rfl⟩
    · rw [decide_eq_false (show ¬ (1 ≤ x ∧ x ≤ m) by omega)]
      go_enter Tryz.func173, Tryz.ntmps173
      go_wp2
      go_ret
      exact ⟨rfl, rfl⟩
  · rw [decide_eq_false (show ¬ (1 ≤ x ∧ x ≤ m) by omega)]
    go_enter Tryz.func173, Tryz.ntmps173
    go_wp2
    go_ret
    exact ⟨rfl, rfl⟩
end Go.Proofs.YtepnljeojlbliaaGreat
namespace Go.Proofs.YtepnljeojlbliaaGreat
open Go.RowKit
def clo_wmay : Value := .func (.func 174) #[] #[]
set_option maxHeartbeats 1000000 in
theorem index_wmay (w : World) (v : Value) (xs : List Int) (h : RS w v (ints xs)) :
    Calls Tryz.prog 163 #[v, clo_wmay] w fun e w' => (∃ r : Int, e = .returned (.int .i64 r) ∧ (xs.any notB = true → 0 ≤ r) ∧ (xs.any notB = false → r = -1)) ∧ w = w' := by
  obtain ⟨h1, a, cap, rfl, h4, h5⟩ := h
  rw [ints_len] at h1 h4 h5 ⊢
  unfold clo_wmay
  go_enter Tryz.func163, Tryz.ntmps163
  go_wp2_with fail
  go_loopw [8] (fun iv wr => ∃ i : Nat, i ≤ xs.length ∧ iv = .int .i64 i ∧ Hid (w = wr) ∧ ∀ j, j < i → notB (xs.getD j 0) = false) (fun iv _ => xs.length - (intOf iv).toNat)
  case atStart => exact ⟨0, by omega, rfl, Lib.hid rfl, fun j hj => by omega⟩
  case round =>
    obtain ⟨i, hi, rfl, hw, hno⟩ := hrel
    by_cases hlt : i < xs.length
    · obtain ⟨bb, oo, rfl, hbb, hcc⟩ := h5 (by intro h; simp [ints] at h; simp [h] at hlt)
      have hcell : wr.cell? ⟨bb, oo + i, none⟩ = some (.int .i64 (xs.getD i 0)) := by
        rw [← hw.out, hcc i hlt, ints_at _ _ hlt]
      clear hcc
      obtain ⟨y, hy⟩ : ∃ y, xs.getD i 0 = y := ⟨_, rfl⟩
      rw [hy] at hcell
      have HY := Lib.hid hy
      clear hy
      have hmem : y ∈ xs := by rw [← HY.out, List.getD_eq_getElem?_getD, List.getElem?_eq_getElem hlt]; exact List.getElem_mem hlt
      cases hb : notB y with
      | true =>
        have hany : xs.any notB = true := List.any_eq_true.2 ⟨y, hmem, hb⟩
        have HA := Lib.hid hany
        have hnb := hb ▸ may2 y wr
        clear hany hmem
        go_wp2_with (go_at_call 174; refine hnb.mono ?_; rintro e w' ⟨rfl, rfl⟩)
        go_ret
        exact ⟨⟨_, rfl, fun _ => by omega, fun e => by rw [HA.out] at e; cases e⟩, hw.out⟩
      | false =>
        have hnb := hb ▸ may2 y wr
        clear hmem
        go_wp2_with (go_at_call 174; refine hnb.mono ?_; rintro e w' ⟨rfl, rfl⟩)
        refine ⟨?rel, ?measure⟩
        case rel => exact ⟨i + 1, by omega, by go_num, hw, fun j hj => by
          rcases Nat.lt_succ_iff_lt_or_eq.1 hj with h | h
          · exact hno j h
          · subst h; rw [HY.out]; exact hb⟩
        case measure => simp [intOf]; omega
    · have hieq : i = xs.length := by omega
      subst hieq
      go_wp2
      go_ret
      refine ⟨⟨_, rfl, fun e => ?_, fun _ => rfl⟩, hw.out⟩
      obtain ⟨y, hy, hb⟩ := List.any_eq_true.1 e
      obtain ⟨j, hj, rfl⟩ := List.getElem_of_mem hy
      have := hno j hj
      rw [List.getD_eq_getElem?_getD, List.getElem?_eq_getElem hj] at this
      simp only [Option.getD_some] at this
      rw [hb] at this
      cases this
theorem contains_wmay (w : World) (v : Value) (xs : List Int) (h : RS w v (ints xs)) :
    Calls Tryz.prog 104 #[v, clo_wmay] w fun e w' => e = .returned (.bool (xs.any notB)) ∧ w = w' := by
  have hi := index_wmay w v xs h
  obtain ⟨_, a, cap, rfl, -⟩ := h
  unfold clo_wmay at hi ⊢
  go_enter Tryz.func104, Tryz.ntmps104
  go_wp2_with fail
  refine hi.mono ?_
  rintro e w1 ⟨⟨r, rfl, hr1, hr2⟩, rfl⟩
  cases hb : xs.any notB with
  | true =>
    have := hr1 hb
    clear hr1 hr2
    go_wp2
    go_ret
    exact ⟨by rw [hb]; rfl, rfl⟩
  | false =>
    have := hr2 hb
    subst this
    clear hr1 hr2
    go_wp2
    go_ret
    exact ⟨by rw [hb]; rfl, rfl⟩
end Go.Proofs.YtepnljeojlbliaaGreat
