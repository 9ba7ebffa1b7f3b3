/- The closures of wire.may. -/
import Derived.Test.YtbflnpkgbpckfaaGreatLane
namespace Go.Proofs.YtbflnpkgbpckfaaGreat
open Go.RowKit
def notB (b : Int) : Bool := !byteB b
theorem may2 (x : Int) (w : World) : Calls Tryz.prog 89 #[.int .i64 x] w fun e w' => e = .returned (.bool (notB x)) ∧ w = w' := by
  have hb := lane_byte x
  unfold notB
  cases h : byteB x
  all_goals
    rw [h] at hb
    go_enter Tryz.func89, Tryz.ntmps89
    go_wp2_with (go_at_call 90; refine (hb _).mono ?_; rintro e w1 ⟨rfl, rfl⟩)
    go_ret
    exact ⟨rfl, rfl⟩
theorem may1 (x m : Int) (w : World) : Calls Tryz.prog 88 #[.int .i64 x, .int .i64 m] w fun e w' => e = .returned (.bool (decide (1 ≤ x ∧ x ≤ m))) ∧ w = w' := by
  by_cases h1 : 1 ≤ x
  · by_cases h2 : x ≤ m
    · rw [decide_eq_true (show 1 ≤ x ∧ x ≤ m from ⟨h1, h2⟩)]
      go_enter Tryz.func88, Tryz.ntmps88
      go_wp2
      go_ret
      exact ⟨rfl, rfl⟩
    · rw [decide_eq_false (show ¬ (1 ≤ x ∧ x ≤ m) by omega)]
      go_enter Tryz.func88, Tryz.ntmps88
      go_wp2
      go_ret
      exact ⟨rfl, rfl⟩
  · rw [decide_eq_false (show ¬ (1 ≤ x ∧ x ≤ m) by omega)]
    go_enter Tryz.func88, Tryz.ntmps88
    go_wp2
    go_ret
    exact ⟨rfl, rfl⟩
end Go.Proofs.YtbflnpkgbpckfaaGreat
