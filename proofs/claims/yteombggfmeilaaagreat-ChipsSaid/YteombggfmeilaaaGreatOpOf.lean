/- The walk over op.Of: a command's form. -/
import Derived.Test.YteombggfmeilaaaGreatChipM
import Derived.Test.YteombggfmeilaaaGreatProg
namespace Go.Proofs.YteombggfmeilaaaGreat
open Go.RowKit
def POp.cells (o : POp) : Array Value := #[.int .i64 o.byte, .int .i64 o.addr, .bool o.mode, .int .i64 o.dummy, .int .i64 o.data, .bool o.inn]
set_option maxHeartbeats 1000000 in
theorem op_of (c : Int) (hc : opIs c = true) (w : World) :
    Calls Tryz.prog 179 #[.int .i64 c] w fun e w' => e = .returned (.tuple #[.agg (opOf c).cells, .int .i64 0]) ∧ Upd none' w w' := by
  · have h0 := hc
    simp only [opIs, decide_eq_true_eq] at h0
    rcases h0 with rfl | rfl | rfl | rfl | rfl | rfl | rfl | rfl | rfl | rfl | rfl | rfl | rfl | rfl
    all_goals clear hc
    all_goals go_enter Tryz.func179, Tryz.ntmps179
    all_goals go_wp2
    all_goals
      refine bodyPost_ret (v := .tuple #[.agg (opOf _).cells, .int .i64 0]) (by simp [results, Tryz.results179, go_sem, opOf, POp.cells]) rfl ⟨rfl, ?_⟩
      repeat (first | exact Upd.refl _ _ | apply Upd.alloc | apply Upd.drew | (refine Upd.setCell ?_ _ _ (fun hk => by simp at hk)))
theorem op_of_no (c : Int) (hc : opIs c = false) (w : World) :
    Calls Tryz.prog 179 #[.int .i64 c] w fun e w' => e = .returned (.tuple #[.agg op0.cells, .int .i64 400]) ∧ Upd none' w w' := by
  · have hd := hc
    simp only [opIs, decide_eq_false_iff_not, not_or] at hd
    obtain ⟨h1, h2, h3, h4, h5, h6, h7, h8, h9, h10, h11, h12, h13, h14⟩ := hd
    clear hc
    have g1 : (c == 1) = false := by simpa using h1
    have g2 : (c == 2) = false := by simpa using h2
    have g3 : (c == 3) = false := by simpa using h3
    have g4 : (c == 4) = false := by simpa using h4
    have g5 : (c == 5) = false := by simpa using h5
    have g6 : (c == 6) = false := by simpa using h6
    have g7 : (c == 32) = false := by simpa using h7
    have g8 : (c == 53) = false := by simpa using h8
    have g9 : (c == 90) = false := by simpa using h9
    have g10 : (c == 107) = false := by simpa using h10
    have g11 : (c == 117) = false := by simpa using h11
    have g12 : (c == 122) = false := by simpa using h12
    have g13 : (c == 159) = false := by simpa using h13
    have g14 : (c == 235) = false := by simpa using h14
    clear h1 h2 h3 h4 h5 h6 h7 h8 h9 h10 h11 h12 h13 h14
    go_enter Tryz.func179, Tryz.ntmps179
    go_wp2
    refine bodyPost_ret (v := .tuple #[.agg op0.cells, .int .i64 400]) (by simp [results, Tryz.results179, go_sem, POp.cells, op0]) rfl ⟨rfl, ?_⟩
    repeat (first | exact Upd.refl _ _ | apply Upd.alloc | apply Upd.drew | (refine Upd.setCell ?_ _ _ (fun hk => by simp at hk)))
end Go.Proofs.YteombggfmeilaaaGreat
