/- The walks over package fifo: New, Push, Pop, Len: what each does to the cells of the ring. -/
import Derived.Test.YtepnljeojlbliaaGreatProg
import Derived.WalkKit
import Derived.ProofKit
import Derived.KernelRfl
namespace Go.Proofs.YtepnljeojlbliaaGreat
open Go.RowKit
theorem fifo_push_nil (v : Int) (w : World) :
    Calls Tryz.prog 144 #[.pointer none, .int .i64 v] w fun e w' => e = .returned (.int .i64 1) ∧ w'.Alike w := by
  go_enter Tryz.func144, Tryz.ntmps144
  go_wp2
  go_ret
  exact ⟨rfl, rfl, rfl, rfl⟩
theorem fifo_push_full (b : Nat) (v : Int) (w : World)
    (h17 : w.cell? ⟨b, 17, none⟩ = some (.int .i64 16)) :
    Calls Tryz.prog 144 #[.pointer (some ⟨b, 0, none⟩), .int .i64 v] w fun e w' => e = .returned (.int .i64 801) ∧ w'.Alike w := by
  go_enter Tryz.func144, Tryz.ntmps144
  go_wp2
  go_ret
  exact ⟨rfl, rfl, rfl, rfl⟩
theorem fifo_push_room (b fr n : Nat) (v : Int) (ring : List Int) (w : World) (hfr : fr < 16) (hn : n < 16)
    (hb : ∀ j, j < 16 → w.cell? ⟨b, j, none⟩ = some (.int .i64 (ring.getD j 0)))
    (h16 : w.cell? ⟨b, 16, none⟩ = some (.int .i64 fr)) (h17 : w.cell? ⟨b, 17, none⟩ = some (.int .i64 n))
    (hf : ∀ j, j < 18 → w.frozen? ⟨b, j, none⟩ = false) :
    Calls Tryz.prog 144 #[.pointer (some ⟨b, 0, none⟩), .int .i64 v] w fun e w' =>
      e = .returned (.int .i64 0) ∧ w'.Alike ((w.setCell ⟨b, (fr + n) % 16, none⟩ (.int .i64 v)).setCell ⟨b, 17, none⟩ (.int .i64 ((n : Int) + 1))) := by
  have hfi := hf ((fr + n) % 16) (by omega)
  have hbi := hb ((fr + n) % 16) (by omega)
  have hf17 := hf 17 (by omega)
  go_enter Tryz.func144, Tryz.ntmps144
  go_wp2
  go_region
  all_goals go_wp2
  all_goals go_ret
  all_goals exact ⟨rfl, rfl, rfl, rfl⟩
theorem fifo_pop_nil (w : World) :
    Calls Tryz.prog 147 #[.pointer none] w fun e w' => e = .returned (.tuple #[.int .i64 0, .int .i64 1]) ∧ w'.Alike w := by
  go_enter Tryz.func147, Tryz.ntmps147
  go_wp2
  go_ret2
  exact ⟨rfl, rfl, rfl, rfl⟩
theorem fifo_pop_empty (b : Nat) (w : World)
    (h17 : w.cell? ⟨b, 17, none⟩ = some (.int .i64 0)) :
    Calls Tryz.prog 147 #[.pointer (some ⟨b, 0, none⟩)] w fun e w' => e = .returned (.tuple #[.int .i64 0, .int .i64 800]) ∧ w'.Alike w := by
  go_enter Tryz.func147, Tryz.ntmps147
  go_wp2
  go_ret2
  exact ⟨rfl, rfl, rfl, rfl⟩
theorem fifo_pop_some (b fr n : Nat) (ring : List Int) (w : World) (hfr : fr < 16) (hn0 : 0 < n) (hn : n ≤ 16)
    (hb : ∀ j, j < 16 → w.cell? ⟨b, j, none⟩ = some (.int .i64 (ring.getD j 0)))
    (h16 : w.cell? ⟨b, 16, none⟩ = some (.int .i64 fr)) (h17 : w.cell? ⟨b, 17, none⟩ = some (.int .i64 n))
    (hf : ∀ j, j < 18 → w.frozen? ⟨b, j, none⟩ = false) :
    Calls Tryz.prog 147 #[.pointer (some ⟨b, 0, none⟩)] w fun e w' =>
      e = .returned (.tuple #[.int .i64 (ring.getD fr 0), .int .i64 0]) ∧ w'.Alike ((w.setCell ⟨b, 16, none⟩ (.int .i64 (((fr : Int) + 1) % 16))).setCell ⟨b, 17, none⟩ (.int .i64 ((n : Int) - 1))) := by
  have hbi := hb fr (by omega)
  have hf16 := hf 16 (by omega)
  have hf17 := hf 17 (by omega)
  go_enter Tryz.func147, Tryz.ntmps147
  go_wp2
  go_region
  all_goals go_wp2
  all_goals go_ret2
  all_goals exact ⟨rfl, rfl, rfl, rfl⟩
theorem fifo_len_nil (w : World) :
    Calls Tryz.prog 146 #[.pointer none] w fun e w' => e = .returned (.int .i64 0) ∧ w'.Alike w := by
  go_enter Tryz.func146, Tryz.ntmps146
  go_wp2
  go_ret
  exact ⟨rfl, rfl, rfl, rfl⟩
theorem fifo_len_some (b : Nat) (n : Int) (w : World)
    (h17 : w.cell? ⟨b, 17, none⟩ = some (.int .i64 n)) :
    Calls Tryz.prog 146 #[.pointer (some ⟨b, 0, none⟩)] w fun e w' => e = .returned (.int .i64 n) ∧ w'.Alike w := by
  go_enter Tryz.func146, Tryz.ntmps146
  go_wp2
  go_ret
  exact ⟨rfl, rfl, rfl, rfl⟩
theorem fifo_new (w : World) :
    Calls Tryz.prog 123 #[] w fun e w' => e = .returned (.pointer (some ⟨w.heap.size, 0, none⟩)) ∧
      w'.Alike (w.alloc (.cells #[.int .i64 0, .int .i64 0, .int .i64 0, .int .i64 0, .int .i64 0, .int .i64 0, .int .i64 0, .int .i64 0, .int .i64 0, .int .i64 0, .int .i64 0, .int .i64 0, .int .i64 0, .int .i64 0, .int .i64 0, .int .i64 0, .int .i64 0, .int .i64 0] 208)) := by
  go_enter Tryz.func123, Tryz.ntmps123
  go_wp2
  go_ret
  exact ⟨rfl, rfl, rfl, rfl⟩
end Go.Proofs.YtepnljeojlbliaaGreat
