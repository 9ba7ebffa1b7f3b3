/- lichenref1.NewChip; the document's chip in memory. -/
import Derived.Test.YteombggfmeilaaaGreatBlank
import Derived.Test.YteombggfmeilaaaGreatCtx
namespace Go.Proofs.YteombggfmeilaaaGreat
open Go.RowKit
/-- A new chip's cells, of the document's; v: its counts' slice. -/
def refCells (a : ByteArray) (v : Value) : List Value :=
  [.string a, .bool false, .bool false, v, .bool false, .bool false, .bool false, .int .i64 0, .int .i64 0, .string ⟨#[]⟩, .int .i64 0, .bool false, .slice none 0 0,
   .int .i64 0, .int .i64 0, .bool false, .int .i64 0, .int .i64 0, .bool false,
   .bool false, .bool false, .int .i64 0, .int .i64 0, .int .i64 0, .int .i64 0, .int .i64 0, .bool false, .slice none 0 0, .int .i64 0, .int .i64 0, .int .i64 0]
/-- A new chip of the document's lies there. -/
def RefNew (w : World) (r : Nat) (a : ByteArray) (v : Value) : Prop := Blk w r (refCells a v) 54 ∧ Row w 3 v (ints (List.replicate 8 0)) ∧ ∀ k, v.ownBlock = some k → k ≠ r
def zeros8 : List Int := List.replicate 8 0
theorem made_ints8 : madeCells (Value.int .i64 0).cells (Int.toNat 8 * Tryz.t3.size) = (ints zeros8).toArray := by
  rw [show Tryz.t3.size = 1 from by kernel_rfl, show (Value.int .i64 0).cells = #[Value.int .i64 0] from rfl, made_gen, Nat.mul_one]
  rfl
theorem make_ints8 (u : World) : (Instr.makeSlice 33 (.int .i64 8) (.int .i64 8)).run Tryz.prog u = .ok (.slice (some ⟨u.heap.size, 0, none⟩) 8 8) (u.alloc (.cells (ints zeros8).toArray 3)) := by
  have := run_make (P := Tryz.prog) u 33 3 Tryz.t3 (.int .i64 0) Tryz.underlying33 (by kernel_rfl) (by kernel_rfl) .i64 .i64 8 8 (by decide) (by decide) (by show ((8 : Nat) : Int) * 8 ≤ _; decide) (by decide)
  rw [this, made_ints8]
  rfl
set_option maxRecDepth 100000 in
set_option maxHeartbeats 2000000 in
theorem ref_new (a : ByteArray) (w : World) (ha : a.size = 4096) :
    Calls Tryz.prog 15 #[.string a] w fun e w' => ∃ r v, e = .returned (.tuple #[.pointer (some ⟨r, 0, none⟩), .int .i64 0]) ∧ w.heap.size ≤ r ∧ Blk w' r (refCells a v) 54 ∧ Row w' 3 v (ints zeros8) ∧ (∀ k, v.ownBlock = some k → w.heap.size ≤ k ∧ k ≠ r) ∧ Upd none' w w' := by
  have hmay : ∀ w1, Calls Tryz.prog 91 #[.string a] w1 fun e w' => e = .returned (.bool true) ∧ w1 = w' := by
    intro w1
    go_enter Tryz.func91, Tryz.ntmps91
    go_wp2
    go_ret
    exact ⟨rfl, rfl⟩
  have hmk := make_ints8
  go_enter Tryz.func15, Tryz.ntmps15
  go_wp2_with (go_at_call 91; refine (hmay _).mono ?_; rintro e w1 ⟨rfl, rfl⟩)
  go_ret2
  have h1 := row_lit w 3 (ints zeros8) 8 rfl (by decide)
  have hu1 := (Upd.refl none' w).alloc (.cells (ints zeros8).toArray 3)
  have hs : (w.alloc (.cells (ints zeros8).toArray 3)).heap.size = w.heap.size + 1 := by simp
  generalize w.alloc (.cells (ints zeros8).toArray 3) = w1 at *
  have hb := Blk.new w1 (refCells a (.slice (some ⟨w.heap.size, 0, none⟩) 8 8)) 54
  have hu2 := (Upd.refl none' w1).alloc (.cells (refCells a (.slice (some ⟨w.heap.size, 0, none⟩) 8 8)).toArray 54)
  rw [hs] at hb
  refine ⟨w.heap.size + 1, .slice (some ⟨w.heap.size, 0, none⟩) 8 8, rfl, by omega, hb, h1.upd hu2 (fun _ _ f => f), fun k hk => ?_, hu1.trans hu2 (fun _ _ f => f)⟩
  simp only [Value.ownBlock, Option.some.injEq] at hk
  omega
end Go.Proofs.YteombggfmeilaaaGreat
