/- The walks over the small methods of a command and of the chip. -/
import Derived.Test.YtjdjdfllggpckaaGreatChipM
import Derived.Test.YtjdjdfllggpckaaGreatProg
import Derived.Test.YtjdjdfllggpckaaGreatBits
namespace Go.Proofs.YtjdjdfllggpckaaGreat
open Go.RowKit
/-- The chip's block, at pointers' values that are of no concern. -/
abbrev CB (w : World) (b : Nat) (s : St) (jv bv dv : Value) : Prop := Blk w b (s.list jv bv dv) 89
theorem lane_many (n : Int) (hn : n = 1 ∨ n = 4) (w : World) :
    Calls Tryz.prog 53 #[.int .i64 n] w fun e w' => e = .returned (.int .i64 (8 / n)) ∧ w = w' := by
  rcases hn with rfl | rfl
  all_goals
    go_enter Tryz.func53, Tryz.ntmps53
    go_wp2
    go_ret
    exact ⟨rfl, rfl⟩
theorem cmd_enter (b : Nat) (s : St) (jv bv dv : Value) (stage clocks : Int) (w : World) (h : CB w b s jv bv dv) :
    Calls Tryz.prog 76 #[.pointer (some ⟨b, 20, none⟩), .int .i64 stage, .int .i64 clocks] w fun e w' =>
      e = .returned (.tuple #[]) ∧ CB w' b (s.enter stage clocks) jv bv dv ∧ Upd (fun k => k = b) w w' := by
  have c26 := h.cell 26
  have c27 := h.cell 27
  have c28 := h.cell 28
  have f26 := h.frozen 26
  have f27 := h.frozen 27
  have f28 := h.frozen 28
  simp only [St.list, List.getElem?_cons_succ, List.getElem?_cons_zero] at c26 c27 c28
  go_enter Tryz.func76, Tryz.ntmps76
  go_wp2
  go_end0
  refine ⟨rfl, ((h.set 26 (.int .i64 stage)).set 27 (.int .i64 clocks)).set 28 (.int .i64 0), ?_⟩
  exact (((Upd.refl (fun k => k = b) w).setCell ⟨b, 26, none⟩ _ (fun _ => rfl)).setCell ⟨b, 27, none⟩ _ (fun _ => rfl)).setCell ⟨b, 28, none⟩ _ (fun _ => rfl)
theorem cmd_takesIn (b : Nat) (s : St) (jv bv dv : Value) (x lanes : Int) (w : World) (h : CB w b s jv bv dv) (hln : lanes = 1 ∨ lanes = 4) (hg : 0 ≤ s.got ∧ s.got ≤ 1073741824) (hl : 1 ≤ s.left ∧ s.left ≤ 400) :
    Calls Tryz.prog 69 #[.pointer (some ⟨b, 20, none⟩), .int .i64 x, .int .i64 lanes] w fun e w' =>
      e = .returned (.bool (s.left - 1 == 0)) ∧ CB w' b (s.takesIn x lanes) jv bv dv ∧ Upd (fun k => k = b) w w' := by
  have c27 := h.cell 27
  have c28 := h.cell 28
  have f27 := h.frozen 27
  have f28 := h.frozen 28
  simp only [St.list, List.getElem?_cons_succ, List.getElem?_cons_zero] at c27 c28
  rcases hln with rfl | rfl
  · have hgot : (s.takesIn x 1).got = bits BinOp.or IntKind.i64 (s.got * 2) (bits BinOp.and IntKind.i64 x 1) := by
      rw [i64_and1, i64_or1 _ _ (by omega) (by omega) (by omega) (by omega) (by omega)]; rfl
    have HG := Lib.hid hgot
    clear hgot
    go_enter Tryz.func69, Tryz.ntmps69
    go_wp2
    go_region
    all_goals go_wp2
    all_goals go_ret
    refine ⟨rfl, ?_, ?_⟩
    · have := (h.set 28 (.int .i64 (bits BinOp.or IntKind.i64 (s.got * 2) (bits BinOp.and IntKind.i64 x 1)))).set 27 (.int .i64 (s.left - 1))
      rw [← HG.out] at this ⊢
      exact this
    · exact ((Upd.refl (fun k => k = b) w).setCell ⟨b, 28, none⟩ (.int .i64 (bits BinOp.or IntKind.i64 (s.got * 2) (bits BinOp.and IntKind.i64 x 1))) (fun _ => rfl)).setCell ⟨b, 27, none⟩ (.int .i64 (s.left - 1)) (fun _ => rfl) |>.drew
  · have hgot : (s.takesIn x 4).got = bits BinOp.or IntKind.i64 (s.got * 16) (bits BinOp.and IntKind.i64 x 15) := by
      rw [i64_and15, i64_or4 _ _ (by omega) (by omega) (by omega) (by omega) (by omega)]; rfl
    have HG := Lib.hid hgot
    clear hgot
    go_enter Tryz.func69, Tryz.ntmps69
    go_wp2
    go_region
    all_goals go_wp2
    all_goals go_ret
    refine ⟨rfl, ?_, ?_⟩
    · have := (h.set 28 (.int .i64 (bits BinOp.or IntKind.i64 (s.got * 16) (bits BinOp.and IntKind.i64 x 15)))).set 27 (.int .i64 (s.left - 1))
      rw [← HG.out] at this ⊢
      exact this
    · exact ((Upd.refl (fun k => k = b) w).setCell ⟨b, 28, none⟩ (.int .i64 (bits BinOp.or IntKind.i64 (s.got * 16) (bits BinOp.and IntKind.i64 x 15))) (fun _ => rfl)).setCell ⟨b, 27, none⟩ (.int .i64 (s.left - 1)) (fun _ => rfl) |>.drew
end Go.Proofs.YtjdjdfllggpckaaGreat
