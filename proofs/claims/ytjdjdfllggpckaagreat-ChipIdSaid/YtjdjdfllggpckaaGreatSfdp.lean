/- What the chip tells of itself is built: sfdp.Put. -/
import Derived.Test.YtjdjdfllggpckaaGreatBuf
import Derived.Test.YtjdjdfllggpckaaGreatInts
import Derived.Test.YtjdjdfllggpckaaGreatShelf
import Derived.Laws.MakeOwn
import Derived.Test.YtjdjdfllggpckaaGreatChipM
namespace Go.Proofs.YtjdjdfllggpckaaGreat
open Go.RowKit
theorem make_bytes4 (u : World) : (Instr.makeSlice 52 (.int .i64 4) (.int .i64 4)).run Tryz.prog u = .ok (.slice (some ⟨u.heap.size, 0, none⟩) 4 4) (u.alloc (.cells (bytesV (List.replicate 4 0)).toArray 5)) := by
  have := run_make (P := Tryz.prog) u 52 5 Tryz.t5 (.int .u8 0) Tryz.underlying52 (by kernel_rfl) (by kernel_rfl) .i64 .i64 4 4 (by decide) (by decide) (by show ((1 : Nat) : Int) * 4 ≤ _; decide) (by decide)
  rw [this, show madeCells (Value.int .u8 0).cells (Int.toNat 4 * Tryz.t5.size) = (bytesV (List.replicate 4 0)).toArray from by kernel_rfl]
  rfl
def lowL (x : Int) : List UInt8 := if x = 4096 then [0, 16, 0, 0] else if x = 512 then [0, 2, 0, 0] else [32, 0, 0, 0]
set_option maxHeartbeats 1000000 in
theorem sfdp_low (x : Int) (hx : x = 4096 ∨ x = 512 ∨ x = 32) (w : World) :
    Calls Tryz.prog 106 #[.int .i64 x] w fun e w' => e = .returned (.string ⟨(lowL x).toArray⟩) ∧ Upd none' w w' := by
  have hmk := make_bytes4
  obtain ⟨b0, b1, b2, b3, hl, hb⟩ : ∃ b0 b1 b2 b3, lowL x = [b0, b1, b2, b3] ∧ (x = 4096 ∧ b0 = 0 ∧ b1 = 16 ∧ b2 = 0 ∧ b3 = 0 ∨ x = 512 ∧ b0 = 0 ∧ b1 = 2 ∧ b2 = 0 ∧ b3 = 0 ∨ x = 32 ∧ b0 = 32 ∧ b1 = 0 ∧ b2 = 0 ∧ b3 = 0) := by
    rcases hx with rfl | rfl | rfl
    · exact ⟨0, 16, 0, 0, rfl, .inl ⟨rfl, rfl, rfl, rfl, rfl⟩⟩
    · exact ⟨0, 2, 0, 0, rfl, .inr (.inl ⟨rfl, rfl, rfl, rfl, rfl⟩)⟩
    · exact ⟨32, 0, 0, 0, rfl, .inr (.inr ⟨rfl, rfl, rfl, rfl, rfl⟩)⟩
  rw [hl]
  clear hl hx
  go_enter Tryz.func106, Tryz.ntmps106
  go_wp2_with fail
  clear hmk
  go_loopw [8] (fun iv wr => ∃ (i : Nat) (l : List UInt8), i ≤ 4 ∧ iv = .int .i64 i ∧ Upd none' w wr ∧ Buf wr w.heap.size l 5 ∧ (i = 0 ∧ l = [0, 0, 0, 0] ∨ i = 1 ∧ l = [b0, 0, 0, 0] ∨ i = 2 ∧ l = [b0, b1, 0, 0] ∨ i = 3 ∧ l = [b0, b1, b2, 0] ∨ i = 4 ∧ l = [b0, b1, b2, b3])) (fun iv _ => 4 - (intOf iv).toNat)
  case atStart => exact ⟨0, [0, 0, 0, 0], by omega, rfl, (Upd.refl none' w).alloc _, ⟨[], (0, 0), by rw [List.append_nil]; exact heap_alloc_new w _, .inl rfl⟩, .inl ⟨rfl, rfl⟩⟩
  case round =>
    obtain ⟨i, l, hi, rfl, hU, hB, hl⟩ := hrel
    rcases hl with ⟨rfl, rfl⟩ | ⟨rfl, rfl⟩ | ⟨rfl, rfl⟩ | ⟨rfl, rfl⟩ | ⟨rfl, rfl⟩
    · have hc := hB.cell (j := 0) (by simp)
      have hf := hB.frozen (j := 0) (by simp)
      have HB := Lib.hid (hB.set (j := 0) (by simp) b0)
      have HU := Lib.hid (hU.setCell ⟨w.heap.size, 0, none⟩ (.int .u8 b0.toNat) (fun h => absurd h (by dsimp only; omega)))
      clear hB
      rcases hb with ⟨rfl, rfl, rfl, rfl, rfl⟩ | ⟨rfl, rfl, rfl, rfl, rfl⟩ | ⟨rfl, rfl, rfl, rfl, rfl⟩
      all_goals
        go_wp2
        exact ⟨⟨1, _, by omega, by go_num, HU.out, HB.out, .inr (.inl ⟨rfl, rfl⟩)⟩, by simp [intOf]⟩
    · have hc := hB.cell (j := 1) (by simp)
      have hf := hB.frozen (j := 1) (by simp)
      have HB := Lib.hid (hB.set (j := 1) (by simp) b1)
      have HU := Lib.hid (hU.setCell ⟨w.heap.size, 1, none⟩ (.int .u8 b1.toNat) (fun h => absurd h (by dsimp only; omega)))
      clear hB
      rcases hb with ⟨rfl, rfl, rfl, rfl, rfl⟩ | ⟨rfl, rfl, rfl, rfl, rfl⟩ | ⟨rfl, rfl, rfl, rfl, rfl⟩
      all_goals
        go_wp2
        exact ⟨⟨2, _, by omega, by go_num, HU.out, HB.out, .inr (.inr (.inl ⟨rfl, rfl⟩))⟩, by simp [intOf]⟩
    · have hc := hB.cell (j := 2) (by simp)
      have hf := hB.frozen (j := 2) (by simp)
      have HB := Lib.hid (hB.set (j := 2) (by simp) b2)
      have HU := Lib.hid (hU.setCell ⟨w.heap.size, 2, none⟩ (.int .u8 b2.toNat) (fun h => absurd h (by dsimp only; omega)))
      clear hB
      rcases hb with ⟨rfl, rfl, rfl, rfl, rfl⟩ | ⟨rfl, rfl, rfl, rfl, rfl⟩ | ⟨rfl, rfl, rfl, rfl, rfl⟩
      all_goals
        go_wp2
        exact ⟨⟨3, _, by omega, by go_num, HU.out, HB.out, .inr (.inr (.inr (.inl ⟨rfl, rfl⟩)))⟩, by simp [intOf]⟩
    · have hc := hB.cell (j := 3) (by simp)
      have hf := hB.frozen (j := 3) (by simp)
      have HB := Lib.hid (hB.set (j := 3) (by simp) b3)
      have HU := Lib.hid (hU.setCell ⟨w.heap.size, 3, none⟩ (.int .u8 b3.toNat) (fun h => absurd h (by dsimp only; omega)))
      clear hB
      rcases hb with ⟨rfl, rfl, rfl, rfl, rfl⟩ | ⟨rfl, rfl, rfl, rfl, rfl⟩ | ⟨rfl, rfl, rfl, rfl, rfl⟩
      all_goals
        go_wp2
        exact ⟨⟨4, _, by omega, by go_num, HU.out, HB.out, .inr (.inr (.inr (.inr ⟨rfl, rfl⟩)))⟩, by simp [intOf]⟩
    · have hst := run_string_buf hB 52 5 9 Tryz.underlying52 Tryz.underlying5 Tryz.underlying9 4 4 rfl
      clear hb
      go_wp2
      go_ret
      exact ⟨rfl, hU⟩
theorem sfdp_may (x : Int) (hx : x = 4096 ∨ x = 512 ∨ x = 32) (w : World) :
    Calls Tryz.prog 105 #[.int .i64 x] w fun e w' => e = .returned (.bool true) ∧ w = w' := by
  rcases hx with rfl | rfl | rfl
  all_goals
    go_enter Tryz.func105, Tryz.ntmps105
    go_wp2
    go_ret
    exact ⟨rfl, rfl⟩
def outB : Nat → ByteArray
  | 0 => ⟨#[83, 70, 68, 80, 6, 1, 0, 255]⟩
  | 1 => ⟨#[83, 70, 68, 80, 6, 1, 0, 255, 0, 16, 0, 0]⟩
  | 2 => ⟨#[83, 70, 68, 80, 6, 1, 0, 255, 0, 16, 0, 0, 0, 2, 0, 0]⟩
  | _ => ⟨#[83, 70, 68, 80, 6, 1, 0, 255, 0, 16, 0, 0, 0, 2, 0, 0, 32, 0, 0, 0]⟩
theorem rep12 (W : World) : Calls Tryz.prog 107 #[.string ⟨#[255]⟩, .int .i64 12] W fun e w' => e = .returned (.string ⟨#[255, 255, 255, 255, 255, 255, 255, 255, 255, 255, 255, 255]⟩) ∧ Below W.heap.size W w' :=
  Tryz.strings_Repeat ⟨#[255]⟩ 12 W (by decide) (by decide)
set_option maxRecDepth 100000 in
set_option maxHeartbeats 1000000 in
theorem sfdp_put (w : World) :
    Calls Tryz.prog 102 #[.int .i64 4096, .int .i64 512, .int .i64 32] w fun e w' => e = .returned (.tuple #[.string sfdpTab, .int .i64 0]) ∧ Upd none' w w' := by
  have HREP := Lib.hid rep12
  go_enter Tryz.func102, Tryz.ntmps102
  go_wp2_with fail
  go_loopw [8, 16] (fun sv iv wr => ∃ i : Nat, i ≤ 3 ∧ iv = .int .i64 i ∧ sv = .string (outB i) ∧ Upd none' w wr ∧ Blk wr w.heap.size (ints [4096, 512, 32]) 3) (fun _ iv _ => 3 - (intOf iv).toNat)
  case atStart => exact ⟨0, by omega, rfl, rfl, (Upd.refl none' w).alloc _, Blk.new w _ _⟩
  case round =>
    obtain ⟨i, hi, rfl, rfl, hU, hB⟩ := hrel
    rcases (show i = 0 ∨ i = 1 ∨ i = 2 ∨ i = 3 by omega) with rfl | rfl | rfl | rfl
    · have c0 := hB.cell 0
      simp only [ints, List.map_cons, List.map_nil, List.getElem?_cons_zero, List.getElem?_cons_succ] at c0
      have HU := Lib.hid hU
      have HB := Lib.hid hB
      clear hU hB
      go_wp2_with (first | (go_at_call 105; refine (sfdp_may 4096 (.inl rfl) _).mono ?_; rintro e w' ⟨rfl, rfl⟩) | (go_at_call 106; refine (sfdp_low 4096 (.inl rfl) _).mono ?_; rintro e w1 ⟨rfl, hU1⟩))
      refine ⟨?rel, ?measure⟩
      case rel => exact ⟨1, by omega, by go_num, rfl, HU.out.trans hU1 (fun _ _ f => f), HB.out.upd hU1 (fun f => f)⟩
      case measure => simp [intOf]
    · have c0 := hB.cell 1
      simp only [ints, List.map_cons, List.map_nil, List.getElem?_cons_zero, List.getElem?_cons_succ] at c0
      have HU := Lib.hid hU
      have HB := Lib.hid hB
      clear hU hB
      go_wp2_with (first | (go_at_call 105; refine (sfdp_may 512 (.inr (.inl rfl)) _).mono ?_; rintro e w' ⟨rfl, rfl⟩) | (go_at_call 106; refine (sfdp_low 512 (.inr (.inl rfl)) _).mono ?_; rintro e w1 ⟨rfl, hU1⟩))
      refine ⟨?rel, ?measure⟩
      case rel => exact ⟨2, by omega, by go_num, rfl, HU.out.trans hU1 (fun _ _ f => f), HB.out.upd hU1 (fun f => f)⟩
      case measure => simp [intOf]
    · have c0 := hB.cell 2
      simp only [ints, List.map_cons, List.map_nil, List.getElem?_cons_zero, List.getElem?_cons_succ] at c0
      have HU := Lib.hid hU
      have HB := Lib.hid hB
      clear hU hB
      go_wp2_with (first | (go_at_call 105; refine (sfdp_may 32 (.inr (.inr rfl)) _).mono ?_; rintro e w' ⟨rfl, rfl⟩) | (go_at_call 106; refine (sfdp_low 32 (.inr (.inr rfl)) _).mono ?_; rintro e w1 ⟨rfl, hU1⟩))
      refine ⟨?rel, ?measure⟩
      case rel => exact ⟨3, by omega, by go_num, rfl, HU.out.trans hU1 (fun _ _ f => f), HB.out.upd hU1 (fun f => f)⟩
      case measure => simp [intOf]
    · have HU := Lib.hid hU
      clear hU hB
      rw [show outB 3 = ⟨#[83, 70, 68, 80, 6, 1, 0, 255, 0, 16, 0, 0, 0, 2, 0, 0, 32, 0, 0, 0]⟩ from rfl]
      go_wp2_with (go_at_call 107; refine (HREP.out _).mono ?_; rintro e w1 ⟨rfl, hb1⟩)
      go_ret2
      exact ⟨rfl, HU.out.below hb1 (fun k h1 h2 => by have := HU.out.size; omega)⟩
end Go.Proofs.YtjdjdfllggpckaaGreat
