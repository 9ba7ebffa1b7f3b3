/- What the chip tells of itself is built: sfdp.Put. · The table that the chip makes once: sync.Once, one goroutine. -/
import Derived.Test.YteombggfmeilaaaGreatLow
import Derived.Test.YteombggfmeilaaaGreatShelf
import Derived.Laws.MakeOwn
import Derived.Test.YteombggfmeilaaaGreatChipM
import Derived.Test.YteombggfmeilaaaGreatChipC
import Derived.Defers
import Derived.Laws.Pointers
import Derived.Laws.LoneSync
import Derived.RegionCalls
import Derived.Laws.NewBlocks
import Derived.Deep.RegionHeld3
namespace Go.Proofs.YteombggfmeilaaaGreat
open Go.RowKit
theorem make_bytes4 (u : World) : (Instr.makeSlice 23 (.int .i64 4) (.int .i64 4)).run Tryz.prog u = .ok (.slice (some ⟨u.heap.size, 0, none⟩) 4 4) (u.alloc (.cells (bytesV (List.replicate 4 0)).toArray 5)) := by
  have := run_make (P := Tryz.prog) u 23 5 Tryz.t5 (.int .u8 0) Tryz.underlying23 (by kernel_rfl) (by kernel_rfl) .i64 .i64 4 4 (by decide) (by decide) (by show ((1 : Nat) : Int) * 4 ≤ _; decide) (by decide)
  rw [this, show madeCells (Value.int .u8 0).cells (Int.toNat 4 * Tryz.t5.size) = (bytesV (List.replicate 4 0)).toArray from by kernel_rfl]
  rfl
def lowL (x : Int) : List UInt8 := if x = 4096 then [0, 16, 0, 0] else if x = 512 then [0, 2, 0, 0] else [32, 0, 0, 0]
set_option maxHeartbeats 1000000 in
theorem sfdp_low (x : Int) (hx : x = 4096 ∨ x = 512 ∨ x = 32) (w : World) :
    Calls Tryz.prog 204 #[.int .i64 x] w fun e w' => e = .returned (.string ⟨(lowL x).toArray⟩) ∧ Upd none' w w' := by
  have hmk := make_bytes4
  obtain ⟨b0, b1, b2, b3, hl, hb⟩ : ∃ b0 b1 b2 b3, lowL x = [b0, b1, b2, b3] ∧ (x = 4096 ∧ b0 = 0 ∧ b1 = 16 ∧ b2 = 0 ∧ b3 = 0 ∨ x = 512 ∧ b0 = 0 ∧ b1 = 2 ∧ b2 = 0 ∧ b3 = 0 ∨ x = 32 ∧ b0 = 32 ∧ b1 = 0 ∧ b2 = 0 ∧ b3 = 0) := by
    rcases hx with rfl | rfl | rfl
    · exact ⟨0, 16, 0, 0, rfl, .inl ⟨rfl, rfl, rfl, rfl, rfl⟩⟩
    · exact ⟨0, 2, 0, 0, rfl, .inr (.inl ⟨rfl, rfl, rfl, rfl, rfl⟩)⟩
    · exact ⟨32, 0, 0, 0, rfl, .inr (.inr ⟨rfl, rfl, rfl, rfl, rfl⟩)⟩
  rw [hl]
  clear hl hx
  go_enter Tryz.func204, Tryz.ntmps204
  go_wp2_with fail
  clear hmk
  go_loopw [8] (fun iv wr => ∃ (i : Nat) (l : List UInt8), i ≤ 4 ∧ iv = .int .i64 i ∧ Upd none' w wr ∧ Buf wr w.heap.size l 5 ∧ (i = 0 ∧ l = [0, 0, 0, 0] ∨ i = 1 ∧ l = [b0, 0, 0, 0] ∨ i = 2 ∧ l = [b0, b1, 0, 0] ∨ i = 3 ∧ l = [b0, b1, b2, 0] ∨ i = 4 ∧ l = [b0, b1, b2, b3])) (fun iv _ => 4 - (intOf iv).toNat)
  case atStart => exact ⟨0, [0, 0, 0, 0], by omega, rfl, (Upd.refl none' w).alloc _, ⟨[], (0, 0), by rw [List.append_nil]; exact heap_alloc_new w _, .inl rfl⟩, .inl ⟨rfl, rfl⟩⟩
  case round =>
    obtain ⟨i, l, hi, rfl, hU, hB, hl⟩ := hrel
    rcases hl with ⟨rfl, rfl⟩ | ⟨rfl, rfl⟩ | ⟨rfl, rfl⟩ | ⟨rfl, rfl⟩ | ⟨rfl, rfl⟩
    · have hc := hB.cell (j := 0) (by simp)
      have hf := hB.frozen (j := 0) (by simp)
      have HB := Lib.hid (hB.set (j := 0) (by simp) b0)
      have HU := Lib.hid (hU.setCell ⟨w.heap.size, 0, none⟩ (.int .u8 b0.toNat) (fun h => absurd h (by dsimp only; omega)))
      clear hB
      rcases hb with ⟨rfl, rfl, rfl, rfl, rfl⟩ | ⟨rfl, rfl, rfl, rfl, rfl⟩ | ⟨rfl, rfl, rfl, rfl, rfl⟩
      all_goals
        go_wp2
        exact ⟨⟨1, _, by omega, by go_num, HU.out, HB.out, .inr (.inl ⟨rfl, rfl⟩)⟩, by simp [intOf]⟩
    · have hc := hB.cell (j := 1) (by simp)
      have hf := hB.frozen (j := 1) (by simp)
      have HB := Lib.hid (hB.set (j := 1) (by simp) b1)
      have HU := Lib.hid (hU.setCell ⟨w.heap.size, 1, none⟩ (.int .u8 b1.toNat) (fun h => absurd h (by dsimp only; omega)))
      clear hB
      rcases hb with ⟨rfl, rfl, rfl, rfl, rfl⟩ | ⟨rfl, rfl, rfl, rfl, rfl⟩ | ⟨rfl, rfl, rfl, rfl, rfl⟩
      all_goals
        go_wp2
        exact ⟨⟨2, _, by omega, by go_num, HU.out, HB.out, .inr (.inr (.inl ⟨rfl, rfl⟩))⟩, by simp [intOf]⟩
    · have hc := hB.cell (j := 2) (by simp)
      have hf := hB.frozen (j := 2) (by simp)
      have HB := Lib.hid (hB.set (j := 2) (by simp) b2)
      have HU := Lib.hid (hU.setCell ⟨w.heap.size, 2, none⟩ (.int .u8 b2.toNat) (fun h => absurd h (by dsimp only; omega)))
      clear hB
      rcases hb with ⟨rfl, rfl, rfl, rfl, rfl⟩ | ⟨rfl, rfl, rfl, rfl, rfl⟩ | ⟨rfl, rfl, rfl, rfl, rfl⟩
      all_goals
        go_wp2
        exact ⟨⟨3, _, by omega, by go_num, HU.out, HB.out, .inr (.inr (.inr (.inl ⟨rfl, rfl⟩)))⟩, by simp [intOf]⟩
    · have hc := hB.cell (j := 3) (by simp)
      have hf := hB.frozen (j := 3) (by simp)
      have HB := Lib.hid (hB.set (j := 3) (by simp) b3)
      have HU := Lib.hid (hU.setCell ⟨w.heap.size, 3, none⟩ (.int .u8 b3.toNat) (fun h => absurd h (by dsimp only; omega)))
      clear hB
      rcases hb with ⟨rfl, rfl, rfl, rfl, rfl⟩ | ⟨rfl, rfl, rfl, rfl, rfl⟩ | ⟨rfl, rfl, rfl, rfl, rfl⟩
      all_goals
        go_wp2
        exact ⟨⟨4, _, by omega, by go_num, HU.out, HB.out, .inr (.inr (.inr (.inr ⟨rfl, rfl⟩)))⟩, by simp [intOf]⟩
    · have hst := run_string_buf hB 23 5 9 Tryz.underlying23 Tryz.underlying5 Tryz.underlying9 4 4 rfl
      clear hb
      go_wp2
      go_ret
      exact ⟨rfl, hU⟩
theorem sfdp_may (x : Int) (hx : x = 4096 ∨ x = 512 ∨ x = 32) (w : World) :
    Calls Tryz.prog 203 #[.int .i64 x] w fun e w' => e = .returned (.bool true) ∧ w = w' := by
  rcases hx with rfl | rfl | rfl
  all_goals
    go_enter Tryz.func203, Tryz.ntmps203
    go_wp2
    go_ret
    exact ⟨rfl, rfl⟩
def outB : Nat → ByteArray
  | 0 => ⟨#[83, 70, 68, 80, 6, 1, 0, 255]⟩
  | 1 => ⟨#[83, 70, 68, 80, 6, 1, 0, 255, 0, 16, 0, 0]⟩
  | 2 => ⟨#[83, 70, 68, 80, 6, 1, 0, 255, 0, 16, 0, 0, 0, 2, 0, 0]⟩
  | _ => ⟨#[83, 70, 68, 80, 6, 1, 0, 255, 0, 16, 0, 0, 0, 2, 0, 0, 32, 0, 0, 0]⟩
theorem rep12 (W : World) : Calls Tryz.prog 205 #[.string ⟨#[255]⟩, .int .i64 12] W fun e w' => e = .returned (.string ⟨#[255, 255, 255, 255, 255, 255, 255, 255, 255, 255, 255, 255]⟩) ∧ Below W.heap.size W w' :=
  Tryz.strings_Repeat ⟨#[255]⟩ 12 W (by decide) (by decide)
set_option maxRecDepth 100000 in
set_option maxHeartbeats 1000000 in
theorem sfdp_put (w : World) :
    Calls Tryz.prog 185 #[.int .i64 4096, .int .i64 512, .int .i64 32] w fun e w' => e = .returned (.tuple #[.string sfdpTab, .int .i64 0]) ∧ Upd none' w w' := by
  have HREP := Lib.hid rep12
  go_enter Tryz.func185, Tryz.ntmps185
  go_wp2_with fail
  go_loopw [8, 16] (fun sv iv wr => ∃ i : Nat, i ≤ 3 ∧ iv = .int .i64 i ∧ sv = .string (outB i) ∧ Upd none' w wr ∧ Blk wr w.heap.size (ints [4096, 512, 32]) 3) (fun _ iv _ => 3 - (intOf iv).toNat)
  case atStart => exact ⟨0, by omega, rfl, rfl, (Upd.refl none' w).alloc _, Blk.new w _ _⟩
  case round =>
    obtain ⟨i, hi, rfl, rfl, hU, hB⟩ := hrel
    rcases (show i = 0 ∨ i = 1 ∨ i = 2 ∨ i = 3 by omega) with rfl | rfl | rfl | rfl
    · have c0 := hB.cell 0
      simp only [ints, List.map_cons, List.map_nil, List.getElem?_cons_zero] at c0
      have HU := Lib.hid hU
      have HB := Lib.hid hB
      clear hU hB
      go_wp2_with (first | (go_at_call 203; refine (sfdp_may 4096 (.inl rfl) _).mono ?_; rintro e w' ⟨rfl, rfl⟩) | (go_at_call 204; refine (sfdp_low 4096 (.inl rfl) _).mono ?_; rintro e w1 ⟨rfl, hU1⟩))
      refine ⟨?rel, ?measure⟩
      case rel => exact ⟨1, by omega, by go_num, rfl, HU.out.trans hU1 (fun _ _ f => f), HB.out.upd hU1 (fun f => f)⟩
      case measure => simp [intOf]
    · have c0 := hB.cell 1
      simp only [ints, List.map_cons, List.map_nil, List.getElem?_cons_zero, List.getElem?_cons_succ] at c0
      have HU := Lib.hid hU
      have HB := Lib.hid hB
      clear hU hB
      go_wp2_with (first | (go_at_call 203; refine (sfdp_may 512 (.inr (.inl rfl)) _).mono ?_; rintro e w' ⟨rfl, rfl⟩) | (go_at_call 204; refine (sfdp_low 512 (.inr (.inl rfl)) _).mono ?_; rintro e w1 ⟨rfl, hU1⟩))
      refine ⟨?rel, ?measure⟩
      case rel => exact ⟨2, by omega, by go_num, rfl, HU.out.trans hU1 (fun _ _ f => f), HB.out.upd hU1 (fun f => f)⟩
      case measure => simp [intOf]
    · have c0 := hB.cell 2
      simp only [ints, List.map_cons, List.map_nil, List.getElem?_cons_zero, List.getElem?_cons_succ] at c0
      have HU := Lib.hid hU
      have HB := Lib.hid hB
      clear hU hB
      go_wp2_with (first | (go_at_call 203; refine (sfdp_may 32 (.inr (.inr rfl)) _).mono ?_; rintro e w' ⟨rfl, rfl⟩) | (go_at_call 204; refine (sfdp_low 32 (.inr (.inr rfl)) _).mono ?_; rintro e w1 ⟨rfl, hU1⟩))
      refine ⟨?rel, ?measure⟩
      case rel => exact ⟨3, by omega, by go_num, rfl, HU.out.trans hU1 (fun _ _ f => f), HB.out.upd hU1 (fun f => f)⟩
      case measure => simp [intOf]
    · have HU := Lib.hid hU
      clear hU hB
      rw [show outB 3 = ⟨#[83, 70, 68, 80, 6, 1, 0, 255, 0, 16, 0, 0, 0, 2, 0, 0, 32, 0, 0, 0]⟩ from rfl]
      go_wp2_with (go_at_call 205; refine (HREP.out _).mono ?_; rintro e w1 ⟨rfl, hb1⟩)
      go_ret2
      exact ⟨rfl, HU.out.below hb1 (fun k h1 h2 => by have := HU.out.size; omega)⟩
end Go.Proofs.YteombggfmeilaaaGreat
namespace Go.Proofs.YteombggfmeilaaaGreat
open Go.RowKit
theorem o_disable (w : World) : (callFunc 229 #[]).run Tryz.prog w = .ok (.value (.tuple #[])) w := run_call_mark0 Tryz.func229 (by kernel_rfl) (by kernel_rfl) (by kernel_rfl) .disable (by kernel_rfl) w
theorem o_enable (w : World) : (callFunc 231 #[]).run Tryz.prog w = .ok (.value (.tuple #[])) w := run_call_mark0 Tryz.func231 (by kernel_rfl) (by kernel_rfl) (by kernel_rfl) .enable (by kernel_rfl) w
theorem o_acquire (a : Addr) (w : World) : (callFunc 232 #[.pointer (some a)]).run Tryz.prog w = .ok (.value (.tuple #[])) w := run_call_marked Tryz.func232 (by kernel_rfl) (by kernel_rfl) (by kernel_rfl) .acquire (by kernel_rfl) a w
theorem o_releaseMerge (a : Addr) (w : World) : (callFunc 234 #[.pointer (some a)]).run Tryz.prog w = .ok (.value (.tuple #[])) w := run_call_marked Tryz.func234 (by kernel_rfl) (by kernel_rfl) (by kernel_rfl) .releaseMerge (by kernel_rfl) a w
set_option maxRecDepth 100000 in
set_option maxHeartbeats 1600000 in
theorem store_deferred (a : Addr) (x : Value) (u : FrameMode) (w : World) (hc : w.cell? a = some x) (hz : w.frozen? a = false) :
    CallsD Tryz.prog 212 #[.pointer (some a), .bool true] u w fun e u' w' => u' = u ∧ (e = .returned (.tuple #[]) ∧ w' = w.drew.setCell a (.int .u32 1)) := by
  have hc' : w.drew.cell? a = some x := by go_simp
  have hz' : w.drew.frozen? a = false := by go_simp
  have hst := run_call_store (P := Tryz.prog) Tryz.func222 (by kernel_rfl) (by kernel_rfl) (by kernel_rfl) (by kernel_rfl) (k := .u32) (y := 1) hc' hz'
  go_enter_d Tryz.func212, Tryz.ntmps212
  go_wp2
  go_region_calls
  all_goals (go_end0; exact ⟨rfl, rfl⟩)
set_option maxRecDepth 100000 in
set_option maxHeartbeats 1600000 in
theorem unlock_deferred (a : Addr) (u : FrameMode) (w : World) (hc : w.cell? a = some (.int .i32 1)) (hz : w.frozen? a = false) :
    CallsD Tryz.prog 211 #[.pointer (some a)] u w fun e u' w' => u' = u ∧ (e = .returned (.tuple #[]) ∧ w' = w.setCell a (.int .i32 0)) := by
  have hd := o_disable
  have he := o_enable
  have hr := o_releaseMerge
  have hadd := run_call_add (P := Tryz.prog) Tryz.func235 (by kernel_rfl) (by kernel_rfl) (by kernel_rfl) .i32 (by kernel_rfl) (y := -1) (s := 0) hc hz (by simp [go_sem]; rfl)
  have hcv := run_convert_to_unsafe (P := Tryz.prog) (src := 247) (dst := 251) Tryz.underlying247 Tryz.underlying251 (by kernel_rfl) hc
  go_enter_d Tryz.func211, Tryz.ntmps211
  go_wp2
  go_end0
  go_wp2
  go_end0
  exact ⟨rfl, rfl⟩
set_option maxRecDepth 100000 in
set_option maxHeartbeats 1600000 in
theorem lock_free (a : Addr) (w : World) (hc : w.cell? a = some (.int .i32 0)) (hz : w.frozen? a = false) :
    Calls Tryz.prog 210 #[.pointer (some a)] w fun e w' => e = .returned (.tuple #[]) ∧ w' = w.setCell a (.int .i32 1) := by
  have hd := o_disable
  have he := o_enable
  have ha := o_acquire
  have hcas := run_call_cas_hit (P := Tryz.prog) Tryz.func230 (by kernel_rfl) (by kernel_rfl) (by kernel_rfl) .i32 (by kernel_rfl) (y := 1) hc hz
  have hc' : (w.setCell a (.int .i32 1)).cell? a = some (.int .i32 1) := World.cell?_setCell_same w a _ hc
  have hcv := run_convert_to_unsafe (P := Tryz.prog) (src := 247) (dst := 251) Tryz.underlying247 Tryz.underlying251 (by kernel_rfl) hc'
  go_enter Tryz.func210, Tryz.ntmps210
  go_wp2
  first | go_end0 | (simp only [Exit.inBlock, Exit.then]; refine bodyPost_ret (results_none rfl _ _ _) rfl ?_) | refine bodyPost_ret (results_none rfl _ _ _) rfl ?_
  go_wp2
  go_end0
  exact ⟨rfl, rfl⟩
set_option maxHeartbeats 1000000 in
theorem table1 (b : Nat) (pl : Addr) (w : World) (hp : w.cell? pl = some (.pointer (some ⟨b, 0, none⟩))) (hpb : pl.block ≠ b) (hpl : pl.block < w.heap.size) (x : Value) (h14 : w.cell? ⟨b, 14, none⟩ = some x) (f14 : w.frozen? ⟨b, 14, none⟩ = false) (hbl : b < w.heap.size) :
    Calls Tryz.prog 219 #[.pointer (some pl)] w fun e w' => e = .returned (.tuple #[]) ∧ ∃ w1, Upd none' w w1 ∧ w' = w1.setCell ⟨b, 14, none⟩ (.string sfdpTab) := by
  go_enter Tryz.func219, Tryz.ntmps219
  go_region_held3 (fun w' => w'.cell? pl = some (.pointer (some ⟨b, 0, none⟩))) (first | exact hp | exact k1 | exact (World.cell?_setCell_other _ _ _ _ (fun h => hpb (by rw [← h]))).trans k1 | exact (by go_simp)) (first | (go_at_call 185; refine (sfdp_put _).mono ?_; rintro e w1 ⟨rfl, hU1⟩; have hU1' := (Upd.refl none' w).drew.trans hU1 (fun _ _ f => f); have k1 := (hU1'.cell (p := pl) hpl (fun f => f)).trans hp; have k2 := (hU1'.cell (p := ⟨b, 14, none⟩) hbl (fun f => f)).trans h14; have k3 := (hU1'.frozen (p := ⟨b, 14, none⟩) hbl (fun f => f)).trans f14) | fail)
  all_goals
    go_wp2
    go_end0
    exact ⟨rfl, w1, hU1', rfl⟩
/-- '(*sync.Once).doSlow', not yet done, the lock free. -/
theorem once_fin {w w33 : World} {b : Nat} {s : St} {jv bv dv : Value} (h : CB w b s jv bv dv) (hU : Upd none' (w.setCell ⟨b, 12, none⟩ (.int .i32 1)) w33) :
    CB ((((w33.setCell ⟨b, 14, none⟩ (.string sfdpTab)).drew.setCell ⟨b, 11, none⟩ (.int .u32 1)).setCell ⟨b, 12, none⟩ (.int .i32 0))) b { s with tabled := true } jv bv dv ∧
      Upd (fun k => k = b) w ((((w33.setCell ⟨b, 14, none⟩ (.string sfdpTab)).drew.setCell ⟨b, 11, none⟩ (.int .u32 1)).setCell ⟨b, 12, none⟩ (.int .i32 0))) := by
  refine ⟨((((((h.set 12 (.int .i32 1)).upd hU (fun f => f)).set 14 (.string sfdpTab)).drew).set 11 (.int .u32 1)).set 12 (.int .i32 0)), ?_⟩
  exact ((((((Upd.refl (fun k => k = b) w).setCell ⟨b, 12, none⟩ _ (fun _ => rfl)).trans hU (fun _ _ f => f.elim)).setCell ⟨b, 14, none⟩ _ (fun _ => rfl)).drew).setCell ⟨b, 11, none⟩ _ (fun _ => rfl)).setCell ⟨b, 12, none⟩ _ (fun _ => rfl)
set_option maxRecDepth 100000 in
set_option maxHeartbeats 1600000 in
theorem once_slow (b : Nat) (pl : Addr) (s : St) (jv bv dv : Value) (w : World) (h : CB w b s jv bv dv) (hs : s.tabled = false) (hp : w.cell? pl = some (.pointer (some ⟨b, 0, none⟩))) (hpb : pl.block ≠ b) (hpl : pl.block < w.heap.size) :
    Calls Tryz.prog 202 #[.pointer (some ⟨b, 11, none⟩), .func (.func 219) #[] #[.pointer (some pl)]] w fun e w' => e = .returned (.tuple #[]) ∧ CB w' b { s with tabled := true } jv bv dv ∧ Upd (fun k => k = b) w w' := by
  have h0 := h.cell 11
  have h1 := h.cell 12
  have f0 := h.frozen 11
  have f1 := h.frozen 12
  simp only [St.list, List.getElem?_cons_succ, List.getElem?_cons_zero, hs] at h0 h1
  have HH := Lib.hid h
  have hW := h.set 12 (.int .i32 1)
  have hl := run_call_load (P := Tryz.prog) Tryz.func209 (by kernel_rfl) (by kernel_rfl) (by kernel_rfl) .u32 (by kernel_rfl) (w := w.setCell ⟨b, 12, none⟩ (.int .i32 1)) (a := ⟨b, 11, none⟩) (x := 0) ((World.cell?_setCell_other _ ⟨b, 12, none⟩ ⟨b, 11, none⟩ _ (by simp)).trans h0)
  have hp1 : (w.setCell ⟨b, 12, none⟩ (.int .i32 1)).cell? pl = some (.pointer (some ⟨b, 0, none⟩)) := (World.cell?_setCell_other _ ⟨b, 12, none⟩ pl _ (fun h => hpb (by rw [← h]))).trans hp
  have h14 := hW.cell 14
  have f14 := hW.frozen 14
  have HT := Lib.hid (table1 b pl _ hp1 hpb (by simpa using hpl) _ h14 f14 hW.lt)
  have hnot : ∀ (x : Bool) (w : World), (Op.unary .not (.bool x)).run Tryz.prog w = .ok (.bool (!x)) w := fun _ _ => rfl
  clear h hW h14 f14 hp1
  go_enter_defers Tryz.func202, Tryz.ntmps202
  go_wp2_with (first | (go_at_call 210; refine (lock_free ⟨b, 12, none⟩ _ (by go_simp) (by go_simp)).mono ?_; rintro e w' ⟨rfl, rfl⟩) | (go_at_call 201; go_in) | (go_at_call 219; refine HT.out.mono ?_; rintro e w' ⟨rfl, w33, hU33, rfl⟩))
  have hX := ((HH.out.set 12 (.int .i32 1)).upd hU33 (fun f => f)).set 14 (.string sfdpTab)
  have hfin := once_fin HH.out hU33
  have x11 := hX.cell 11
  have y11 := hX.frozen 11
  have hY := hX.drew.set 11 (.int .u32 1)
  have x12 := hY.cell 12
  have y12 := hY.frozen 12
  refine leaves_cons (f := 212) (args := #[.pointer (some ⟨b, 11, none⟩), .bool true]) (by simp) (by simp [go_sem]) ?_
  refine (store_deferred ⟨b, 11, none⟩ _ .returning _ x11 y11).mono ?_
  rintro e u' w'' ⟨rfl, rfl, rfl⟩
  refine leaves_cons (f := 211) (args := #[.pointer (some ⟨b, 12, none⟩)]) (by simp [settle]) (by simp [go_sem]) ?_
  refine (unlock_deferred ⟨b, 12, none⟩ _ _ x12 y12).mono ?_
  rintro e u' w'' ⟨rfl, rfl, rfl⟩
  simp only [Leaves, settle]
  exact ⟨.tuple #[], results_none rfl _ _ _, rfl, hfin.1, hfin.2⟩
set_option maxRecDepth 100000 in
set_option maxHeartbeats 1600000 in
theorem once_first (b : Nat) (pl : Addr) (s : St) (jv bv dv : Value) (w : World) (h : CB w b s jv bv dv) (hs : s.tabled = false) (hp : w.cell? pl = some (.pointer (some ⟨b, 0, none⟩))) (hpb : pl.block ≠ b) (hpl : pl.block < w.heap.size) :
    Calls Tryz.prog 182 #[.pointer (some ⟨b, 11, none⟩), .func (.func 219) #[] #[.pointer (some pl)]] w fun e w' => e = .returned (.tuple #[]) ∧ CB w' b { s with tabled := true } jv bv dv ∧ Upd (fun k => k = b) w w' := by
  have h0 := h.cell 11
  simp only [St.list, List.getElem?_cons_succ, List.getElem?_cons_zero, hs] at h0
  have hl := run_call_load (P := Tryz.prog) Tryz.func209 (by kernel_rfl) (by kernel_rfl) (by kernel_rfl) .u32 (by kernel_rfl) (x := 0) h0
  have hnot : ∀ (x : Bool) (w : World), (Op.unary .not (.bool x)).run Tryz.prog w = .ok (.bool (!x)) w := fun _ _ => rfl
  have HS := Lib.hid (once_slow b pl s jv bv dv w h hs hp hpb hpl)
  clear h
  go_enter Tryz.func182, Tryz.ntmps182
  go_wp2_with (first | (go_at_call 202; refine HS.out.mono ?_; rintro e w' ⟨rfl, hB, hU⟩) | (go_at_call 201; go_in))
  go_end0
  exact ⟨rfl, hB, hU⟩
theorem once_done (a : Addr) (fv : Value) (w : World) (h0 : w.cell? a = some (.int .u32 1)) :
    Calls Tryz.prog 182 #[.pointer (some a), fv] w fun e w' => e = .returned (.tuple #[]) ∧ w = w' := by
  have hl := run_call_load (P := Tryz.prog) Tryz.func209 (by kernel_rfl) (by kernel_rfl) (by kernel_rfl) .u32 (by kernel_rfl) (x := 1) h0
  have hnot : ∀ (x : Bool) (w : World), (Op.unary .not (.bool x)).run Tryz.prog w = .ok (.bool (!x)) w := fun _ _ => rfl
  go_enter Tryz.func182, Tryz.ntmps182
  go_wp2
  go_end0
  exact ⟨rfl, rfl⟩
set_option maxRecDepth 100000 in
set_option maxHeartbeats 1600000 in
theorem table_said : TableSaid := by
  intro b s jv bv dv w h
  have hmf : ∀ (fn : Fn) (first cap : Array Value) (w : World), (Instr.makeFunc fn first cap).run Tryz.prog w = .ok (.func fn first cap) w := fun _ _ _ _ => rfl
  have hb := h.lt
  have hA := h.alloc (.cells #[.pointer (some ⟨b, 0, none⟩)] 25)
  have hp := (Blk.new w [.pointer (some ⟨b, 0, none⟩)] 25).cell 0
  simp only [List.getElem?_cons_zero] at hp
  cases ht : s.tabled with
  | false =>
    have HF := Lib.hid (once_first b ⟨w.heap.size, 0, none⟩ s jv bv dv _ hA ht hp (by dsimp only; omega) (by simp))
    clear hA hp
    go_enter Tryz.func208, Tryz.ntmps208
    go_wp2_with (go_at_call 182; refine HF.out.mono ?_; rintro e w' ⟨rfl, hB, hU⟩; have k0 := (hU.cell (p := ⟨w.heap.size, 0, none⟩) (by simp) (by dsimp only; omega)).trans ((Blk.new w [.pointer (some ⟨b, 0, none⟩)] 25).cell 0); have k14 := hB.cell 14; simp only [St.list, List.getElem?_cons_succ, List.getElem?_cons_zero, if_true] at k0 k14)
    go_ret
    exact ⟨rfl, hB, ((Upd.refl (fun k => k = b) w).alloc _).trans hU (fun _ _ e => e)⟩
  | true =>
    have h11 := hA.cell 11
    have h14 := hA.cell 14
    simp only [St.list, List.getElem?_cons_succ, List.getElem?_cons_zero, ht, if_true] at h11 h14
    have HD := Lib.hid (fun fv => once_done ⟨b, 11, none⟩ fv _ h11)
    go_enter Tryz.func208, Tryz.ntmps208
    go_wp2_with (go_at_call 182; refine (HD.out _).mono ?_; rintro e w' ⟨rfl, rfl⟩)
    go_ret
    refine ⟨rfl, ?_, (Upd.refl (fun k => k = b) w).alloc _⟩
    rw [show ({ s with tabled := true } : St) = s by cases s; simp_all]
    exact hA
end Go.Proofs.YteombggfmeilaaaGreat
