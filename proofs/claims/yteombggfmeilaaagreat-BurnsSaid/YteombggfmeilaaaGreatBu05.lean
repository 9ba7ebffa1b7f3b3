/- Blank SayP Table Ctx RefNew WireM -/
import Derived.Test.YteombggfmeilaaaGreatBu04
import Derived.Test.YteombggfmeilaaaGreatBu00
import Derived.Laws.MakeOwn
import Derived.Test.YteombggfmeilaaaGreatShelf
import Derived.Test.YteombggfmeilaaaGreatBu02
import Derived.Defers
import Derived.Laws.Pointers
import Derived.Laws.LoneSync
import Derived.RegionCalls
import Derived.Laws.NewBlocks
import Derived.Deep.RegionHeld3
import Derived.Laws.OwnMore
/- Blank. -/
namespace Go.Proofs.YteombggfmeilaaaGreat
open Go.RowKit
def zeroL : List UInt8 := List.replicate 4096 0
def blankL : List UInt8 := List.replicate 4096 255
theorem made_gen (z : Value) (n : Nat) : madeCells #[z] n = (List.replicate n z).toArray := by
  apply Array.ext
  · simp [madeCells]
  · intro i h1 h2
    simp [madeCells, Nat.mod_one]
theorem made_zero : madeCells (Value.int .u8 0).cells (Int.toNat 4096 * Tryz.t5.size) = (bytesV zeroL).toArray := by
  rw [show Tryz.t5.size = 1 from by kernel_rfl, show (Value.int .u8 0).cells = #[Value.int .u8 0] from rfl, made_gen, Nat.mul_one]
  unfold zeroL bytesV
  rw [List.map_replicate]
  rfl
theorem make_bytes4096 (u : World) : (Instr.makeSlice 23 (.int .i64 4096) (.int .i64 4096)).run Tryz.prog u = .ok (.slice (some ⟨u.heap.size, 0, none⟩) 4096 4096) (u.alloc (.cells (bytesV zeroL).toArray 5)) := by
  have := run_make (P := Tryz.prog) u 23 5 Tryz.t5 (.int .u8 0) Tryz.underlying23 (by kernel_rfl) (by kernel_rfl) .i64 .i64 4096 4096 (by decide) (by decide) (by show ((1 : Nat) : Int) * 4096 ≤ _; decide) (by decide)
  rw [this, made_zero]
  rfl
theorem fillN (n i : Nat) (h : i < n) : (List.replicate i (255 : UInt8) ++ List.replicate (n - i) 0).set i 255 = List.replicate (i + 1) 255 ++ List.replicate (n - (i + 1)) 0 := by
  apply List.ext_getElem
  · simp; omega
  · intro j h1 h2
    simp only [List.getElem_set, List.getElem_append, List.length_replicate, List.getElem_replicate]
    split
    · subst_vars; simp
    · split <;> split <;> first | rfl | omega
set_option maxRecDepth 100000 in
set_option maxHeartbeats 1000000 in
theorem ref_blank (w : World) :
    Calls Tryz.prog 13 #[] w fun e w' => e = .returned (.string ⟨blankL.toArray⟩) ∧ Upd none' w w' := by
  have hfull : Calls Tryz.prog 89 #[.int .i64 4096] w fun e w' => e = .returned (.string ⟨blankL.toArray⟩) ∧ Upd none' w w' := by
    have hmk := make_bytes4096
    go_enter Tryz.func89, Tryz.ntmps89
    go_wp2_with fail
    clear hmk
    obtain ⟨Z, hZ⟩ : ∃ Z, zeroL = Z := ⟨_, rfl⟩
    rw [hZ]
    have hBz : Buf (w.alloc (.cells (bytesV Z).toArray 5)) w.heap.size Z 5 := ⟨[], (0, 0), by rw [List.append_nil]; exact heap_alloc_new w _, .inl rfl⟩
    have hUz := (Upd.refl none' w).alloc (.cells (bytesV Z).toArray 5)
    generalize w.alloc (.cells (bytesV Z).toArray 5) = W at *
    go_loopw [4] (fun iv wr => ∃ (i : Nat) (l : List UInt8), i ≤ 4096 ∧ iv = .int .i64 i ∧ Upd none' w wr ∧ Buf wr w.heap.size l 5 ∧ Hid (l = List.replicate i 255 ++ List.replicate (4096 - i) 0)) (fun iv _ => 4096 - (intOf iv).toNat)
    case atStart => exact ⟨0, Z, by omega, rfl, hUz, hBz, Lib.hid (by rw [← hZ, List.replicate_zero, List.nil_append]; rfl)⟩
    case round =>
      clear hBz hUz
      obtain ⟨i, l, hi, rfl, hU, hB, hl⟩ := hrel
      have hll : l.length = 4096 := by rw [hl.out]; simp; omega
      by_cases hlt : i < 4096
      · have hc := hB.cell (j := i) (by omega)
        have hf := hB.frozen (j := i) (by omega)
        have HB := Lib.hid (hB.set (j := i) (by omega) 255)
        have HU := Lib.hid (hU.setCell ⟨w.heap.size, i, none⟩ (.int .u8 255) (fun h => absurd h (by dsimp only; omega)))
        clear hB hU hZ
        go_wp2
        exact ⟨⟨i + 1, _, by omega, by go_num, HU.out, HB.out, Lib.hid (by rw [hl.out, fillN 4096 i hlt])⟩, by simp [intOf]; omega⟩
      · have hieq : i = 4096 := by omega
        subst hieq
        have hle : l = blankL := by rw [hl.out, Nat.sub_self, List.replicate_zero, List.append_nil]; rfl
        subst hle
        have hst := run_string_buf hB 23 5 9 Tryz.underlying23 Tryz.underlying5 Tryz.underlying9 4096 4096 hll
        clear hZ
        go_wp2
        go_ret
        exact ⟨rfl, hU⟩
  go_enter Tryz.func13, Tryz.ntmps13
  go_wp2_with fail
  refine hfull.mono ?_
  rintro e w1 ⟨rfl, hU⟩
  go_wp2
  go_ret
  exact ⟨rfl, hU⟩
end Go.Proofs.YteombggfmeilaaaGreat
namespace Go.Proofs.YteombggfmeilaaaGreat
open Go.RowKit
def freshAt (s : ByteArray) (i : Nat) : UInt8 := s.data.toList.getD (i % s.size) 0
def freshL (s : ByteArray) : List UInt8 := if s.size = 0 then blankL else (List.range 4096).map (freshAt s)
theorem freshL_len (s : ByteArray) : (freshL s).length = 4096 := by
  unfold freshL
  split
  · exact List.length_replicate
  · rw [List.length_map, List.length_range]
theorem fresh_step (s : ByteArray) (l : List UInt8) (i : Nat) (hi : i < 4096) (h : l = ((List.range 4096).map (freshAt s)).take i ++ blankL.drop i) : l.set i (freshAt s i) = ((List.range 4096).map (freshAt s)).take (i + 1) ++ blankL.drop (i + 1) := by
  have hb : blankL.length = 4096 := List.length_replicate
  have hr : ((List.range 4096).map (freshAt s)).length = 4096 := by rw [List.length_map, List.length_range]
  have hg : ∀ k (hk : k < ((List.range 4096).map (freshAt s)).length), ((List.range 4096).map (freshAt s))[k] = freshAt s k := fun k hk => by rw [List.getElem_map, List.getElem_range]
  subst h
  generalize (List.range 4096).map (freshAt s) = fl at *
  generalize blankL = bl at *
  apply List.ext_getElem
  · simp [hb, hr]; omega
  · intro j h1 h2
    rw [List.getElem_set]
    by_cases hj : i = j
    · subst hj
      rw [if_pos rfl, List.getElem_append_left (by rw [List.length_take]; omega), List.getElem_take, hg]
    · rw [if_neg hj]
      by_cases hlt : j < i
      · rw [List.getElem_append_left (by rw [List.length_take]; omega), List.getElem_append_left (by rw [List.length_take]; omega), List.getElem_take, List.getElem_take]
      · rw [List.getElem_append_right (by rw [List.length_take]; omega), List.getElem_append_right (by rw [List.length_take]; omega)]
        simp only [List.getElem_drop, List.length_take]
        congr 1
        omega
end Go.Proofs.YteombggfmeilaaaGreat
/- SayP. -/
namespace Go.Proofs.YteombggfmeilaaaGreat
open Go.RowKit
def runC (s : St) (xs : List Int) : St × List Int := xs.foldl (fun (p : St × List Int) x => ((p.1.clock x).1, p.2 ++ [(p.1.clock x).2])) (s, [])
theorem runC_len (s : St) (xs : List Int) : (runC s xs).2.length = xs.length := by
  have key : ∀ (l : List Int) (p : St × List Int), (l.foldl (fun (p : St × List Int) x => ((p.1.clock x).1, p.2 ++ [(p.1.clock x).2])) p).2.length = p.2.length + l.length := by
    intro l
    induction l with
    | nil => intro p; rfl
    | cons x l ih => intro p; rw [List.foldl_cons, ih, List.length_append]; simp; omega
  unfold runC
  rw [key]
  simp
theorem behind_sel (s : St) : s.behind.sel = s.sel := by
  unfold St.behind
  repeat' split
  all_goals rfl
theorem begins_sel (s : St) (c : Int) : (s.begins c).sel = s.sel := by
  unfold St.begins
  dsimp only
  split
  · rfl
  · split
    · rfl
    · rw [behind_sel]
theorem says_sel (s : St) : s.says.1.sel = s.sel := by
  have h1 : s.says1.sel = s.sel := by
    unfold St.says1
    split <;> rfl
  unfold St.says
  dsimp only
  split <;> exact h1
theorem clockIn_sel (s : St) (x : Int) : (s.clockIn x).1.sel = s.sel := by
  unfold St.clockIn
  dsimp only
  split
  · split
    · rw [begins_sel]; rfl
    · rfl
  split
  · split
    · rw [behind_sel]; rfl
    · rfl
  split
  · split
    · rw [behind_sel]; rfl
    · rfl
  split
  · split
    · rw [behind_sel]
    · rfl
  split
  · split
    · rw [behind_sel]; rfl
    · rfl
  split
  · exact says_sel s
  split <;> rfl
theorem clock_sel (s : St) (x : Int) : (s.clock x).1.sel = s.sel := by
  unfold St.clock
  dsimp only
  split
  · rw [clockIn_sel, (pass_keeps s).2.2]
  · exact (pass_keeps s).2.2
theorem select_sel (s : St) : s.select.sel = true := by
  rw [select_eq]
  split
  · rw [begins_sel]; rfl
  · rfl
end Go.Proofs.YteombggfmeilaaaGreat
/- Table. -/
namespace Go.Proofs.YteombggfmeilaaaGreat
open Go.RowKit
theorem make_bytes4 (u : World) : (Instr.makeSlice 23 (.int .i64 4) (.int .i64 4)).run Tryz.prog u = .ok (.slice (some ⟨u.heap.size, 0, none⟩) 4 4) (u.alloc (.cells (bytesV (List.replicate 4 0)).toArray 5)) := by
  have := run_make (P := Tryz.prog) u 23 5 Tryz.t5 (.int .u8 0) Tryz.underlying23 (by kernel_rfl) (by kernel_rfl) .i64 .i64 4 4 (by decide) (by decide) (by show ((1 : Nat) : Int) * 4 ≤ _; decide) (by decide)
  rw [this, show madeCells (Value.int .u8 0).cells (Int.toNat 4 * Tryz.t5.size) = (bytesV (List.replicate 4 0)).toArray from by kernel_rfl]
  rfl
def lowL (x : Int) : List UInt8 := if x = 4096 then [0, 16, 0, 0] else if x = 512 then [0, 2, 0, 0] else [32, 0, 0, 0]
set_option maxHeartbeats 1000000 in
theorem sfdp_low (x : Int) (hx : x = 4096 ∨ x = 512 ∨ x = 32) (w : World) :
    Calls Tryz.prog 204 #[.int .i64 x] w fun e w' => e = .returned (.string ⟨(lowL x).toArray⟩) ∧ Upd none' w w' := by
  have hmk := make_bytes4
  obtain ⟨b0, b1, b2, b3, hl, hb⟩ : ∃ b0 b1 b2 b3, lowL x = [b0, b1, b2, b3] ∧ (x = 4096 ∧ b0 = 0 ∧ b1 = 16 ∧ b2 = 0 ∧ b3 = 0 ∨ x = 512 ∧ b0 = 0 ∧ b1 = 2 ∧ b2 = 0 ∧ b3 = 0 ∨ x = 32 ∧ b0 = 32 ∧ b1 = 0 ∧ b2 = 0 ∧ b3 = 0) := by
    rcases hx with rfl | rfl | rfl
    · exact ⟨0, 16, 0, 0, rfl, .inl ⟨rfl, rfl, rfl, rfl, rfl⟩⟩
    · exact ⟨0, 2, 0, 0, rfl, .inr (.inl ⟨rfl, rfl, rfl, rfl, rfl⟩)⟩
    · exact ⟨32, 0, 0, 0, rfl, .inr (.inr ⟨rfl, rfl, rfl, rfl, rfl⟩)⟩
  rw [hl]
  clear hl hx
  go_enter Tryz.func204, Tryz.ntmps204
  go_wp2_with fail
  clear hmk
  go_loopw [8] (fun iv wr => ∃ (i : Nat) (l : List UInt8), i ≤ 4 ∧ iv = .int .i64 i ∧ Upd none' w wr ∧ Buf wr w.heap.size l 5 ∧ (i = 0 ∧ l = [0, 0, 0, 0] ∨ i = 1 ∧ l = [b0, 0, 0, 0] ∨ i = 2 ∧ l = [b0, b1, 0, 0] ∨ i = 3 ∧ l = [b0, b1, b2, 0] ∨ i = 4 ∧ l = [b0, b1, b2, b3])) (fun iv _ => 4 - (intOf iv).toNat)
  case atStart => exact ⟨0, [0, 0, 0, 0], by omega, rfl, (Upd.refl none' w).alloc _, ⟨[], (0, 0), by rw [List.append_nil]; exact heap_alloc_new w _, .inl rfl⟩, .inl ⟨rfl, rfl⟩⟩
  case round =>
    obtain ⟨i, l, hi, rfl, hU, hB, hl⟩ := hrel
    rcases hl with ⟨rfl, rfl⟩ | ⟨rfl, rfl⟩ | ⟨rfl, rfl⟩ | ⟨rfl, rfl⟩ | ⟨rfl, rfl⟩
    · have hc := hB.cell (j := 0) (by simp)
      have hf := hB.frozen (j := 0) (by simp)
      have HB := Lib.hid (hB.set (j := 0) (by simp) b0)
      have HU := Lib.hid (hU.setCell ⟨w.heap.size, 0, none⟩ (.int .u8 b0.toNat) (fun h => absurd h (by dsimp only; omega)))
      clear hB
      rcases hb with ⟨rfl, rfl, rfl, rfl, rfl⟩ | ⟨rfl, rfl, rfl, rfl, rfl⟩ | ⟨rfl, rfl, rfl, rfl, rfl⟩
      all_goals
        go_wp2
        exact ⟨⟨1, _, by omega, by go_num, HU.out, HB.out, .inr (.inl ⟨rfl, rfl⟩)⟩, by simp [intOf]⟩
    · have hc := hB.cell (j := 1) (by simp)
      have hf := hB.frozen (j := 1) (by simp)
      have HB := Lib.hid (hB.set (j := 1) (by simp) b1)
      have HU := Lib.hid (hU.setCell ⟨w.heap.size, 1, none⟩ (.int .u8 b1.toNat) (fun h => absurd h (by dsimp only; omega)))
      clear hB
      rcases hb with ⟨rfl, rfl, rfl, rfl, rfl⟩ | ⟨rfl, rfl, rfl, rfl, rfl⟩ | ⟨rfl, rfl, rfl, rfl, rfl⟩
      all_goals
        go_wp2
        exact ⟨⟨2, _, by omega, by go_num, HU.out, HB.out, .inr (.inr (.inl ⟨rfl, rfl⟩))⟩, by simp [intOf]⟩
    · have hc := hB.cell (j := 2) (by simp)
      have hf := hB.frozen (j := 2) (by simp)
      have HB := Lib.hid (hB.set (j := 2) (by simp) b2)
      have HU := Lib.hid (hU.setCell ⟨w.heap.size, 2, none⟩ (.int .u8 b2.toNat) (fun h => absurd h (by dsimp only; omega)))
      clear hB
      rcases hb with ⟨rfl, rfl, rfl, rfl, rfl⟩ | ⟨rfl, rfl, rfl, rfl, rfl⟩ | ⟨rfl, rfl, rfl, rfl, rfl⟩
      all_goals
        go_wp2
        exact ⟨⟨3, _, by omega, by go_num, HU.out, HB.out, .inr (.inr (.inr (.inl ⟨rfl, rfl⟩)))⟩, by simp [intOf]⟩
    · have hc := hB.cell (j := 3) (by simp)
      have hf := hB.frozen (j := 3) (by simp)
      have HB := Lib.hid (hB.set (j := 3) (by simp) b3)
      have HU := Lib.hid (hU.setCell ⟨w.heap.size, 3, none⟩ (.int .u8 b3.toNat) (fun h => absurd h (by dsimp only; omega)))
      clear hB
      rcases hb with ⟨rfl, rfl, rfl, rfl, rfl⟩ | ⟨rfl, rfl, rfl, rfl, rfl⟩ | ⟨rfl, rfl, rfl, rfl, rfl⟩
      all_goals
        go_wp2
        exact ⟨⟨4, _, by omega, by go_num, HU.out, HB.out, .inr (.inr (.inr (.inr ⟨rfl, rfl⟩)))⟩, by simp [intOf]⟩
    · have hst := run_string_buf hB 23 5 9 Tryz.underlying23 Tryz.underlying5 Tryz.underlying9 4 4 rfl
      clear hb
      go_wp2
      go_ret
      exact ⟨rfl, hU⟩
theorem sfdp_may (x : Int) (hx : x = 4096 ∨ x = 512 ∨ x = 32) (w : World) :
    Calls Tryz.prog 203 #[.int .i64 x] w fun e w' => e = .returned (.bool true) ∧ w = w' := by
  rcases hx with rfl | rfl | rfl
  all_goals
    go_enter Tryz.func203, Tryz.ntmps203
    go_wp2
    go_ret
    exact ⟨rfl, rfl⟩
def outB : Nat → ByteArray
  | 0 => ⟨#[83, 70, 68, 80, 6, 1, 0, 255]⟩
  | 1 => ⟨#[83, 70, 68, 80, 6, 1, 0, 255, 0, 16, 0, 0]⟩
  | 2 => ⟨#[83, 70, 68, 80, 6, 1, 0, 255, 0, 16, 0, 0, 0, 2, 0, 0]⟩
  | _ => ⟨#[83, 70, 68, 80, 6, 1, 0, 255, 0, 16, 0, 0, 0, 2, 0, 0, 32, 0, 0, 0]⟩
theorem rep12 (W : World) : Calls Tryz.prog 205 #[.string ⟨#[255]⟩, .int .i64 12] W fun e w' => e = .returned (.string ⟨#[255, 255, 255, 255, 255, 255, 255, 255, 255, 255, 255, 255]⟩) ∧ Below W.heap.size W w' :=
  Tryz.strings_Repeat ⟨#[255]⟩ 12 W (by decide) (by decide)
set_option maxRecDepth 100000 in
set_option maxHeartbeats 1000000 in
theorem sfdp_put (w : World) :
    Calls Tryz.prog 185 #[.int .i64 4096, .int .i64 512, .int .i64 32] w fun e w' => e = .returned (.tuple #[.string sfdpTab, .int .i64 0]) ∧ Upd none' w w' := by
  have HREP := Lib.hid rep12
  go_enter Tryz.func185, Tryz.ntmps185
  go_wp2_with fail
  go_loopw [8, 16] (fun sv iv wr => ∃ i : Nat, i ≤ 3 ∧ iv = .int .i64 i ∧ sv = .string (outB i) ∧ Upd none' w wr ∧ Blk wr w.heap.size (ints [4096, 512, 32]) 3) (fun _ iv _ => 3 - (intOf iv).toNat)
  case atStart => exact ⟨0, by omega, rfl, rfl, (Upd.refl none' w).alloc _, Blk.new w _ _⟩
  case round =>
    obtain ⟨i, hi, rfl, rfl, hU, hB⟩ := hrel
    rcases (show i = 0 ∨ i = 1 ∨ i = 2 ∨ i = 3 by omega) with rfl | rfl | rfl | rfl
    · have c0 := hB.cell 0
      simp only [ints, List.map_cons, List.map_nil, List.getElem?_cons_zero] at c0
      have HU := Lib.hid hU
      have HB := Lib.hid hB
      clear hU hB
      go_wp2_with (first | (go_at_call 203; refine (sfdp_may 4096 (.inl rfl) _).mono ?_; rintro e w' ⟨rfl, rfl⟩) | (go_at_call 204; refine (sfdp_low 4096 (.inl rfl) _).mono ?_; rintro e w1 ⟨rfl, hU1⟩))
      refine ⟨?rel, ?measure⟩
      case rel => exact ⟨1, by omega, by go_num, rfl, HU.out.trans hU1 (fun _ _ f => f), HB.out.upd hU1 (fun f => f)⟩
      case measure => simp [intOf]
    · have c0 := hB.cell 1
      simp only [ints, List.map_cons, List.map_nil, List.getElem?_cons_zero, List.getElem?_cons_succ] at c0
      have HU := Lib.hid hU
      have HB := Lib.hid hB
      clear hU hB
      go_wp2_with (first | (go_at_call 203; refine (sfdp_may 512 (.inr (.inl rfl)) _).mono ?_; rintro e w' ⟨rfl, rfl⟩) | (go_at_call 204; refine (sfdp_low 512 (.inr (.inl rfl)) _).mono ?_; rintro e w1 ⟨rfl, hU1⟩))
      refine ⟨?rel, ?measure⟩
      case rel => exact ⟨2, by omega, by go_num, rfl, HU.out.trans hU1 (fun _ _ f => f), HB.out.upd hU1 (fun f => f)⟩
      case measure => simp [intOf]
    · have c0 := hB.cell 2
      simp only [ints, List.map_cons, List.map_nil, List.getElem?_cons_zero, List.getElem?_cons_succ] at c0
      have HU := Lib.hid hU
      have HB := Lib.hid hB
      clear hU hB
      go_wp2_with (first | (go_at_call 203; refine (sfdp_may 32 (.inr (.inr rfl)) _).mono ?_; rintro e w' ⟨rfl, rfl⟩) | (go_at_call 204; refine (sfdp_low 32 (.inr (.inr rfl)) _).mono ?_; rintro e w1 ⟨rfl, hU1⟩))
      refine ⟨?rel, ?measure⟩
      case rel => exact ⟨3, by omega, by go_num, rfl, HU.out.trans hU1 (fun _ _ f => f), HB.out.upd hU1 (fun f => f)⟩
      case measure => simp [intOf]
    · have HU := Lib.hid hU
      clear hU hB
      rw [show outB 3 = ⟨#[83, 70, 68, 80, 6, 1, 0, 255, 0, 16, 0, 0, 0, 2, 0, 0, 32, 0, 0, 0]⟩ from rfl]
      go_wp2_with (go_at_call 205; refine (HREP.out _).mono ?_; rintro e w1 ⟨rfl, hb1⟩)
      go_ret2
      exact ⟨rfl, HU.out.below hb1 (fun k h1 h2 => by have := HU.out.size; omega)⟩
end Go.Proofs.YteombggfmeilaaaGreat
namespace Go.Proofs.YteombggfmeilaaaGreat
open Go.RowKit
theorem o_disable (w : World) : (callFunc 229 #[]).run Tryz.prog w = .ok (.value (.tuple #[])) w := run_call_mark0 Tryz.func229 (by kernel_rfl) (by kernel_rfl) (by kernel_rfl) .disable (by kernel_rfl) w
theorem o_enable (w : World) : (callFunc 231 #[]).run Tryz.prog w = .ok (.value (.tuple #[])) w := run_call_mark0 Tryz.func231 (by kernel_rfl) (by kernel_rfl) (by kernel_rfl) .enable (by kernel_rfl) w
theorem o_acquire (a : Addr) (w : World) : (callFunc 232 #[.pointer (some a)]).run Tryz.prog w = .ok (.value (.tuple #[])) w := run_call_marked Tryz.func232 (by kernel_rfl) (by kernel_rfl) (by kernel_rfl) .acquire (by kernel_rfl) a w
theorem o_releaseMerge (a : Addr) (w : World) : (callFunc 234 #[.pointer (some a)]).run Tryz.prog w = .ok (.value (.tuple #[])) w := run_call_marked Tryz.func234 (by kernel_rfl) (by kernel_rfl) (by kernel_rfl) .releaseMerge (by kernel_rfl) a w
set_option maxRecDepth 100000 in
set_option maxHeartbeats 1600000 in
theorem store_deferred (a : Addr) (x : Value) (u : FrameMode) (w : World) (hc : w.cell? a = some x) (hz : w.frozen? a = false) :
    CallsD Tryz.prog 212 #[.pointer (some a), .bool true] u w fun e u' w' => u' = u ∧ (e = .returned (.tuple #[]) ∧ w' = w.drew.setCell a (.int .u32 1)) := by
  have hc' : w.drew.cell? a = some x := by go_simp
  have hz' : w.drew.frozen? a = false := by go_simp
  have hst := run_call_store (P := Tryz.prog) Tryz.func222 (by kernel_rfl) (by kernel_rfl) (by kernel_rfl) (by kernel_rfl) (k := .u32) (y := 1) hc' hz'
  go_enter_d Tryz.func212, Tryz.ntmps212
  go_wp2
  go_region_calls
  all_goals (go_end0; exact ⟨rfl, rfl⟩)
set_option maxRecDepth 100000 in
set_option maxHeartbeats 1600000 in
theorem unlock_deferred (a : Addr) (u : FrameMode) (w : World) (hc : w.cell? a = some (.int .i32 1)) (hz : w.frozen? a = false) :
    CallsD Tryz.prog 211 #[.pointer (some a)] u w fun e u' w' => u' = u ∧ (e = .returned (.tuple #[]) ∧ w' = w.setCell a (.int .i32 0)) := by
  have hd := o_disable
  have he := o_enable
  have hr := o_releaseMerge
  have hadd := run_call_add (P := Tryz.prog) Tryz.func235 (by kernel_rfl) (by kernel_rfl) (by kernel_rfl) .i32 (by kernel_rfl) (y := -1) (s := 0) hc hz (by simp [go_sem]; rfl)
  have hcv := run_convert_to_unsafe (P := Tryz.prog) (src := 247) (dst := 251) Tryz.underlying247 Tryz.underlying251 (by kernel_rfl) hc
  go_enter_d Tryz.func211, Tryz.ntmps211
  go_wp2
  go_end0
  go_wp2
  go_end0
  exact ⟨rfl, rfl⟩
set_option maxRecDepth 100000 in
set_option maxHeartbeats 1600000 in
theorem lock_free (a : Addr) (w : World) (hc : w.cell? a = some (.int .i32 0)) (hz : w.frozen? a = false) :
    Calls Tryz.prog 210 #[.pointer (some a)] w fun e w' => e = .returned (.tuple #[]) ∧ w' = w.setCell a (.int .i32 1) := by
  have hd := o_disable
  have he := o_enable
  have ha := o_acquire
  have hcas := run_call_cas_hit (P := Tryz.prog) Tryz.func230 (by kernel_rfl) (by kernel_rfl) (by kernel_rfl) .i32 (by kernel_rfl) (y := 1) hc hz
  have hc' : (w.setCell a (.int .i32 1)).cell? a = some (.int .i32 1) := World.cell?_setCell_same w a _ hc
  have hcv := run_convert_to_unsafe (P := Tryz.prog) (src := 247) (dst := 251) Tryz.underlying247 Tryz.underlying251 (by kernel_rfl) hc'
  go_enter Tryz.func210, Tryz.ntmps210
  go_wp2
  first | go_end0 | (simp only [Exit.inBlock, Exit.then]; refine bodyPost_ret (results_none rfl _ _ _) rfl ?_) | refine bodyPost_ret (results_none rfl _ _ _) rfl ?_
  go_wp2
  go_end0
  exact ⟨rfl, rfl⟩
set_option maxHeartbeats 1000000 in
theorem table1 (b : Nat) (pl : Addr) (w : World) (hp : w.cell? pl = some (.pointer (some ⟨b, 0, none⟩))) (hpb : pl.block ≠ b) (hpl : pl.block < w.heap.size) (x : Value) (h14 : w.cell? ⟨b, 14, none⟩ = some x) (f14 : w.frozen? ⟨b, 14, none⟩ = false) (hbl : b < w.heap.size) :
    Calls Tryz.prog 219 #[.pointer (some pl)] w fun e w' => e = .returned (.tuple #[]) ∧ ∃ w1, Upd none' w w1 ∧ w' = w1.setCell ⟨b, 14, none⟩ (.string sfdpTab) := by
  go_enter Tryz.func219, Tryz.ntmps219
  go_region_held3 (fun w' => w'.cell? pl = some (.pointer (some ⟨b, 0, none⟩))) (first | exact hp | exact k1 | exact (World.cell?_setCell_other _ _ _ _ (fun h => hpb (by rw [← h]))).trans k1 | exact (by go_simp)) (first | (go_at_call 185; refine (sfdp_put _).mono ?_; rintro e w1 ⟨rfl, hU1⟩; have hU1' := (Upd.refl none' w).drew.trans hU1 (fun _ _ f => f); have k1 := (hU1'.cell (p := pl) hpl (fun f => f)).trans hp; have k2 := (hU1'.cell (p := ⟨b, 14, none⟩) hbl (fun f => f)).trans h14; have k3 := (hU1'.frozen (p := ⟨b, 14, none⟩) hbl (fun f => f)).trans f14) | fail)
  all_goals
    go_wp2
    go_end0
    exact ⟨rfl, w1, hU1', rfl⟩
theorem once_fin {w w33 : World} {b : Nat} {s : St} {jv bv dv : Value} (h : CB w b s jv bv dv) (hU : Upd none' (w.setCell ⟨b, 12, none⟩ (.int .i32 1)) w33) :
    CB ((((w33.setCell ⟨b, 14, none⟩ (.string sfdpTab)).drew.setCell ⟨b, 11, none⟩ (.int .u32 1)).setCell ⟨b, 12, none⟩ (.int .i32 0))) b { s with tabled := true } jv bv dv ∧
      Upd (fun k => k = b) w ((((w33.setCell ⟨b, 14, none⟩ (.string sfdpTab)).drew.setCell ⟨b, 11, none⟩ (.int .u32 1)).setCell ⟨b, 12, none⟩ (.int .i32 0))) := by
  refine ⟨((((((h.set 12 (.int .i32 1)).upd hU (fun f => f)).set 14 (.string sfdpTab)).drew).set 11 (.int .u32 1)).set 12 (.int .i32 0)), ?_⟩
  exact ((((((Upd.refl (fun k => k = b) w).setCell ⟨b, 12, none⟩ _ (fun _ => rfl)).trans hU (fun _ _ f => f.elim)).setCell ⟨b, 14, none⟩ _ (fun _ => rfl)).drew).setCell ⟨b, 11, none⟩ _ (fun _ => rfl)).setCell ⟨b, 12, none⟩ _ (fun _ => rfl)
set_option maxRecDepth 100000 in
set_option maxHeartbeats 1600000 in
theorem once_slow (b : Nat) (pl : Addr) (s : St) (jv bv dv : Value) (w : World) (h : CB w b s jv bv dv) (hs : s.tabled = false) (hp : w.cell? pl = some (.pointer (some ⟨b, 0, none⟩))) (hpb : pl.block ≠ b) (hpl : pl.block < w.heap.size) :
    Calls Tryz.prog 202 #[.pointer (some ⟨b, 11, none⟩), .func (.func 219) #[] #[.pointer (some pl)]] w fun e w' => e = .returned (.tuple #[]) ∧ CB w' b { s with tabled := true } jv bv dv ∧ Upd (fun k => k = b) w w' := by
  have h0 := h.cell 11
  have h1 := h.cell 12
  have f0 := h.frozen 11
  have f1 := h.frozen 12
  simp only [St.list, List.getElem?_cons_succ, List.getElem?_cons_zero, hs] at h0 h1
  have HH := Lib.hid h
  have hW := h.set 12 (.int .i32 1)
  have hl := run_call_load (P := Tryz.prog) Tryz.func209 (by kernel_rfl) (by kernel_rfl) (by kernel_rfl) .u32 (by kernel_rfl) (w := w.setCell ⟨b, 12, none⟩ (.int .i32 1)) (a := ⟨b, 11, none⟩) (x := 0) ((World.cell?_setCell_other _ ⟨b, 12, none⟩ ⟨b, 11, none⟩ _ (by simp)).trans h0)
  have hp1 : (w.setCell ⟨b, 12, none⟩ (.int .i32 1)).cell? pl = some (.pointer (some ⟨b, 0, none⟩)) := (World.cell?_setCell_other _ ⟨b, 12, none⟩ pl _ (fun h => hpb (by rw [← h]))).trans hp
  have h14 := hW.cell 14
  have f14 := hW.frozen 14
  have HT := Lib.hid (table1 b pl _ hp1 hpb (by simpa using hpl) _ h14 f14 hW.lt)
  have hnot : ∀ (x : Bool) (w : World), (Op.unary .not (.bool x)).run Tryz.prog w = .ok (.bool (!x)) w := fun _ _ => rfl
  clear h hW h14 f14 hp1
  go_enter_defers Tryz.func202, Tryz.ntmps202
  go_wp2_with (first | (go_at_call 210; refine (lock_free ⟨b, 12, none⟩ _ (by go_simp) (by go_simp)).mono ?_; rintro e w' ⟨rfl, rfl⟩) | (go_at_call 201; go_in) | (go_at_call 219; refine HT.out.mono ?_; rintro e w' ⟨rfl, w33, hU33, rfl⟩))
  have hX := ((HH.out.set 12 (.int .i32 1)).upd hU33 (fun f => f)).set 14 (.string sfdpTab)
  have hfin := once_fin HH.out hU33
  have x11 := hX.cell 11
  have y11 := hX.frozen 11
  have hY := hX.drew.set 11 (.int .u32 1)
  have x12 := hY.cell 12
  have y12 := hY.frozen 12
  refine leaves_cons (f := 212) (args := #[.pointer (some ⟨b, 11, none⟩), .bool true]) (by simp) (by simp [go_sem]) ?_
  refine (store_deferred ⟨b, 11, none⟩ _ .returning _ x11 y11).mono ?_
  rintro e u' w'' ⟨rfl, rfl, rfl⟩
  refine leaves_cons (f := 211) (args := #[.pointer (some ⟨b, 12, none⟩)]) (by simp [settle]) (by simp [go_sem]) ?_
  refine (unlock_deferred ⟨b, 12, none⟩ _ _ x12 y12).mono ?_
  rintro e u' w'' ⟨rfl, rfl, rfl⟩
  simp only [Leaves, settle]
  exact ⟨.tuple #[], results_none rfl _ _ _, rfl, hfin.1, hfin.2⟩
set_option maxRecDepth 100000 in
set_option maxHeartbeats 1600000 in
theorem once_first (b : Nat) (pl : Addr) (s : St) (jv bv dv : Value) (w : World) (h : CB w b s jv bv dv) (hs : s.tabled = false) (hp : w.cell? pl = some (.pointer (some ⟨b, 0, none⟩))) (hpb : pl.block ≠ b) (hpl : pl.block < w.heap.size) :
    Calls Tryz.prog 182 #[.pointer (some ⟨b, 11, none⟩), .func (.func 219) #[] #[.pointer (some pl)]] w fun e w' => e = .returned (.tuple #[]) ∧ CB w' b { s with tabled := true } jv bv dv ∧ Upd (fun k => k = b) w w' := by
  have h0 := h.cell 11
  simp only [St.list, List.getElem?_cons_succ, List.getElem?_cons_zero, hs] at h0
  have hl := run_call_load (P := Tryz.prog) Tryz.func209 (by kernel_rfl) (by kernel_rfl) (by kernel_rfl) .u32 (by kernel_rfl) (x := 0) h0
  have hnot : ∀ (x : Bool) (w : World), (Op.unary .not (.bool x)).run Tryz.prog w = .ok (.bool (!x)) w := fun _ _ => rfl
  have HS := Lib.hid (once_slow b pl s jv bv dv w h hs hp hpb hpl)
  clear h
  go_enter Tryz.func182, Tryz.ntmps182
  go_wp2_with (first | (go_at_call 202; refine HS.out.mono ?_; rintro e w' ⟨rfl, hB, hU⟩) | (go_at_call 201; go_in))
  go_end0
  exact ⟨rfl, hB, hU⟩
theorem once_done (a : Addr) (fv : Value) (w : World) (h0 : w.cell? a = some (.int .u32 1)) :
    Calls Tryz.prog 182 #[.pointer (some a), fv] w fun e w' => e = .returned (.tuple #[]) ∧ w = w' := by
  have hl := run_call_load (P := Tryz.prog) Tryz.func209 (by kernel_rfl) (by kernel_rfl) (by kernel_rfl) .u32 (by kernel_rfl) (x := 1) h0
  have hnot : ∀ (x : Bool) (w : World), (Op.unary .not (.bool x)).run Tryz.prog w = .ok (.bool (!x)) w := fun _ _ => rfl
  go_enter Tryz.func182, Tryz.ntmps182
  go_wp2
  go_end0
  exact ⟨rfl, rfl⟩
set_option maxRecDepth 100000 in
set_option maxHeartbeats 1600000 in
theorem table_said : TableSaid := by
  intro b s jv bv dv w h
  have hmf : ∀ (fn : Fn) (first cap : Array Value) (w : World), (Instr.makeFunc fn first cap).run Tryz.prog w = .ok (.func fn first cap) w := fun _ _ _ _ => rfl
  have hb := h.lt
  have hA := h.alloc (.cells #[.pointer (some ⟨b, 0, none⟩)] 25)
  have hp := (Blk.new w [.pointer (some ⟨b, 0, none⟩)] 25).cell 0
  simp only [List.getElem?_cons_zero] at hp
  cases ht : s.tabled with
  | false =>
    have HF := Lib.hid (once_first b ⟨w.heap.size, 0, none⟩ s jv bv dv _ hA ht hp (by dsimp only; omega) (by simp))
    clear hA hp
    go_enter Tryz.func208, Tryz.ntmps208
    go_wp2_with (go_at_call 182; refine HF.out.mono ?_; rintro e w' ⟨rfl, hB, hU⟩; have k0 := (hU.cell (p := ⟨w.heap.size, 0, none⟩) (by simp) (by dsimp only; omega)).trans ((Blk.new w [.pointer (some ⟨b, 0, none⟩)] 25).cell 0); have k14 := hB.cell 14; simp only [St.list, List.getElem?_cons_succ, List.getElem?_cons_zero, if_true] at k0 k14)
    go_ret
    exact ⟨rfl, hB, ((Upd.refl (fun k => k = b) w).alloc _).trans hU (fun _ _ e => e)⟩
  | true =>
    have h11 := hA.cell 11
    have h14 := hA.cell 14
    simp only [St.list, List.getElem?_cons_succ, List.getElem?_cons_zero, ht, if_true] at h11 h14
    have HD := Lib.hid (fun fv => once_done ⟨b, 11, none⟩ fv _ h11)
    go_enter Tryz.func208, Tryz.ntmps208
    go_wp2_with (go_at_call 182; refine (HD.out _).mono ?_; rintro e w' ⟨rfl, rfl⟩)
    go_ret
    refine ⟨rfl, ?_, (Upd.refl (fun k => k = b) w).alloc _⟩
    rw [show ({ s with tabled := true } : St) = s by cases s; simp_all]
    exact hA
end Go.Proofs.YteombggfmeilaaaGreat
/- Ctx. -/
namespace Go.Proofs.YteombggfmeilaaaGreat
open Go.RowKit
def Own := World → (Nat → Prop) → Prop
structure Own.Ok (P : Own) : Prop where
  frame : ∀ {w w' : World} {S T : Nat → Prop}, P w S → Upd T w w' → (∀ k, S k → ¬ T k) → P w' S
  lt : ∀ {w : World} {S : Nat → Prop}, P w S → ∀ k, S k → k < w.heap.size
def Own.emp : Own := fun _ S => ∀ k, ¬ S k
def Own.star (P Q : Own) : Own := fun w S => ∃ A B : Nat → Prop, P w A ∧ Q w B ∧ (∀ k, A k → ¬ B k) ∧ ∀ k, S k ↔ A k ∨ B k
theorem Own.emp_ok : Own.emp.Ok := ⟨fun h _ _ => h, fun h k hk => absurd hk (h k)⟩
theorem Own.Ok.star {P Q : Own} (hP : P.Ok) (hQ : Q.Ok) : (P.star Q).Ok := by
  refine ⟨?_, ?_⟩
  · rintro w w' S T ⟨A, B, hA, hB, hd, hS⟩ hu hT
    exact ⟨A, B, hP.frame hA hu (fun k hk => hT k ((hS k).2 (.inl hk))), hQ.frame hB hu (fun k hk => hT k ((hS k).2 (.inr hk))), hd, hS⟩
  · rintro w S ⟨A, B, hA, hB, hd, hS⟩ k hk
    rcases (hS k).1 hk with h | h
    · exact hP.lt hA k h
    · exact hQ.lt hB k h
def Mk (w : World) (v : Value) : Prop := ∀ k, v.ownBlock = some k → ∀ j, w.frozen? ⟨k, j, none⟩ = false
theorem Row.mk {w : World} {e : TypeId} {v : Value} {xs : List Value} (h : Row w e v xs) : Mk w v := by
  intro k hk j
  obtain ⟨ao, cap, rfl, -, -, h2⟩ := h.form
  cases ao with
  | none => cases hk
  | some ad =>
    obtain ⟨g, -, h3, -, -, h4⟩ := h2 ad rfl
    rw [h3, Option.some.injEq] at hk
    subst hk
    exact h4 j
def RowOk (w0 w : World) (S : Nat → Prop) (r : Value × List Value) : Prop := RS w r.1 r.2 ∧ (∀ k, r.1.ownBlock = some k → k < w.heap.size ∧ ¬ S k) ∧ ∀ k, r.1.ownBlock = some k → w0.heap.size ≤ k → ∀ j, w.frozen? ⟨k, j, none⟩ = false
def RowNew (w w' : World) (S : Nat → Prop) (r : Value × List Value) : Prop := RS w' r.1 r.2 ∧ (∀ k, r.1.ownBlock = some k → w.heap.size ≤ k ∧ k < w'.heap.size ∧ ¬ S k) ∧ Mk w' r.1
structure Ctx (P Q : Own) (w0 w : World) (rows : List (Value × List Value)) : Prop where
  okP : P.Ok
  okQ : Q.Ok
  upd : Upd none' w0 w
  all : ∃ S, (P.star Q) w S ∧ (∀ k, S k → w0.heap.size ≤ k) ∧ ∀ r ∈ rows, RowOk w0 w S r
theorem RowOk.upd {w0 w w' : World} {S S' : Nat → Prop} {r : Value × List Value} (h : RowOk w0 w S r) {T : Nat → Prop} (u : Upd T w w') (hT : ∀ k, T k → S k ∨ w.heap.size ≤ k) (hS : ∀ k, S' k → S k ∨ w.heap.size ≤ k) : RowOk w0 w' S' r := by
  obtain ⟨h1, h2, h3⟩ := h
  refine ⟨h1.upd u (fun k hk he ht => ?_), fun k hk => ⟨Nat.lt_of_lt_of_le (h2 k hk).1 u.size, fun hs => ?_⟩, fun k hk h0 j => (u.frozen (p := ⟨k, j, none⟩) (h2 k hk).1 (fun ht => ?_)).trans (h3 k hk h0 j)⟩
  · rcases hT k ht with h | h
    · exact (h2 k he).2 h
    · omega
  · have := (h2 k hk).1
    rcases hS k hs with h | h
    · exact (h2 k hk).2 h
    · omega
  · have := (h2 k hk).1
    rcases hT k ht with h | h
    · exact (h2 k hk).2 h
    · omega
theorem Ctx.frame {P Q : Own} {w0 w w' : World} {rows : List (Value × List Value)} (h : Ctx P Q w0 w rows) (u : Upd none' w w') : Ctx P Q w0 w' rows := by
  obtain ⟨S, h1, h2, h3⟩ := h.all
  exact ⟨h.okP, h.okQ, h.upd.trans u (fun _ _ f => f), S, (h.okP.star h.okQ).frame h1 u (fun _ _ f => f), h2, fun r hr => (h3 r hr).upd u (fun _ f => f.elim) (fun _ f => .inl f)⟩
theorem Ctx.alloc {P Q : Own} {w0 w : World} {rows : List (Value × List Value)} (h : Ctx P Q w0 w rows) (o : Obj) : Ctx P Q w0 (w.alloc o) rows := h.frame ((Upd.refl _ _).alloc o)
theorem Ctx.drew {P Q : Own} {w0 w : World} {rows : List (Value × List Value)} (h : Ctx P Q w0 w rows) : Ctx P Q w0 w.drew rows := h.frame (Upd.refl _ _).drew
theorem Ctx.alike {P Q : Own} {w0 w w' : World} {rows : List (Value × List Value)} (h : Ctx P Q w0 w rows) (u : w'.Alike w) : Ctx P Q w0 w' rows := h.frame ((Upd.refl _ _).alike u)
theorem Ctx.sub {P Q : Own} {w0 w : World} {rows rows' : List (Value × List Value)} (h : Ctx P Q w0 w rows) (hs : ∀ r ∈ rows', r ∈ rows) : Ctx P Q w0 w rows' := by
  obtain ⟨S, h1, h2, h3⟩ := h.all
  exact ⟨h.okP, h.okQ, h.upd, S, h1, h2, fun r hr => h3 r (hs r hr)⟩
theorem Ctx.drop {P Q : Own} {w0 w : World} {rows : List (Value × List Value)} (h : Ctx P Q w0 w rows) : Ctx P Q w0 w [] := h.sub (fun r hr => by simp at hr)
theorem Ctx.rs {P Q : Own} {w0 w : World} {rows : List (Value × List Value)} (h : Ctx P Q w0 w rows) (i : Nat) {v : Value} {vs : List Value} (hi : rows[i]? = some (v, vs)) : RS w v vs := by
  obtain ⟨S, h1, h2, h3⟩ := h.all
  exact (h3 _ (List.mem_of_getElem? hi)).1
theorem Ctx.commQ {P Q : Own} {w0 w : World} {rows : List (Value × List Value)} (h : Ctx P Q w0 w rows) : Ctx Q P w0 w rows := by
  obtain ⟨S, ⟨A, B, hA, hB, hd, hS⟩, h2, h3⟩ := h.all
  exact ⟨h.okQ, h.okP, h.upd, S, ⟨B, A, hB, hA, fun k hb ha => hd k ha hb, fun k => (hS k).trans Or.comm⟩, h2, h3⟩
theorem Ctx.run {P P' Q : Own} {w0 w : World} {rows : List (Value × List Value)} (hC : Ctx P Q w0 w rows) (hP' : P'.Ok) {f : Nat} {args : Array Value} {X : Ending → List (Value × List Value) → Prop}
    (h : ∀ S, P w S → (∀ r ∈ rows, RowOk w0 w S r) → (∀ k, S k → w0.heap.size ≤ k) → Calls Tryz.prog f args w fun e w' => ∃ S' news, X e news ∧ (∀ r ∈ news, RowNew w w' S' r) ∧ P' w' S' ∧ (∀ k, S' k → S k ∨ w.heap.size ≤ k) ∧ Upd S w w') :
    Calls Tryz.prog f args w fun e w' => ∃ news, X e news ∧ Ctx P' Q w0 w' (news ++ rows) := by
  obtain ⟨S, ⟨A, B, hA, hB, hd, hS⟩, h2, h3⟩ := hC.all
  refine (h A hA (fun r hr => ⟨(h3 r hr).1, fun k hk => ⟨((h3 r hr).2.1 k hk).1, fun ha => ((h3 r hr).2.1 k hk).2 ((hS k).2 (.inl ha))⟩, (h3 r hr).2.2⟩) (fun k hk => h2 k ((hS k).2 (.inl hk)))).mono ?_
  rintro e w' ⟨A', news, hX, hn, hA', hs, hu⟩
  have hsz := hu.size
  have h0 := hC.upd.size
  refine ⟨news, hX, hP', hC.okQ, hC.upd.trans hu (fun k hk ha => by have := h2 k ((hS k).2 (.inl ha)); omega), fun k => A' k ∨ B k, ⟨A', B, hA', hC.okQ.frame hB hu (fun k hb ha => hd k ha hb), fun k ha hb => ?_, fun _ => Iff.rfl⟩, ?_, ?_⟩
  · rcases hs k ha with h1 | h1
    · exact hd k h1 hb
    · have := hC.okQ.lt hB k hb; omega
  · rintro k (h1 | h1)
    · rcases hs k h1 with h4 | h4
      · exact h2 k ((hS k).2 (.inl h4))
      · omega
    · exact h2 k ((hS k).2 (.inr h1))
  · intro r hr
    rcases List.mem_append.1 hr with hr | hr
    · obtain ⟨h4, h5, h9⟩ := hn r hr
      refine ⟨h4, fun k hk => ⟨(h5 k hk).2.1, ?_⟩, fun k hk _ => h9 k hk⟩
      rintro (h6 | h6)
      · exact (h5 k hk).2.2 h6
      · have := hC.okQ.lt hB k h6
        have := (h5 k hk).1
        omega
    · refine (h3 r hr).upd hu (fun k hk => .inl ((hS k).2 (.inl hk))) ?_
      rintro k (h6 | h6)
      · rcases hs k h6 with h7 | h7
        · exact .inl ((hS k).2 (.inl h7))
        · exact .inr h7
      · exact .inl ((hS k).2 (.inr h6))
theorem Ctx.new {P P' Q : Own} {w0 w : World} {rows : List (Value × List Value)} (hC : Ctx P Q w0 w rows) (hP' : P'.Ok) {f : Nat} {args : Array Value} {X : Ending → Prop}
    (h : Calls Tryz.prog f args w fun e w' => ∃ S', X e ∧ P' w' S' ∧ (∀ k, S' k → w.heap.size ≤ k) ∧ Upd none' w w') :
    Calls Tryz.prog f args w fun e w' => X e ∧ Ctx P' (P.star Q) w0 w' rows := by
  obtain ⟨S, h1, h2, h3⟩ := hC.all
  have h0 := hC.upd.size
  have hlt := (hC.okP.star hC.okQ).lt h1
  refine h.mono ?_
  rintro e w' ⟨A', hX, hA', hs, hu⟩
  refine ⟨hX, hP', hC.okP.star hC.okQ, hC.upd.trans hu (fun _ _ f => f), fun k => A' k ∨ S k, ⟨A', S, hA', (hC.okP.star hC.okQ).frame h1 hu (fun _ _ f => f), fun k ha hb => ?_, fun _ => Iff.rfl⟩, ?_, ?_⟩
  · have := hs k ha; have := hlt k hb; omega
  · rintro k (h4 | h4)
    · have := hs k h4; omega
    · exact h2 k h4
  · intro r hr
    refine (h3 r hr).upd hu (fun _ f => f.elim) ?_
    rintro k (h6 | h6)
    · exact .inr (hs k h6)
    · exact .inl h6
theorem rs_new (w : World) (vs : List Value) (t : TypeId) (n : Nat) (hn : vs.length = n) (hl : n ≤ 1048576) : RS (w.alloc (.cells vs.toArray t)) (.slice (some ⟨w.heap.size, 0, none⟩) n n) vs := by
  refine ⟨by omega, some ⟨w.heap.size, 0, none⟩, n, by rw [hn], by omega, fun _ => ⟨w.heap.size, 0, rfl, by simp, fun j hj => ?_⟩⟩
  rw [Nat.zero_add]
  exact (Blk.new w vs t).cell j
theorem RS.dropN {w : World} {g o n c : Nat} {vs : List Value} (h : RS w (.slice (some ⟨g, o, none⟩) n c) vs) (k : Nat) (hk : k ≤ n) : RS w (.slice (some ⟨g, o + k, none⟩) (n - k) (c - k)) (vs.drop k) := by
  obtain ⟨f1, a, cap, e, f4, f5⟩ := h
  simp only [Value.slice.injEq] at e
  obtain ⟨rfl, rfl, rfl⟩ := e
  refine ⟨by rw [List.length_drop]; omega, some ⟨g, o + k, none⟩, c - k, by rw [List.length_drop], by rw [List.length_drop]; omega, fun hn => ?_⟩
  obtain ⟨b, o', e2, h7, h8⟩ := f5 (by intro h; rw [h] at hn; simp at hn)
  simp only [Option.some.injEq, Addr.mk.injEq] at e2
  obtain ⟨rfl, rfl, _⟩ := e2
  refine ⟨g, o + k, rfl, h7, fun j hj => ?_⟩
  rw [List.length_drop] at hj
  rw [List.getElem?_drop, show o + k + j = o + (k + j) by omega]
  exact h8 (k + j) (by omega)
theorem Ctx.lit {P Q : Own} {w0 w : World} {rows : List (Value × List Value)} (hC : Ctx P Q w0 w rows) (vs : List Value) (t : TypeId) (n : Nat) (hn : vs.length = n) (hl : n ≤ 1048576) : Ctx P Q w0 (w.alloc (.cells vs.toArray t)) ((.slice (some ⟨w.heap.size, 0, none⟩) n n, vs) :: rows) := by
  obtain ⟨S, h1, h2, h3⟩ := (hC.alloc (.cells vs.toArray t)).all
  obtain ⟨S0, g1, g2, g3⟩ := hC.all
  refine ⟨hC.okP, hC.okQ, (hC.alloc _).upd, S0, (hC.okP.star hC.okQ).frame g1 ((Upd.refl none' w).alloc _) (fun _ _ f => f), g2, fun r hr => ?_⟩
  rcases List.mem_cons.1 hr with rfl | hr
  · refine ⟨rs_new w vs t n hn hl, fun k hk => ?_, fun k hk _ j => ?_⟩
    · simp only [Value.ownBlock, Option.some.injEq] at hk
      subst hk
      exact ⟨by simp, fun hs => by have := (hC.okP.star hC.okQ).lt g1 _ hs; omega⟩
    · simp only [Value.ownBlock, Option.some.injEq] at hk
      subst hk
      exact (Blk.new w vs t).frozen j
  · exact (g3 r hr).upd ((Upd.refl none' w).alloc _) (fun _ f => f.elim) (fun _ f => .inl f)
theorem RS.cells {w : World} {a : Option Addr} {n c : Nat} {vs : List Value} (h : RS w (.slice a n c) vs) (hn : 0 < n) : ∃ g o, a = some ⟨g, o, none⟩ ∧ g < w.heap.size ∧ ∀ j, j < n → w.cell? ⟨g, o + j, none⟩ = vs[j]? := by
  obtain ⟨h1, a', cap, e, h4, h5⟩ := h
  simp only [Value.slice.injEq] at e
  obtain ⟨rfl, rfl, rfl⟩ := e
  obtain ⟨g, o, h6, h7, h8⟩ := h5 (fun e => by rw [e] at hn; simp at hn)
  exact ⟨g, o, h6, h7, h8⟩
theorem Ctx.tail {P Q : Own} {w0 w : World} {rows : List (Value × List Value)} (hC : Ctx P Q w0 w rows) (i : Nat) {g o n c : Nat} {vs : List Value} (hi : rows[i]? = some (.slice (some ⟨g, o, none⟩) n c, vs)) (k : Nat) (hk : k ≤ n) : Ctx P Q w0 w ((.slice (some ⟨g, o + k, none⟩) (n - k) (c - k), vs.drop k) :: rows) := by
  obtain ⟨S, h1, h2, h3⟩ := hC.all
  refine ⟨hC.okP, hC.okQ, hC.upd, S, h1, h2, fun r hr => ?_⟩
  rcases List.mem_cons.1 hr with rfl | hr
  · obtain ⟨h4, h5, h6⟩ := h3 _ (List.mem_of_getElem? hi)
    exact ⟨RS.dropN h4 k hk, fun q hq => h5 q hq, fun q hq => h6 q hq⟩
  · exact h3 r hr
end Go.Proofs.YteombggfmeilaaaGreat
namespace Go.Proofs.YteombggfmeilaaaGreat
open Go.RowKit
def ChipP (b : Nat) (s : St) (N : Int) : Own := fun w S => ChipAt w b s S ∧ s.InvW N
theorem chipP_ok (b : Nat) (s : St) (N : Int) : (ChipP b s N).Ok := ⟨fun h u hT => ⟨h.1.upd u hT, h.2⟩, fun h => h.1.lt⟩
theorem RS.len {w : World} {a : Option Addr} {n c : Nat} {vs : List Value} (h : RS w (.slice a n c) vs) : n = vs.length ∧ n ≤ c := by
  obtain ⟨h1, a', cap, e, h4, h5⟩ := h
  simp only [Value.slice.injEq] at e
  obtain ⟨rfl, rfl, rfl⟩ := e
  exact ⟨rfl, h4⟩
theorem c_cells {Q : Own} {w0 w : World} {b : Nat} {s : St} {N : Int} {rows : List (Value × List Value)} (hC : Ctx (ChipP b s N) Q w0 w rows) (a : ByteArray) (ha : s.a = a) :
    Calls Tryz.prog 34 #[.pointer (some ⟨b, 0, none⟩)] w fun e w' => e = .returned (.string a) ∧ w = w' := by
  obtain ⟨S, ⟨A, B, hA, _⟩, _⟩ := hC.all
  rw [← ha]
  exact chip_cells b s A w hA.1
theorem c_post {Q : Own} {w0 w : World} {b : Nat} {s : St} {N M : Int} {rows : List (Value × List Value)} (hC : Ctx (ChipP b s N) Q w0 w rows) (t : St) {f : Nat} {args : Array Value} {r : Ending} (hM : s.InvW N → t.InvW M)
    (h : ∀ S, ChipAt w b s S → s.InvW N → Calls Tryz.prog f args w fun e w' => e = r ∧ ChipPost b t S w w') :
    Calls Tryz.prog f args w fun e w' => e = r ∧ Ctx (ChipP b t M) Q w0 w' rows := by
  refine (hC.run (X := fun e news => e = r ∧ news = []) (chipP_ok b t M) (fun S hP _ _ => (h S hP.1 hP.2).mono ?_)).mono ?_
  · rintro e w' ⟨rfl, S', hA, hS, hU⟩
    exact ⟨S', [], ⟨rfl, rfl⟩, fun r hr => by simp at hr, ⟨hA, hM hP.2⟩, hS, hU⟩
  · rintro e w' ⟨news, ⟨rfl, rfl⟩, h2⟩
    exact ⟨rfl, h2⟩
theorem c_clock {Q : Own} {w0 w : World} {b : Nat} {s : St} {N : Int} {rows : List (Value × List Value)} (hC : Ctx (ChipP b s N) Q w0 w rows) (x : Int) (hx : 0 ≤ x ∧ x ≤ 15) (hN : N ≤ 1048575) (t : St) (y : Int) (ht : s.clock x = (t, y)) :
    Calls Tryz.prog 21 #[.pointer (some ⟨b, 0, none⟩), .int .i64 x] w fun e w' => e = .returned (.tuple #[.int .i64 y, .int .i64 0]) ∧ Ctx (ChipP b t (N + 1)) Q w0 w' rows := by
  have e1 : (s.clock x).1 = t := by rw [ht]
  have e2 : (s.clock x).2 = y := by rw [ht]
  refine c_post hC t (fun h => by rw [← e1]; exact clock_invW h x) (fun S hA hI => ?_)
  rw [← e1, ← e2]
  exact chip_clockW table_said b x s S w hA N hI (by omega) hx
theorem c_select {Q : Own} {w0 w : World} {b : Nat} {s : St} {N : Int} {rows : List (Value × List Value)} (hC : Ctx (ChipP b s N) Q w0 w rows) (hsel : s.sel = false) (t : St) (ht : s.select = t) :
    Calls Tryz.prog 17 #[.pointer (some ⟨b, 0, none⟩)] w fun e w' => e = .returned (.int .i64 0) ∧ Ctx (ChipP b t N) Q w0 w' rows := by
  subst ht
  exact c_post hC s.select (fun h => select_invW h) (fun S hA _ => chip_select b s S w hA hsel)
theorem c_deselect {Q : Own} {w0 w : World} {b : Nat} {s : St} {N : Int} {rows : List (Value × List Value)} (hC : Ctx (ChipP b s N) Q w0 w rows) (hsel : s.sel = true) (hN : N ≤ 1048576) (t : St) (ht : s.deselect = t) :
    Calls Tryz.prog 19 #[.pointer (some ⟨b, 0, none⟩)] w fun e w' => e = .returned (.int .i64 0) ∧ Ctx (ChipP b t (N + 1)) Q w0 w' rows := by
  subst ht
  exact c_post hC s.deselect (fun h => deselect_invW h hsel) (fun S hA hI => chip_deselect b s S w hA N (hI.inv hsel) hN hsel)
end Go.Proofs.YteombggfmeilaaaGreat
namespace Go.Proofs.YteombggfmeilaaaGreat
open Go.RowKit
theorem Ctx.nilrow {P Q : Own} {w0 w : World} {rows : List (Value × List Value)} (hC : Ctx P Q w0 w rows) : Ctx P Q w0 w ((.slice none 0 0, ints []) :: rows) := by
  obtain ⟨S, h1, h2, h3⟩ := hC.all
  refine ⟨hC.okP, hC.okQ, hC.upd, S, h1, h2, fun r hr => ?_⟩
  rcases List.mem_cons.1 hr with rfl | hr
  · exact ⟨RS.nil w, fun k hk => by simp [Value.ownBlock] at hk, fun k hk => by simp [Value.ownBlock] at hk⟩
  · exact h3 r hr
theorem row_lit (w : World) (e : TypeId) (vs : List Value) (n : Nat) (hn : vs.length = n) (hl : n ≤ 1048576) : Row (w.alloc (.cells vs.toArray e)) e (.slice (some ⟨w.heap.size, 0, none⟩) n n) vs := by
  subst hn
  have h := World.ownsRow_lit (base := 0) (e := e) (size := 1) w vs.toArray vs.length (Nat.zero_le _) (by unfold maxLen; omega) (by simp)
  unfold Row
  simpa using h
theorem Ctx.step {P P' Q : Own} {w0 w w' : World} {rows : List (Value × List Value)} (hC : Ctx P Q w0 w rows) (hP' : P'.Ok) (h : ∀ S, P w S → ∃ S', P' w' S' ∧ (∀ k, S' k → S k ∨ w.heap.size ≤ k) ∧ Upd S w w') : Ctx P' Q w0 w' rows := by
  obtain ⟨S, ⟨A, B, hA, hB, hd, hS⟩, h2, h3⟩ := hC.all
  obtain ⟨A', hA', hs, hu⟩ := h A hA
  have h0 := hC.upd.size
  refine ⟨hP', hC.okQ, hC.upd.trans hu (fun k hk ha => by have := h2 k ((hS k).2 (.inl ha)); omega), fun k => A' k ∨ B k, ⟨A', B, hA', hC.okQ.frame hB hu (fun k hb ha => hd k ha hb), fun k ha hb => ?_, fun _ => Iff.rfl⟩, ?_, ?_⟩
  · rcases hs k ha with h1 | h1
    · exact hd k h1 hb
    · have := hC.okQ.lt hB k hb; omega
  · rintro k (h1 | h1)
    · rcases hs k h1 with h4 | h4
      · exact h2 k ((hS k).2 (.inl h4))
      · omega
    · exact h2 k ((hS k).2 (.inr h1))
  · intro r hr
    refine (h3 r hr).upd hu (fun k hk => .inl ((hS k).2 (.inl hk))) ?_
    rintro k (h6 | h6)
    · rcases hs k h6 with h7 | h7
      · exact .inl ((hS k).2 (.inl h7))
      · exact .inr h7
    · exact .inl ((hS k).2 (.inr h6))
theorem Ctx.add {P R : Own} {w0 w w' : World} {rows : List (Value × List Value)} (hC : Ctx P .emp w0 w rows) (hR : R.Ok) (hu : Upd none' w w') {B : Nat → Prop} (hB : R w' B) (hn : ∀ k, B k → w.heap.size ≤ k) : Ctx P R w0 w' rows := by
  obtain ⟨S, ⟨A, E, hA, hE, hd, hS⟩, h2, h3⟩ := hC.all
  have h0 := hC.upd.size
  have hlt := hC.okP.lt hA
  refine ⟨hC.okP, hR, hC.upd.trans hu (fun _ _ f => f), fun k => A k ∨ B k, ⟨A, B, hC.okP.frame hA hu (fun _ _ f => f), hB, fun k ha hb => ?_, fun _ => Iff.rfl⟩, ?_, ?_⟩
  · have := hlt k ha; have := hn k hb; omega
  · rintro k (h1 | h1)
    · exact h2 k ((hS k).2 (.inl h1))
    · have := hn k h1; omega
  · intro r hr
    refine (h3 r hr).upd hu (fun _ f => f.elim) ?_
    rintro k (h6 | h6)
    · exact .inl ((hS k).2 (.inl h6))
    · exact .inr (hn k h6)
theorem Ctx.tl {P Q : Own} {w0 w : World} {r : Value × List Value} {rows : List (Value × List Value)} (hC : Ctx P Q w0 w (r :: rows)) : Ctx P Q w0 w rows := hC.sub fun _ h => List.mem_cons.2 (.inr h)
theorem Ctx.up {Q : Own} {w0 w : World} {b : Nat} {s : St} {N M : Int} {rows : List (Value × List Value)} (hC : Ctx (ChipP b s N) Q w0 w rows) (h : N ≤ M) : Ctx (ChipP b s M) Q w0 w rows :=
  hC.step (chipP_ok b s M) (fun S hS => ⟨S, ⟨hS.1, hS.2.mono h⟩, fun _ hk => .inl hk, Upd.refl _ _⟩)
theorem Ctx.below {P Q : Own} {w0 w : World} {rows : List (Value × List Value)} (hC : Ctx P Q w0 w rows) : ∀ r ∈ rows, ∀ k, r.1.ownBlock = some k → k < w.heap.size := by
  obtain ⟨S, h1, h2, h3⟩ := hC.all
  exact fun r hr k hk => ((h3 r hr).2.1 k hk).1
def BufP (g : Nat) (l : List UInt8) : Own := fun w S => Buf w g l 5 ∧ ∀ k, S k ↔ k = g
theorem bufP_ok (g : Nat) (l : List UInt8) : (BufP g l).Ok := ⟨fun h u hT => ⟨h.1.upd u (hT g ((h.2 g).2 rfl)), h.2⟩, fun h k hk => by rw [(h.2 k).1 hk]; exact h.1.lt⟩
theorem Ctx.bytes {P : Own} {w0 w : World} {rows : List (Value × List Value)} (hC : Ctx P .emp w0 w rows) (s : ByteArray) : Ctx P (BufP w.heap.size s.data.toList) w0 (Lib.bytesWorld w 5 s) rows :=
  hC.add (bufP_ok _ _) (upd_bytes w 5 s) (B := fun k => k = w.heap.size) ⟨Buf.of_bytes w 5 s, fun _ => Iff.rfl⟩ (fun k hk => by omega)
end Go.Proofs.YteombggfmeilaaaGreat
/- RefNew. -/
namespace Go.Proofs.YteombggfmeilaaaGreat
open Go.RowKit
def refCells (a : ByteArray) (v : Value) : List Value :=
  [.string a, .bool false, .bool false, v, .bool false, .bool false, .bool false, .int .i64 0, .int .i64 0, .string ⟨#[]⟩, .int .i64 0, .bool false, .slice none 0 0,
   .int .i64 0, .int .i64 0, .bool false, .int .i64 0, .int .i64 0, .bool false,
   .bool false, .bool false, .int .i64 0, .int .i64 0, .int .i64 0, .int .i64 0, .int .i64 0, .bool false, .slice none 0 0, .int .i64 0, .int .i64 0, .int .i64 0]
def RefNew (w : World) (r : Nat) (a : ByteArray) (v : Value) : Prop := Blk w r (refCells a v) 54 ∧ Row w 3 v (ints (List.replicate 8 0)) ∧ ∀ k, v.ownBlock = some k → k ≠ r
def zeros8 : List Int := List.replicate 8 0
theorem made_ints8 : madeCells (Value.int .i64 0).cells (Int.toNat 8 * Tryz.t3.size) = (ints zeros8).toArray := by
  rw [show Tryz.t3.size = 1 from by kernel_rfl, show (Value.int .i64 0).cells = #[Value.int .i64 0] from rfl, made_gen, Nat.mul_one]
  rfl
theorem make_ints8 (u : World) : (Instr.makeSlice 33 (.int .i64 8) (.int .i64 8)).run Tryz.prog u = .ok (.slice (some ⟨u.heap.size, 0, none⟩) 8 8) (u.alloc (.cells (ints zeros8).toArray 3)) := by
  have := run_make (P := Tryz.prog) u 33 3 Tryz.t3 (.int .i64 0) Tryz.underlying33 (by kernel_rfl) (by kernel_rfl) .i64 .i64 8 8 (by decide) (by decide) (by show ((8 : Nat) : Int) * 8 ≤ _; decide) (by decide)
  rw [this, made_ints8]
  rfl
set_option maxRecDepth 100000 in
set_option maxHeartbeats 2000000 in
theorem ref_new (a : ByteArray) (w : World) (ha : a.size = 4096) :
    Calls Tryz.prog 15 #[.string a] w fun e w' => ∃ r v, e = .returned (.tuple #[.pointer (some ⟨r, 0, none⟩), .int .i64 0]) ∧ w.heap.size ≤ r ∧ Blk w' r (refCells a v) 54 ∧ Row w' 3 v (ints zeros8) ∧ (∀ k, v.ownBlock = some k → w.heap.size ≤ k ∧ k ≠ r) ∧ Upd none' w w' := by
  have hmay : ∀ w1, Calls Tryz.prog 91 #[.string a] w1 fun e w' => e = .returned (.bool true) ∧ w1 = w' := by
    intro w1
    go_enter Tryz.func91, Tryz.ntmps91
    go_wp2
    go_ret
    exact ⟨rfl, rfl⟩
  have hmk := make_ints8
  go_enter Tryz.func15, Tryz.ntmps15
  go_wp2_with (go_at_call 91; refine (hmay _).mono ?_; rintro e w1 ⟨rfl, rfl⟩)
  go_ret2
  have h1 := row_lit w 3 (ints zeros8) 8 rfl (by decide)
  have hu1 := (Upd.refl none' w).alloc (.cells (ints zeros8).toArray 3)
  have hs : (w.alloc (.cells (ints zeros8).toArray 3)).heap.size = w.heap.size + 1 := by simp
  generalize w.alloc (.cells (ints zeros8).toArray 3) = w1 at *
  have hb := Blk.new w1 (refCells a (.slice (some ⟨w.heap.size, 0, none⟩) 8 8)) 54
  have hu2 := (Upd.refl none' w1).alloc (.cells (refCells a (.slice (some ⟨w.heap.size, 0, none⟩) 8 8)).toArray 54)
  rw [hs] at hb
  refine ⟨w.heap.size + 1, .slice (some ⟨w.heap.size, 0, none⟩) 8 8, rfl, by omega, hb, h1.upd hu2 (fun _ _ f => f), fun k hk => ?_, hu1.trans hu2 (fun _ _ f => f)⟩
  simp only [Value.ownBlock, Option.some.injEq] at hk
  omega
end Go.Proofs.YteombggfmeilaaaGreat
/- WireM. -/
namespace Go.Proofs.YteombggfmeilaaaGreat
open Go.RowKit
def byteBits (b : Int) : List Int := [14 + b / 128 % 2, 14 + b / 64 % 2, 14 + b / 32 % 2, 14 + b / 16 % 2, 14 + b / 8 % 2, 14 + b / 4 % 2, 14 + b / 2 % 2, 14 + b % 2]
def wordL (bs : List Int) : List Int := bs.flatMap byteBits
theorem byteBits_len (x : Int) : (byteBits x).length = 8 := rfl
theorem wordL_len (l : List Int) : (wordL l).length = 8 * l.length := by
  induction l with
  | nil => rfl
  | cons x l ih => unfold wordL at ih ⊢; rw [List.flatMap_cons, List.length_append, ih, byteBits_len, List.length_cons]; omega
end Go.Proofs.YteombggfmeilaaaGreat
namespace Go.Proofs.YteombggfmeilaaaGreat
open Go.RowKit
structure Ph where
  lanes : Int
  bytes : List Int
  clocks : Int
  read : Int
def lanesB (n : Int) : Bool := decide (n = 1 ∨ n = 4)
def byteB (b : Int) : Bool := decide (0 ≤ b ∧ b < 256)
def Ph.may (p : Ph) : Bool :=
  if p.bytes ≠ [] then lanesB p.lanes && decide (p.bytes.length ≤ 512) && p.bytes.all byteB && decide (p.clocks = 0) && decide (p.read = 0)
  else if p.read ≠ 0 then lanesB p.lanes && decide (1 ≤ p.read ∧ p.read ≤ 512) && decide (p.clocks = 0)
  else decide (p.lanes = 0) && decide (1 ≤ p.clocks ∧ p.clocks ≤ 400)
def Ph.many (p : Ph) : Int := p.clocks + if 0 < p.lanes then ((p.bytes.length : Int) + p.read) * (8 / p.lanes) else 0
def phsMany (ps : List Ph) : Int := ps.foldl (fun k p => k + p.many) 0
def outsL (b lanes : Int) : List Int := if lanes = 1 then byteBits b else [b / 16 % 16, b % 16]
structure Drv where
  s : St
  out : List Int
  clocks : Int
  most : Int
def Drv.full (d : Drv) : Bool := decide (0 ≤ d.most ∧ d.most ≤ d.clocks)
def Drv.clk (d : Drv) (x : Int) : Drv := { d with s := (d.s.clock x).1, clocks := d.clocks + 1 }
def Drv.run (d : Drv) : List Int → Drv × List Int × Bool
  | [] => (d, [], true)
  | x :: xs => if d.full then (d, [], false) else (((d.clk x).run xs).1, (d.s.clock x).2 :: ((d.clk x).run xs).2.1, ((d.clk x).run xs).2.2)
theorem run_app (xs : List Int) : ∀ (d : Drv) (ys : List Int), d.run (xs ++ ys) = if (d.run xs).2.2 then (((d.run xs).1.run ys).1, (d.run xs).2.1 ++ ((d.run xs).1.run ys).2.1, ((d.run xs).1.run ys).2.2) else d.run xs := by
  induction xs with
  | nil => intro d ys; simp [Drv.run]
  | cons x xs ih =>
    intro d ys
    simp only [List.cons_append, Drv.run]
    by_cases hf : d.full = true
    · simp [hf]
    · simp only [hf, Bool.false_eq_true, if_false, ih]
      by_cases h : ((d.clk x).run xs).2.2 = true <;> simp [h]
def inL (lanes : Int) (ys : List Int) : Int := if lanes = 1 then ys.foldl (fun b y => b * 2 + y / 2 % 2) 0 else ys.foldl (fun b y => b * 16 + y) 0
def Drv.get (d : Drv) (lanes : Int) : Drv × Bool :=
  if (d.run (List.replicate (8 / lanes).toNat 15)).2.2 then
    ({ (d.run (List.replicate (8 / lanes).toNat 15)).1 with out := d.out ++ [inL lanes (d.run (List.replicate (8 / lanes).toNat 15)).2.1] }, true)
  else ((d.run (List.replicate (8 / lanes).toNat 15)).1, false)
def Drv.gets (d : Drv) (lanes : Int) : Nat → Drv × Bool
  | 0 => (d, true)
  | n + 1 => if (d.get lanes).2 then (d.get lanes).1.gets lanes n else ((d.get lanes).1, false)
def Ph.says (p : Ph) : List Int := p.bytes.flatMap (fun b => outsL b p.lanes) ++ List.replicate p.clocks.toNat 15
def Drv.phase (d : Drv) (p : Ph) : Drv × Bool :=
  if (d.run p.says).2.2 then (d.run p.says).1.gets p.lanes p.read.toNat else ((d.run p.says).1, false)
def Drv.phases (d : Drv) : List Ph → Drv × Bool
  | [] => (d, true)
  | p :: ps => if (d.phase p).2 then (d.phase p).1.phases ps else ((d.phase p).1, false)
theorem gets_snoc (l : Int) (n : Nat) : ∀ d : Drv, d.gets l (n + 1) = if (d.gets l n).2 then (d.gets l n).1.get l else d.gets l n := by
  induction n with
  | zero => intro d; simp [Drv.gets]; cases h : (d.get l).2 <;> simp [← h]
  | succ n ih =>
    intro d
    rw [Drv.gets, show d.gets l (n + 1) = if (d.get l).2 then (d.get l).1.gets l n else ((d.get l).1, false) from rfl]
    by_cases h : (d.get l).2 = true
    · simp only [h, if_true]; rw [ih]
    · simp [h]
theorem gets_fail (l : Int) (d : Drv) (i : Nat) (h : (d.gets l i).2 = false) : ∀ k, d.gets l (i + k) = d.gets l i := by
  intro k
  induction k with
  | zero => rfl
  | succ k ih => rw [← Nat.add_assoc, gets_snoc, ih, h]; simp
theorem phases_app (ps : List Ph) : ∀ (d : Drv) (qs : List Ph), d.phases (ps ++ qs) = if (d.phases ps).2 then (d.phases ps).1.phases qs else d.phases ps := by
  induction ps with
  | nil => intro d qs; simp [Drv.phases]
  | cons p ps ih =>
    intro d qs
    simp only [List.cons_append, Drv.phases]
    by_cases h : (d.phase p).2 = true
    · simp only [h, if_true]; rw [ih]
    · simp [h]
theorem run_keep (xs : List Int) : ∀ d : Drv, (d.run xs).1.out = d.out ∧ (d.run xs).1.most = d.most ∧ (d.run xs).1.clocks = d.clocks + ((d.run xs).2.1.length : Int) ∧ ((d.run xs).2.2 = true → (d.run xs).2.1.length = xs.length) ∧ (d.run xs).2.1.length ≤ xs.length := by
  induction xs with
  | nil => intro d; simp [Drv.run]
  | cons x xs ih =>
    intro d
    obtain ⟨h1, h2, h3, h4, h5⟩ := ih (d.clk x)
    simp only [Drv.run]
    by_cases hf : d.full = true
    · simp [hf]
    · simp only [hf, Bool.false_eq_true, if_false, List.length_cons]
      refine ⟨h1, h2, ?_, fun h => by rw [h4 h], by omega⟩
      rw [h3]
      show d.clocks + 1 + _ = _
      omega
theorem run_take (d : Drv) (xs : List Int) (i : Nat) (hi : i < xs.length) (h : (d.run (xs.take i)).2.2 = true) :
    ((d.run (xs.take i)).1.full = true → d.run xs = ((d.run (xs.take i)).1, (d.run (xs.take i)).2.1, false)) ∧
    ((d.run (xs.take i)).1.full = false → d.run (xs.take (i + 1)) = ((d.run (xs.take i)).1.clk (xs.getD i 0), (d.run (xs.take i)).2.1 ++ [((d.run (xs.take i)).1.s.clock (xs.getD i 0)).2], true)) := by
  have e1 : xs.take (i + 1) = xs.take i ++ [xs.getD i 0] := by
    rw [List.take_add_one]
    simp [List.getD_eq_getElem?_getD, List.getElem?_eq_getElem hi]
  have e2 : xs = xs.take i ++ (xs.getD i 0 :: xs.drop (i + 1)) := by
    conv => lhs; rw [← List.take_append_drop i xs, List.drop_eq_getElem_cons hi]
    simp [List.getD_eq_getElem?_getD, List.getElem?_eq_getElem hi]
  constructor
  · intro hf
    conv => lhs; rw [e2]
    rw [run_app, h]
    simp [Drv.run, hf]
  · intro hf
    rw [e1, run_app, h]
    simp [Drv.run, hf]
theorem may_facts {p : Ph} (h : p.may = true) :
    ((p.lanes = 1 ∨ p.lanes = 4) ∧ p.clocks = 0 ∧ p.bytes.length ≤ 512 ∧ 0 ≤ p.read ∧ p.read ≤ 512 ∧ ∀ b ∈ p.bytes, 0 ≤ b ∧ b < 256) ∨
    (p.lanes = 0 ∧ p.bytes = [] ∧ p.read = 0 ∧ 1 ≤ p.clocks ∧ p.clocks ≤ 400) := by
  unfold Ph.may lanesB at h
  by_cases hb : p.bytes = []
  · rw [if_neg (fun f => f hb)] at h
    by_cases hr : p.read = 0
    · rw [if_neg (fun f => f hr)] at h
      simp only [Bool.and_eq_true, decide_eq_true_eq] at h
      exact .inr ⟨h.1, hb, hr, h.2.1, h.2.2⟩
    · rw [if_pos hr] at h
      simp only [Bool.and_eq_true, decide_eq_true_eq] at h
      exact .inl ⟨h.1.1, h.2, by rw [hb]; decide, by omega, by omega, fun b hm => by rw [hb] at hm; cases hm⟩
  · rw [if_pos hb] at h
    simp only [Bool.and_eq_true, decide_eq_true_eq, List.all_eq_true, byteB] at h
    exact .inl ⟨h.1.1.1.1, h.1.2, h.1.1.1.2, by omega, by omega, h.1.1.2⟩
theorem many_bd {p : Ph} (h : p.may = true) : 0 ≤ p.many ∧ p.many ≤ 8192 := by
  unfold Ph.many
  rcases may_facts h with ⟨h1 | h1, h2, h3, h4, h5, _⟩ | ⟨h1, h2, h3, h4, h5⟩
  · rw [h1, h2, if_pos (by decide)]; show 0 ≤ 0 + _ * (8 : Int) ∧ 0 + _ * (8 : Int) ≤ 8192; omega
  · rw [h1, h2, if_pos (by decide)]; show 0 ≤ 0 + _ * (2 : Int) ∧ 0 + _ * (2 : Int) ≤ 8192; omega
  · rw [h1, if_neg (by decide)]; omega
theorem many_snoc (ps : List Ph) (p : Ph) : phsMany (ps ++ [p]) = phsMany ps + p.many := by unfold phsMany; rw [List.foldl_append]; rfl
theorem phsMany_bd (ps : List Ph) (h : ps.all Ph.may = true) : 0 ≤ phsMany ps ∧ phsMany ps ≤ 8192 * (ps.length : Int) := by
  have key : ∀ (qs rs : List Ph), qs.all Ph.may = true → 0 ≤ phsMany rs → phsMany rs ≤ 8192 * (rs.length : Int) → 0 ≤ phsMany (rs ++ qs) ∧ phsMany (rs ++ qs) ≤ 8192 * ((rs ++ qs).length : Int) := by
    intro qs
    induction qs with
    | nil => intro rs _ h1 h2; rw [List.append_nil]; exact ⟨h1, h2⟩
    | cons q qs ih =>
      intro rs hq h1 h2
      rw [List.all_cons, Bool.and_eq_true] at hq
      have := many_bd hq.1
      have e : rs ++ q :: qs = (rs ++ [q]) ++ qs := by simp
      rw [e]
      refine ih (rs ++ [q]) hq.2 ?_ ?_
      · rw [many_snoc]; omega
      · rw [many_snoc, List.length_append]; simp only [List.length_cons, List.length_nil]; omega
  have := key ps [] h (by decide) (by decide)
  rwa [List.nil_append] at this
end Go.Proofs.YteombggfmeilaaaGreat
