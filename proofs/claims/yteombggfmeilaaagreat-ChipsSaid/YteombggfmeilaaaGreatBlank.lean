/- The walk over lichenref1.Blank; a text over and over, in plain. -/
import Derived.Test.YteombggfmeilaaaGreatChip
import Derived.Test.YteombggfmeilaaaGreatLow
import Derived.Laws.MakeOwn
namespace Go.Proofs.YteombggfmeilaaaGreat
open Go.RowKit
def zeroL : List UInt8 := List.replicate 4096 0
def blankL : List UInt8 := List.replicate 4096 255
theorem zeroL_len : zeroL.length = 4096 := List.length_replicate
theorem made_gen (z : Value) (n : Nat) : madeCells #[z] n = (List.replicate n z).toArray := by
  apply Array.ext
  · simp [madeCells]
  · intro i h1 h2
    simp [madeCells, Nat.mod_one]
theorem made_zero : madeCells (Value.int .u8 0).cells (Int.toNat 4096 * Tryz.t5.size) = (bytesV zeroL).toArray := by
  rw [show Tryz.t5.size = 1 from by kernel_rfl, show (Value.int .u8 0).cells = #[Value.int .u8 0] from rfl, made_gen, Nat.mul_one]
  unfold zeroL bytesV
  rw [List.map_replicate]
  rfl
theorem make_bytes4096 (u : World) : (Instr.makeSlice 23 (.int .i64 4096) (.int .i64 4096)).run Tryz.prog u = .ok (.slice (some ⟨u.heap.size, 0, none⟩) 4096 4096) (u.alloc (.cells (bytesV zeroL).toArray 5)) := by
  have := run_make (P := Tryz.prog) u 23 5 Tryz.t5 (.int .u8 0) Tryz.underlying23 (by kernel_rfl) (by kernel_rfl) .i64 .i64 4096 4096 (by decide) (by decide) (by show ((1 : Nat) : Int) * 4096 ≤ _; decide) (by decide)
  rw [this, made_zero]
  rfl
theorem fillN (n i : Nat) (h : i < n) : (List.replicate i (255 : UInt8) ++ List.replicate (n - i) 0).set i 255 = List.replicate (i + 1) 255 ++ List.replicate (n - (i + 1)) 0 := by
  apply List.ext_getElem
  · simp; omega
  · intro j h1 h2
    simp only [List.getElem_set, List.getElem_append, List.length_replicate, List.getElem_replicate]
    split
    · subst_vars; simp
    · split <;> split <;> first | rfl | omega
set_option maxRecDepth 100000 in
set_option maxHeartbeats 1000000 in
theorem ref_blank (w : World) :
    Calls Tryz.prog 13 #[] w fun e w' => e = .returned (.string ⟨blankL.toArray⟩) ∧ Upd none' w w' := by
  have hfull : Calls Tryz.prog 89 #[.int .i64 4096] w fun e w' => e = .returned (.string ⟨blankL.toArray⟩) ∧ Upd none' w w' := by
    have hmk := make_bytes4096
    go_enter Tryz.func89, Tryz.ntmps89
    go_wp2_with fail
    clear hmk
    obtain ⟨Z, hZ⟩ : ∃ Z, zeroL = Z := ⟨_, rfl⟩
    rw [hZ]
    have hBz : Buf (w.alloc (.cells (bytesV Z).toArray 5)) w.heap.size Z 5 := ⟨[], (0, 0), by rw [List.append_nil]; exact heap_alloc_new w _, .inl rfl⟩
    have hUz := (Upd.refl none' w).alloc (.cells (bytesV Z).toArray 5)
    generalize w.alloc (.cells (bytesV Z).toArray 5) = W at *
    go_loopw [4] (fun iv wr => ∃ (i : Nat) (l : List UInt8), i ≤ 4096 ∧ iv = .int .i64 i ∧ Upd none' w wr ∧ Buf wr w.heap.size l 5 ∧ Hid (l = List.replicate i 255 ++ List.replicate (4096 - i) 0)) (fun iv _ => 4096 - (intOf iv).toNat)
    case atStart => exact ⟨0, Z, by omega, rfl, hUz, hBz, Lib.hid (by rw [← hZ, List.replicate_zero, List.nil_append]; rfl)⟩
    case round =>
      clear hBz hUz
      obtain ⟨i, l, hi, rfl, hU, hB, hl⟩ := hrel
      have hll : l.length = 4096 := by rw [hl.out]; simp; omega
      by_cases hlt : i < 4096
      · have hc := hB.cell (j := i) (by omega)
        have hf := hB.frozen (j := i) (by omega)
        have HB := Lib.hid (hB.set (j := i) (by omega) 255)
        have HU := Lib.hid (hU.setCell ⟨w.heap.size, i, none⟩ (.int .u8 255) (fun h => absurd h (by dsimp only; omega)))
        clear hB hU hZ
        go_wp2
        exact ⟨⟨i + 1, _, by omega, by go_num, HU.out, HB.out, Lib.hid (by rw [hl.out, fillN 4096 i hlt])⟩, by simp [intOf]; omega⟩
      · have hieq : i = 4096 := by omega
        subst hieq
        have hle : l = blankL := by rw [hl.out, Nat.sub_self, List.replicate_zero, List.append_nil]; rfl
        subst hle
        have hst := run_string_buf hB 23 5 9 Tryz.underlying23 Tryz.underlying5 Tryz.underlying9 4096 4096 hll
        clear hZ
        go_wp2
        go_ret
        exact ⟨rfl, hU⟩
  go_enter Tryz.func13, Tryz.ntmps13
  go_wp2_with fail
  refine hfull.mono ?_
  rintro e w1 ⟨rfl, hU⟩
  go_wp2
  go_ret
  exact ⟨rfl, hU⟩
end Go.Proofs.YteombggfmeilaaaGreat
namespace Go.Proofs.YteombggfmeilaaaGreat
open Go.RowKit
def freshAt (s : ByteArray) (i : Nat) : UInt8 := s.data.toList.getD (i % s.size) 0
def freshL (s : ByteArray) : List UInt8 := if s.size = 0 then blankL else (List.range 4096).map (freshAt s)
theorem freshL_len (s : ByteArray) : (freshL s).length = 4096 := by
  unfold freshL
  split
  · exact List.length_replicate
  · rw [List.length_map, List.length_range]
theorem fresh_step (s : ByteArray) (l : List UInt8) (i : Nat) (hi : i < 4096) (h : l = ((List.range 4096).map (freshAt s)).take i ++ blankL.drop i) : l.set i (freshAt s i) = ((List.range 4096).map (freshAt s)).take (i + 1) ++ blankL.drop (i + 1) := by
  have hb : blankL.length = 4096 := List.length_replicate
  have hr : ((List.range 4096).map (freshAt s)).length = 4096 := by rw [List.length_map, List.length_range]
  have hg : ∀ k (hk : k < ((List.range 4096).map (freshAt s)).length), ((List.range 4096).map (freshAt s))[k] = freshAt s k := fun k hk => by rw [List.getElem_map, List.getElem_range]
  subst h
  generalize (List.range 4096).map (freshAt s) = fl at *
  generalize blankL = bl at *
  apply List.ext_getElem
  · simp [hb, hr]; omega
  · intro j h1 h2
    rw [List.getElem_set]
    by_cases hj : i = j
    · subst hj
      rw [if_pos rfl, List.getElem_append_left (by rw [List.length_take]; omega), List.getElem_take, hg]
    · rw [if_neg hj]
      by_cases hlt : j < i
      · rw [List.getElem_append_left (by rw [List.length_take]; omega), List.getElem_append_left (by rw [List.length_take]; omega), List.getElem_take, List.getElem_take]
      · rw [List.getElem_append_right (by rw [List.length_take]; omega), List.getElem_append_right (by rw [List.length_take]; omega)]
        simp only [List.getElem_drop, List.length_take]
        congr 1
        omega
end Go.Proofs.YteombggfmeilaaaGreat
