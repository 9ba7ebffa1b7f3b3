/- lichenlaw12.text; make of a known size. -/
import Derived.Test.YtdlhhlebbnefkaaKeepNo
import Derived.Laws.MakeOwn
namespace Go.Proofs.Ytdlhhlebbnefkaa
open Go.RowKit
def textL (c : UInt8) : List UInt8 := (List.range 16).map (fun j => c + UInt8.ofNat j)
def textS (c : UInt8) : ByteArray := ⟨(textL c).toArray⟩
theorem text_step (c : UInt8) (i : Nat) (h : i < 16) : ((textL c).take i ++ List.replicate (16 - i) 0).set i (c + UInt8.ofNat i) = (textL c).take (i + 1) ++ List.replicate (16 - (i + 1)) 0 := by
  have hl : (textL c).length = 16 := by simp [textL]
  apply List.ext_getElem
  · simp [hl]; omega
  · intro j h1 h2
    simp only [List.getElem_set, List.getElem_append, List.length_take, hl, List.getElem_take, List.getElem_replicate]
    have : ∀ k (hk : k < (textL c).length), (textL c)[k] = c + UInt8.ofNat k := fun k hk => by simp [textL]
    simp only [this]
    split
    · subst_vars; simp; intro hh; omega
    · split <;> split <;> first | rfl | omega
theorem make_bytes16 (u : World) : (Instr.makeSlice 72 (.int .i64 16) (.int .i64 16)).run Try.prog u = .ok (.slice (some ⟨u.heap.size, 0, none⟩) 16 16) (u.alloc (.cells (bytesV (List.replicate 16 0)).toArray 5)) := by
  have := run_make (P := Try.prog) u 72 5 Try.t5 (.int .u8 0) Try.underlying72 (by kernel_rfl) (by kernel_rfl) .i64 .i64 16 16 (by decide) (by decide) (by show ((1 : Nat) : Int) * 16 ≤ _; decide) (by decide)
  rw [this, show madeCells (Value.int .u8 0).cells (Int.toNat 16 * Try.t5.size) = (bytesV (List.replicate 16 0)).toArray from by kernel_rfl]
  rfl
theorem make_texts2 (u : World) : (Instr.makeSlice 40 (.int .i64 2) (.int .i64 2)).run Try.prog u = .ok (.slice (some ⟨u.heap.size, 0, none⟩) 2 2) (u.alloc (.cells (strs [⟨#[]⟩, ⟨#[]⟩]).toArray 9)) := by
  have := run_make (P := Try.prog) u 40 9 Try.t9 (.string ⟨#[]⟩) Try.underlying40 (by kernel_rfl) (by kernel_rfl) .i64 .i64 2 2 (by decide) (by decide) (by show ((16 : Nat) : Int) * 2 ≤ _; decide) (by decide)
  rw [this, show madeCells (Value.string ⟨#[]⟩).cells (Int.toNat 2 * Try.t9.size) = (strs [⟨#[]⟩, ⟨#[]⟩]).toArray from by kernel_rfl]
  rfl
theorem make_ints2 (u : World) : (Instr.makeSlice 22 (.int .i64 2) (.int .i64 2)).run Try.prog u = .ok (.slice (some ⟨u.heap.size, 0, none⟩) 2 2) (u.alloc (.cells (ints [0, 0]).toArray 3)) := by
  have := run_make (P := Try.prog) u 22 3 Try.t3 (.int .i64 0) Try.underlying22 (by kernel_rfl) (by kernel_rfl) .i64 .i64 2 2 (by decide) (by decide) (by show ((8 : Nat) : Int) * 2 ≤ _; decide) (by decide)
  rw [this, show madeCells (Value.int .i64 0).cells (Int.toNat 2 * Try.t3.size) = (ints [0, 0]).toArray from by kernel_rfl]
  rfl
theorem text_walk (w : World) (c : UInt8) :
    Calls Try.prog 31 #[.int .u8 c.toNat] w fun e w' => e = .returned (.string (textS c)) ∧ Upd none' w w' := by
  have hmk := make_bytes16
  go_enter Try.func31, Try.ntmps31
  go_wp2_with fail
  go_loopw [4] (fun iv wr => ∃ i : Nat, i ≤ 16 ∧ iv = .int .i64 i ∧ Upd none' w wr ∧ Buf wr w.heap.size ((textL c).take i ++ List.replicate (16 - i) 0) 5) (fun iv _ => 16 - (intOf iv).toNat)
  case atStart =>
    refine ⟨0, by omega, rfl, (Upd.refl none' w).alloc _, ?_⟩
    refine ⟨[], (0, 0), ?_, .inl rfl⟩
    simp only [List.take_zero, List.nil_append, List.append_nil]
    exact heap_alloc_new w _
  case round =>
    obtain ⟨i, hi, rfl, hU, hB⟩ := hrel
    by_cases hlt : i < 16
    · have hlen : ((textL c).take i ++ List.replicate (16 - i) 0).length = 16 := by simp [textL]; omega
      have hc := hB.cell (j := i) (by rw [hlen]; exact hlt)
      have hf := hB.frozen (j := i) (by rw [hlen]; exact hlt)
      have hB2 := hB.set (j := i) (by rw [hlen]; exact hlt) (c + UInt8.ofNat i)
      have HB2 := Lib.hid hB2
      have HLEN := Lib.hid hlen
      have hU2 := hU.setCell ⟨w.heap.size, i, none⟩ (.int .u8 (c + UInt8.ofNat i).toNat) (fun h => absurd h (by dsimp only; omega))
      clear hB2 hlen
      go_wp2
      have hv : (c.toNat + i : Int) % 256 = ((c + UInt8.ofNat i).toNat : Int) := by
        rw [UInt8.toNat_add, UInt8.toNat_ofNat']; omega
      rw [hv]
      refine ⟨⟨i + 1, by omega, by go_num, hU2, ?_⟩, by simp [intOf]; omega⟩
      have h := HB2.out
      rw [text_step c i hlt] at h
      exact h
    · have hieq : i = 16 := by omega
      subst hieq
      have hB' : Buf wr w.heap.size (textL c) 5 := by
        rw [List.take_of_length_le (show (textL c).length ≤ 16 by simp [textL])] at hB; simpa using hB
      have hst := run_string_buf hB' 72 5 9 Try.underlying72 Try.underlying5 Try.underlying9 16 16 (by simp [textL])
      go_wp2
      go_ret
      exact ⟨rfl, hU⟩
end Go.Proofs.Ytdlhhlebbnefkaa
