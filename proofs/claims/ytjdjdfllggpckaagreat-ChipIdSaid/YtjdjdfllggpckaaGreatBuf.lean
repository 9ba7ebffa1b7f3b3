/- Bytes in a block of the call's own: 'Buf'; strings by their bytes. -/
import Derived.Test.YtjdjdfllggpckaaGreatBase
import Derived.Lib.ConvBytes
import Derived.Laws.BytesArg
namespace Go.Proofs.YtjdjdfllggpckaaGreat
open Go.RowKit
def bytesV (l : List UInt8) : List Value := l.map fun c => Value.int .u8 c.toNat
/-- The first cells of block b are the bytes l; they may be written. -/
def Buf (w : World) (b : Nat) (l : List UInt8) (t : TypeId) : Prop :=
  ∃ (rest : List Value) (m : Nat × Nat), w.heap[b]? = some (.cells (bytesV l ++ rest).toArray t m) ∧ (m = (0, 0) ∨ l.length ≤ m.1)
theorem Buf.lt {w : World} {b : Nat} {l : List UInt8} {t : TypeId} (h : Buf w b l t) : b < w.heap.size := by
  obtain ⟨r, m, h, _⟩ := h; exact (Array.getElem?_eq_some_iff.1 h).1
theorem Buf.cell {w : World} {b : Nat} {l : List UInt8} {t : TypeId} (h : Buf w b l t) {j : Nat} (hj : j < l.length) : w.cell? ⟨b, j, none⟩ = some (.int .u8 (l.getD j 0).toNat) := by
  obtain ⟨r, m, h, _⟩ := h
  rw [cell_of_row w b j _ t m h]
  simp [bytesV, List.getElem?_append, hj, List.getD_eq_getElem?_getD]
theorem Buf.frozen {w : World} {b : Nat} {l : List UInt8} {t : TypeId} (h : Buf w b l t) {j : Nat} (hj : j < l.length) : w.frozen? ⟨b, j, none⟩ = false := by
  obtain ⟨r, m, h, hm⟩ := h
  obtain ⟨lo, hi⟩ := m
  simp only [World.frozen?, h]
  rcases hm with hm | hm
  · simp only [Prod.mk.injEq] at hm; obtain ⟨rfl, rfl⟩ := hm; simp
  · simp only at hm; simp; omega
theorem Buf.upd {S : Nat → Prop} {w w' : World} {b : Nat} {l : List UInt8} {t : TypeId} (h : Buf w b l t) (u : Upd S w w') (hb : ¬ S b) : Buf w' b l t := by
  have hlt := h.lt
  obtain ⟨r, m, h, hm⟩ := h
  exact ⟨r, m, (u.block b hlt hb).trans h, hm⟩
theorem Buf.set {w : World} {b : Nat} {l : List UInt8} {t : TypeId} (h : Buf w b l t) {j : Nat} (hj : j < l.length) (c : UInt8) : Buf (w.setCell ⟨b, j, none⟩ (.int .u8 c.toNat)) b (l.set j c) t := by
  obtain ⟨r, m, h, hm⟩ := h
  refine ⟨r, m, ?_, by simpa using hm⟩
  simp only [World.setCell, Array.getElem?_modify]
  simp [h, bytesV, hj, List.map_set]
theorem Buf.of_bytes (w : World) (e : TypeId) (s : ByteArray) : Buf (Lib.bytesWorld w e s) w.heap.size s.data.toList e := by
  refine ⟨List.replicate (grownCap w s.size 0 e - s.size) (.int .u8 0), ((Lib.bytesCells w e s).size, (Lib.bytesCells w e s).size + 1), ?_, .inr ?_⟩
  · rw [Lib.bytesWorld_at_new]
    congr 2
    apply Array.ext'
    simp [Lib.bytesCells, bytesV]
  · unfold Lib.bytesCells; simp
theorem upd_bytes (w : World) (e : TypeId) (s : ByteArray) : Upd none' w (Lib.bytesWorld w e s) :=
  ⟨rfl, rfl, by rw [Lib.bytesWorld_size]; omega, fun k hk _ => Lib.bytesWorld_at_old w e s k hk⟩
theorem str_of_bytes (l : List UInt8) : strOfNums (l.map fun c => (c.toNat : Int)) = ⟨l.toArray⟩ := by
  simp [strOfNums, Function.comp_def]
/-- 'string(b)' of such a block. -/
theorem run_string_buf {P : Program} {w : World} {b : Nat} {l : List UInt8} {t : TypeId} (h : Buf w b l t) (src e dst : TypeId) (hs : P.underlying src = some (.slice e)) (he : P.underlying e = some (.int .u8)) (hd : P.underlying dst = some .string) (n cap : Nat) (hn : l.length = n) :
    (convert src dst (.slice (some ⟨b, 0, none⟩) n cap)).run P w = .ok (.string ⟨l.toArray⟩) w := by
  have := run_convert_bytes_arg (P := P) w src e hs he b 0 n cap (l.map fun c => (c.toNat : Int)) (by simpa using hn) (fun i hi => by
    rw [Nat.zero_add, h.cell (by omega)]
    simp [List.getD_eq_getElem?_getD, List.getElem?_eq_getElem (show i < l.length by omega)]) dst hd
  rw [str_of_bytes] at this
  exact this
theorem str_at (s : ByteArray) (j : Nat) (h : j < s.size) : s.data.toList.getD j 0 = s[j] := by
  obtain ⟨⟨l⟩⟩ := s
  simp only [ByteArray.size, List.size_toArray] at h
  simp [List.getD_eq_getElem?_getD, List.getElem?_eq_getElem h]
  rfl
theorem str_nonempty (s : ByteArray) (h : 0 < s.size) : s.toList.isEmpty = false := by
  rw [← decide_eq_emptyBytes]
  refine decide_eq_false fun e => ?_
  rw [e] at h; simp at h
end Go.Proofs.YtjdjdfllggpckaaGreat
