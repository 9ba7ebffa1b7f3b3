/- Acts in memory, among the rows that are read. -/
import Derived.Test.YteombggfmeilaaaGreatCtxW
namespace Go.Proofs.YteombggfmeilaaaGreat
open Go.RowKit
structure DoC where
  f0 : Int
  f1 : List Int
  f2 : ByteArray
/-- An act's cells; its numbers' slice. -/
def cellsDoC (x : DoC × Value) : List Value := [.int .i64 x.1.f0, x.2, .string x.1.f2]
/-- Acts, each with its numbers' slice, lie in a slice v, all of it among the rows (but for what is empty). -/
def VDoC (rows : List (Value × List Value)) (v : Value) (L : List (DoC × Value)) : Prop :=
  ∃ a cap, v = .slice a L.length cap ∧ L.length ≤ cap ∧ (a = none → cap = 0) ∧ L.length ≤ 4398046511104 ∧ (L = [] ∨ (.slice a (3 * L.length) (3 * L.length), L.flatMap cellsDoC) ∈ rows) ∧ ∀ x ∈ L, (∃ a c, x.2 = .slice a x.1.f1.length c ∧ x.1.f1.length ≤ c ∧ (a = none → c = 0)) ∧ x.1.f1.length * 8 ≤ 140737488351232 ∧ (x.1.f1 = [] ∨ (x.2, ints x.1.f1) ∈ rows) ∧ i64B x.1.f0 ∧ x.1.f2.size ≤ 9223372036854775807
theorem flatDoC_len (L : List (DoC × Value)) : (L.flatMap cellsDoC).length = 3 * L.length := by
  induction L with
  | nil => rfl
  | cons x L ih => rw [List.flatMap_cons, List.length_append, ih, List.length_cons]; show 3 + _ = _; omega
theorem flatDoC_at (L : List (DoC × Value)) : ∀ (i j : Nat) (_ : j < 3) (h : i < L.length), (L.flatMap cellsDoC)[3 * i + j]? = (cellsDoC L[i])[j]? := by
  induction L with
  | nil => intro i j _ h; simp at h
  | cons x L ih =>
    intro i j hj h
    rw [List.flatMap_cons]
    cases i with
    | zero => rw [List.getElem?_append_left (show 3 * 0 + j < 3 by omega)]; rw [show 3 * 0 + j = j by omega]; rfl
    | succ i =>
      rw [List.getElem?_append_right (show 3 ≤ 3 * (i + 1) + j by omega)]
      rw [show 3 * (i + 1) + j - (cellsDoC x).length = 3 * i + j from by show 3 * (i + 1) + j - 3 = _; omega, ih i j hj (by rw [List.length_cons] at h; omega)]
      rfl
/-- An act's cells. -/
theorem cellsDoC_at {P Q : Own} {w0 w : World} {rows : List (Value × List Value)} (hC : Ctx P Q w0 w rows) {a : Option Addr} {n cap : Nat} {L : List (DoC × Value)} (h : VDoC rows (.slice a n cap) L) (i : Nat) (hi : i < L.length) :
    n = L.length ∧ n ≤ cap ∧ ∃ g o, a = some ⟨g, o, none⟩ ∧ g < w.heap.size ∧ g < w0.heap.size + w.heap.size ∧ w.cell? ⟨g, o + i * 3, none⟩ = some (.int .i64 L[i].1.f0) ∧ w.cell? ⟨g, o + i * 3 + 1, none⟩ = some (L[i].2) ∧ w.cell? ⟨g, o + i * 3 + 2, none⟩ = some (.string L[i].1.f2) := by
  obtain ⟨a', cap', e, hc, _, _, hm0, _⟩ := h
  simp only [Value.slice.injEq] at e
  obtain ⟨rfl, rfl, rfl⟩ := e
  have hm := hm0.resolve_left (fun e => by rw [e] at hi; simp at hi)
  obtain ⟨g, o, rfl, hg, hcell⟩ := (hC.rs_mem hm).cells (by omega)
  refine ⟨rfl, hc, g, o, rfl, hg, by omega, ?_, ?_, ?_⟩
  · have := hcell (3 * i + 0) (by omega); rw [flatDoC_at L i 0 (by omega) hi] at this; rw [show o + i * 3 = o + (3 * i + 0) by omega]; exact this
  · have := hcell (3 * i + 1) (by omega); rw [flatDoC_at L i 1 (by omega) hi] at this; rw [show o + i * 3 + 1 = o + (3 * i + 1) by omega]; exact this
  · have := hcell (3 * i + 2) (by omega); rw [flatDoC_at L i 2 (by omega) hi] at this; rw [show o + i * 3 + 2 = o + (3 * i + 2) by omega]; exact this
/-- The numbers of an act. -/
theorem intsDoC {rows : List (Value × List Value)} {v : Value} {L : List (DoC × Value)} (h : VDoC rows v L) (i : Nat) (hi : i < L.length) :
    ∃ a c, L[i].2 = .slice a L[i].1.f1.length c ∧ (a = none → c = 0) ∧ (∀ {P Q : Own} {w0 w : World}, Ctx P Q w0 w rows → RS w (.slice a L[i].1.f1.length c) (ints L[i].1.f1)) ∧ (L[i].1.f1 = [] ∨ (.slice a L[i].1.f1.length c, ints L[i].1.f1) ∈ rows) ∧ L[i].1.f1.length * 8 ≤ 140737488351232 ∧ i64B L[i].1.f0 ∧ L[i].1.f2.size ≤ 9223372036854775807 := by
  obtain ⟨a', cap', e, hc, _, _, hm, h5⟩ := h
  obtain ⟨⟨a, c, e2, hle, hn⟩, h6, h7, h8⟩ := h5 _ (List.getElem_mem hi)
  refine ⟨a, c, e2, hn, fun hC => ?_, by rw [← e2]; exact h7, h6, h8⟩
  rcases h7 with h7 | h7
  · rw [h7]
    exact ⟨by decide, a, c, rfl, Nat.zero_le _, fun h => absurd rfl h⟩
  · rw [← e2]; exact hC.rs_mem h7
theorem lenDoC {rows : List (Value × List Value)} {v : Value} {L : List (DoC × Value)} (h : VDoC rows v L) : L.length ≤ 4398046511104 := by
  obtain ⟨a', cap', e, hc, _, hl, _⟩ := h
  exact hl
theorem VDoC.sub {rows rows' : List (Value × List Value)} {v : Value} {L : List (DoC × Value)} (h : VDoC rows v L) (hs : ∀ r ∈ rows, r ∈ rows') : VDoC rows' v L := by
  obtain ⟨a, cap, h1, h2, h3, h4, h5, h6⟩ := h
  exact ⟨a, cap, h1, h2, h3, h4, h5.imp id (hs _), fun x hx => ⟨(h6 x hx).1, (h6 x hx).2.1, (h6 x hx).2.2.1.imp id (hs _), (h6 x hx).2.2.2⟩⟩
end Go.Proofs.YteombggfmeilaaaGreat
