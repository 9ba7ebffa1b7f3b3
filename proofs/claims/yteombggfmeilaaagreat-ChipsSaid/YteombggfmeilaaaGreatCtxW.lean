/- More of what a law holds: three objects side by side; phases in memory, among the rows that are read. -/
import Derived.Test.YteombggfmeilaaaGreatCtx
import Derived.Test.YteombggfmeilaaaGreatWireM
namespace Go.Proofs.YteombggfmeilaaaGreat
open Go.RowKit
theorem Ctx.swap {P R Q : Own} {w0 w : World} {rows : List (Value × List Value)} (hR : R.Ok) (hQ : Q.Ok) (h : Ctx P (R.star Q) w0 w rows) : Ctx R (P.star Q) w0 w rows := by
  obtain ⟨S, ⟨A, D, hA, ⟨B, C, hB, hC, d1, e1⟩, d2, e2⟩, h2, h3⟩ := h.all
  refine ⟨hR, h.okP.star hQ, h.upd, S, ⟨B, fun k => A k ∨ C k, hB, ⟨A, C, hA, hC, fun k ha hc => d2 k ha ((e1 k).2 (.inr hc)), fun _ => Iff.rfl⟩, ?_, ?_⟩, h2, h3⟩
  · rintro k hb (ha | hc)
    · exact d2 k ha ((e1 k).2 (.inl hb))
    · exact d1 k hb hc
  · intro k
    rw [e2 k, e1 k]
    constructor
    · rintro (ha | hb | hc)
      · exact .inr (.inl ha)
      · exact .inl hb
      · exact .inr (.inr hc)
    · rintro (hb | ha | hc)
      · exact .inr (.inl hb)
      · exact .inl ha
      · exact .inr (.inr hc)
/-- The second object is turned. -/
theorem Ctx.step2 {P R R' Q : Own} {w0 w w' : World} {rows : List (Value × List Value)} (hR : R.Ok) (hQ : Q.Ok) (hC : Ctx P (R.star Q) w0 w rows) (hR' : R'.Ok) (h : ∀ S, R w S → ∃ S', R' w' S' ∧ (∀ k, S' k → S k ∨ w.heap.size ≤ k) ∧ Upd S w w') : Ctx P (R'.star Q) w0 w' rows :=
  ((hC.swap hR hQ).step hR' h).swap hC.okP hQ
/-- The second object, as it is. -/
theorem Ctx.get2 {P R Q : Own} {w0 w : World} {rows : List (Value × List Value)} (h : Ctx P (R.star Q) w0 w rows) : ∃ S, R w S ∧ ∀ k, S k → w0.heap.size ≤ k := by
  obtain ⟨S, ⟨A, D, hA, ⟨B, C, hB, hC, d1, e1⟩, d2, e2⟩, h2, h3⟩ := h.all
  exact ⟨B, hB, fun k hk => h2 k ((e2 k).2 (.inr ((e1 k).2 (.inl hk))))⟩
theorem Ctx.get1 {P Q : Own} {w0 w : World} {rows : List (Value × List Value)} (h : Ctx P Q w0 w rows) : ∃ S, P w S ∧ ∀ k, S k → w0.heap.size ≤ k := by
  obtain ⟨S, ⟨A, B, hA, hB, d2, e2⟩, h2, h3⟩ := h.all
  exact ⟨A, hA, fun k hk => h2 k ((e2 k).2 (.inl hk))⟩
/-- An object is given up. -/
theorem Ctx.drop2 {P R Q : Own} {w0 w : World} {rows : List (Value × List Value)} (hQ : Q.Ok) (h : Ctx P (R.star Q) w0 w rows) : Ctx P Q w0 w rows := by
  obtain ⟨S, ⟨A, D, hA, ⟨B, C, hB, hC, d1, e1⟩, d2, e2⟩, h2, h3⟩ := h.all
  exact ⟨h.okP, hQ, h.upd, fun k => A k ∨ C k, ⟨A, C, hA, hC, fun k ha hc => d2 k ha ((e1 k).2 (.inr hc)), fun _ => Iff.rfl⟩, fun k hk => h2 k ((e2 k).2 (hk.imp id fun hc => (e1 k).2 (.inr hc))), fun r hr => ⟨(h3 r hr).1, fun k hk => ⟨((h3 r hr).2.1 k hk).1, fun hs => ((h3 r hr).2.1 k hk).2 ((e2 k).2 (hs.imp id fun hc => (e1 k).2 (.inr hc)))⟩, (h3 r hr).2.2⟩⟩
/-- A new object beside the second ones. -/
theorem Ctx.add2 {P Q R : Own} {w0 w w' : World} {rows : List (Value × List Value)} (hC : Ctx P Q w0 w rows) (hR : R.Ok) (hu : Upd none' w w') {B : Nat → Prop} (hB : R w' B) (hn : ∀ k, B k → w.heap.size ≤ k) : Ctx P (R.star Q) w0 w' rows := by
  obtain ⟨S, ⟨A, E, hA, hE, hd, hS⟩, h2, h3⟩ := hC.all
  have h0 := hC.upd.size
  have hlt := hC.okP.lt hA
  have hlt2 := hC.okQ.lt hE
  refine ⟨hC.okP, hR.star hC.okQ, hC.upd.trans hu (fun _ _ f => f), fun k => A k ∨ B k ∨ E k, ⟨A, fun k => B k ∨ E k, hC.okP.frame hA hu (fun _ _ f => f), ⟨B, E, hB, hC.okQ.frame hE hu (fun _ _ f => f), fun k hb he => ?_, fun _ => Iff.rfl⟩, fun k ha hb => ?_, fun _ => Iff.rfl⟩, ?_, ?_⟩
  · have := hn k hb; have := hlt2 k he; omega
  · rcases hb with hb | hb
    · have := hlt k ha; have := hn k hb; omega
    · exact hd k ha hb
  · rintro k (h1 | h1 | h1)
    · exact h2 k ((hS k).2 (.inl h1))
    · have := hn k h1; omega
    · exact h2 k ((hS k).2 (.inr h1))
  · intro r hr
    refine (h3 r hr).upd hu (fun _ f => f.elim) ?_
    rintro k (h6 | h6 | h6)
    · exact .inl ((hS k).2 (.inl h6))
    · exact .inr (hn k h6)
    · exact .inl ((hS k).2 (.inr h6))
theorem Ctx.rs_mem {P Q : Own} {w0 w : World} {rows : List (Value × List Value)} (h : Ctx P Q w0 w rows) {v : Value} {vs : List Value} (hm : (v, vs) ∈ rows) : RS w v vs := by
  obtain ⟨S, h1, h2, h3⟩ := h.all
  exact (h3 _ hm).1
/-- Rows that came in. -/
theorem Ctx.old {P Q : Own} {w0 w : World} {rows news : List (Value × List Value)} (h : Ctx P Q w0 w rows) (hn : ∀ r ∈ news, RS w0 r.1 r.2 ∧ ∀ k, r.1.ownBlock = some k → k < w0.heap.size) : Ctx P Q w0 w (news ++ rows) := by
  obtain ⟨S, h1, h2, h3⟩ := h.all
  refine ⟨h.okP, h.okQ, h.upd, S, h1, h2, fun r hr => ?_⟩
  rcases List.mem_append.1 hr with hr | hr
  · exact ⟨(hn r hr).1.upd h.upd (fun _ _ _ f => f), fun k hk => ⟨Nat.lt_of_lt_of_le ((hn r hr).2 k hk) h.upd.size, fun hs => by have := h2 k hs; have := (hn r hr).2 k hk; omega⟩, fun k hk h0 => absurd ((hn r hr).2 k hk) (by omega)⟩
  · exact h3 r hr
/-- A phase's cells; its bytes' slice. -/
def phCells (x : Ph × Value) : List Value := [.int .i64 x.1.lanes, x.2, .int .i64 x.1.clocks, .int .i64 x.1.read]
def i64B (n : Int) : Prop := -9223372036854775808 ≤ n ∧ n ≤ 9223372036854775807
/-- Phases, each with its bytes' slice, lie in a slice v, all of it among the rows (but for what is empty). -/
def PhsV (rows : List (Value × List Value)) (v : Value) (L : List (Ph × Value)) : Prop :=
  ∃ a cap, v = .slice a L.length cap ∧ L.length ≤ cap ∧ (a = none → cap = 0) ∧ L.length ≤ 4398046511104 ∧ (L = [] ∨ (.slice a (4 * L.length) (4 * L.length), L.flatMap phCells) ∈ rows) ∧ ∀ x ∈ L, (∃ a c, x.2 = .slice a x.1.bytes.length c ∧ x.1.bytes.length ≤ c) ∧ x.1.bytes.length * 8 ≤ 140737488351232 ∧ (x.1.bytes = [] ∨ (x.2, ints x.1.bytes) ∈ rows)
theorem flat4_len (L : List (Ph × Value)) : (L.flatMap phCells).length = 4 * L.length := by
  induction L with
  | nil => rfl
  | cons x L ih => rw [List.flatMap_cons, List.length_append, ih, List.length_cons]; show 4 + _ = _; omega
theorem flat4_at (L : List (Ph × Value)) : ∀ (i j : Nat) (_ : j < 4) (h : i < L.length), (L.flatMap phCells)[4 * i + j]? = (phCells L[i])[j]? := by
  induction L with
  | nil => intro i j _ h; simp at h
  | cons x L ih =>
    intro i j hj h
    rw [List.flatMap_cons]
    cases i with
    | zero => rw [List.getElem?_append_left (show 4 * 0 + j < 4 by omega)]; rw [show 4 * 0 + j = j by omega]; rfl
    | succ i =>
      rw [List.getElem?_append_right (show 4 ≤ 4 * (i + 1) + j by omega)]
      rw [show 4 * (i + 1) + j - (phCells x).length = 4 * i + j from by show 4 * (i + 1) + j - 4 = _; omega, ih i j hj (by rw [List.length_cons] at h; omega)]
      rfl
/-- A phase's four cells. -/
theorem phs_cells {P Q : Own} {w0 w : World} {rows : List (Value × List Value)} (hC : Ctx P Q w0 w rows) {a : Option Addr} {n cap : Nat} {L : List (Ph × Value)} (h : PhsV rows (.slice a n cap) L) (i : Nat) (hi : i < L.length) :
    n = L.length ∧ n ≤ cap ∧ ∃ g o, a = some ⟨g, o, none⟩ ∧ g < w.heap.size ∧ w.cell? ⟨g, o + i * 4, none⟩ = some (.int .i64 L[i].1.lanes) ∧ w.cell? ⟨g, o + i * 4 + 1, none⟩ = some L[i].2 ∧ w.cell? ⟨g, o + i * 4 + 2, none⟩ = some (.int .i64 L[i].1.clocks) ∧ w.cell? ⟨g, o + i * 4 + 3, none⟩ = some (.int .i64 L[i].1.read) := by
  obtain ⟨a', cap', e, hc, _, _, hm0, _⟩ := h
  simp only [Value.slice.injEq] at e
  obtain ⟨rfl, rfl, rfl⟩ := e
  have hm := hm0.resolve_left (fun e => by rw [e] at hi; simp at hi)
  obtain ⟨g, o, rfl, hg, hcell⟩ := (hC.rs_mem hm).cells (by omega)
  refine ⟨rfl, hc, g, o, rfl, hg, ?_, ?_, ?_, ?_⟩
  · have := hcell (4 * i + 0) (by omega); rw [flat4_at L i 0 (by omega) hi] at this; rw [show o + i * 4 = o + (4 * i + 0) by omega]; exact this
  · have := hcell (4 * i + 1) (by omega); rw [flat4_at L i 1 (by omega) hi] at this; rw [show o + i * 4 + 1 = o + (4 * i + 1) by omega]; exact this
  · have := hcell (4 * i + 2) (by omega); rw [flat4_at L i 2 (by omega) hi] at this; rw [show o + i * 4 + 2 = o + (4 * i + 2) by omega]; exact this
  · have := hcell (4 * i + 3) (by omega); rw [flat4_at L i 3 (by omega) hi] at this; rw [show o + i * 4 + 3 = o + (4 * i + 3) by omega]; exact this
/-- The bytes' slice of a phase. -/
theorem phs_bytes {rows : List (Value × List Value)} {v : Value} {L : List (Ph × Value)} (h : PhsV rows v L) (i : Nat) (hi : i < L.length) :
    ∃ a c, L[i].2 = .slice a L[i].1.bytes.length c ∧ (∀ {P Q : Own} {w0 w : World}, Ctx P Q w0 w rows → RS w (.slice a L[i].1.bytes.length c) (ints L[i].1.bytes)) ∧ L[i].1.bytes.length * 8 ≤ 140737488351232 := by
  obtain ⟨a', cap', e, hc, _, _, hm, h5⟩ := h
  obtain ⟨⟨a, c, e2, hle⟩, h6, h7⟩ := h5 _ (List.getElem_mem hi)
  refine ⟨a, c, e2, fun hC => ?_, h6⟩
  rcases h7 with h7 | h7
  · rw [h7]
    exact ⟨by decide, a, c, rfl, Nat.zero_le _, fun h => absurd rfl h⟩
  · rw [← e2]; exact hC.rs_mem h7
theorem phs_len {rows : List (Value × List Value)} {v : Value} {L : List (Ph × Value)} (h : PhsV rows v L) : L.length ≤ 4398046511104 := by
  obtain ⟨a', cap', e, hc, _, hl, _⟩ := h
  exact hl
theorem PhsV.sub {rows rows' : List (Value × List Value)} {v : Value} {L : List (Ph × Value)} (h : PhsV rows v L) (hs : ∀ r ∈ rows, r ∈ rows') : PhsV rows' v L := by
  obtain ⟨a, cap, h1, h2, h3, h4, h5, h6⟩ := h
  exact ⟨a, cap, h1, h2, h3, h4, h5.imp id (hs _), fun x hx => ⟨(h6 x hx).1, (h6 x hx).2.1, (h6 x hx).2.2.imp id (hs _)⟩⟩
theorem ph_form {P Q : Own} {w0 w : World} {rows : List (Value × List Value)} (hC : Ctx P Q w0 w rows) {x : Ph × Value} (h : (x.2, ints x.1.bytes) ∈ rows) : (∃ a c, x.2 = .slice a x.1.bytes.length c ∧ x.1.bytes.length ≤ c) ∧ x.1.bytes.length * 8 ≤ 140737488351232 := by
  obtain ⟨h1, a, c, h2, h3, _⟩ := hC.rs_mem h
  rw [ints_len] at h1 h2 h3
  exact ⟨⟨a, c, h2, h3⟩, h1⟩
/-- Phases that have just been laid. -/
theorem phs_lit {P Q : Own} {w0 w : World} {rows : List (Value × List Value)} (hC : Ctx P Q w0 w rows) (L : List (Ph × Value)) (n : Nat) (hn : L.length = n) (hl : n ≤ 1000) (hb : ∀ x ∈ L, (x.2, ints x.1.bytes) ∈ rows) :
    Ctx P Q w0 (w.alloc (.cells (L.flatMap phCells).toArray 156)) ((.slice (some ⟨w.heap.size, 0, none⟩) (4 * n) (4 * n), L.flatMap phCells) :: rows) ∧ PhsV ((.slice (some ⟨w.heap.size, 0, none⟩) (4 * n) (4 * n), L.flatMap phCells) :: rows) (.slice (some ⟨w.heap.size, 0, none⟩) n n) L := by
  subst hn
  exact ⟨hC.lit _ _ (4 * L.length) (flat4_len L) (by omega), some ⟨w.heap.size, 0, none⟩, L.length, rfl, Nat.le_refl _, fun h => (by cases h), by omega, .inr List.mem_cons_self, fun x hx => ⟨(ph_form hC (hb x hx)).1, (ph_form hC (hb x hx)).2, .inr (List.mem_cons_of_mem _ (hb x hx))⟩⟩
end Go.Proofs.YteombggfmeilaaaGreat
