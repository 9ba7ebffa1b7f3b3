/- All phases but the first one. -/
import Derived.Test.YtbflnpkgbpckfaaGreatCtxW
namespace Go.Proofs.YtbflnpkgbpckfaaGreat
open Go.RowKit
theorem phs_tail {P Q : Own} {w0 w : World} {R : List (Value × List Value)} (hC : Ctx P Q w0 w R) {g o n cap : Nat} {x : Ph × Value} {L : List (Ph × Value)} (hP : PhsV R (.slice (some ⟨g, o, none⟩) n cap) (x :: L)) :
    ∃ R', Ctx P Q w0 w R' ∧ (∀ r ∈ R, r ∈ R') ∧ PhsV R' (.slice (some ⟨g, o + 4, none⟩) (n - 1) (cap - 1)) L := by
  obtain ⟨a, cap', e, h2, h3, h4, h5, h6⟩ := hP
  simp only [Value.slice.injEq] at e
  obtain ⟨rfl, rfl, rfl⟩ := e
  have hm := h5.resolve_left (by simp)
  obtain ⟨i, hi, hgi⟩ := List.getElem_of_mem hm
  have hi2 : R[i]? = some (.slice (some ⟨g, o, none⟩) (4 * (x :: L).length) (4 * (x :: L).length), (x :: L).flatMap phCells) := by rw [List.getElem?_eq_getElem hi, hgi]
  have ht := hC.tail i hi2 4 (by rw [List.length_cons]; omega)
  have e1 : 4 * (x :: L).length - 4 = 4 * L.length := by rw [List.length_cons]; omega
  have e2 : ((x :: L).flatMap phCells).drop 4 = L.flatMap phCells := by rw [List.flatMap_cons]; rfl
  rw [e1, e2] at ht
  refine ⟨_, ht, fun r hr => List.mem_cons_of_mem _ hr, some ⟨g, o + 4, none⟩, cap - 1, by rw [List.length_cons]; rfl, by rw [List.length_cons] at h2; omega, fun h => (by cases h), by rw [List.length_cons] at h4; omega, .inr List.mem_cons_self, fun y hy => ?_⟩
  obtain ⟨k1, k2, k3⟩ := h6 y (List.mem_cons_of_mem _ hy)
  exact ⟨k1, k2, k3.imp id (List.mem_cons_of_mem _)⟩
/-- A phase's slice is among the rows, or empty. -/
def PhOk (rows : List (Value × List Value)) (x : Ph × Value) : Prop := (∃ a c, x.2 = .slice a x.1.bytes.length c ∧ x.1.bytes.length ≤ c) ∧ x.1.bytes.length * 8 ≤ 140737488351232 ∧ (x.1.bytes = [] ∨ (x.2, ints x.1.bytes) ∈ rows)
theorem PhsV.ok {rows : List (Value × List Value)} {v : Value} {L : List (Ph × Value)} (h : PhsV rows v L) : ∀ x ∈ L, PhOk rows x := by
  obtain ⟨a, cap, h1, h2, h3, h4, h5, h6⟩ := h
  exact h6
theorem PhOk.sub {rows rows' : List (Value × List Value)} {x : Ph × Value} (h : PhOk rows x) (hs : ∀ r ∈ rows, r ∈ rows') : PhOk rows' x := ⟨h.1, h.2.1, h.2.2.imp id (hs _)⟩
theorem phOk_nil (rows : List (Value × List Value)) (l c r : Int) : PhOk rows (⟨l, [], c, r⟩, .slice none 0 0) := ⟨⟨none, 0, rfl, Nat.le_refl _⟩, Nat.zero_le _, .inl rfl⟩
theorem phs_nil (rows : List (Value × List Value)) : PhsV rows (.slice none 0 0) [] := ⟨none, 0, rfl, Nat.le_refl _, fun _ => rfl, Nat.zero_le _, .inl rfl, fun x hx => by cases hx⟩
/-- Phases that have just been laid, whose bytes lie among the rows, or are none. -/
theorem phs_lit2 {P Q : Own} {w0 w : World} {rows : List (Value × List Value)} (hC : Ctx P Q w0 w rows) (L : List (Ph × Value)) (n : Nat) (hn : L.length = n) (hl : n ≤ 1000) (hb : ∀ x ∈ L, PhOk rows x) :
    Ctx P Q w0 (w.alloc (.cells (L.flatMap phCells).toArray 37)) ((.slice (some ⟨w.heap.size, 0, none⟩) (4 * n) (4 * n), L.flatMap phCells) :: rows) ∧ PhsV ((.slice (some ⟨w.heap.size, 0, none⟩) (4 * n) (4 * n), L.flatMap phCells) :: rows) (.slice (some ⟨w.heap.size, 0, none⟩) n n) L := by
  subst hn
  exact ⟨hC.lit _ _ (4 * L.length) (flat4_len L) (by omega), some ⟨w.heap.size, 0, none⟩, L.length, rfl, Nat.le_refl _, fun h => (by cases h), by omega, .inr List.mem_cons_self, fun x hx => (hb x hx).sub fun r hr => List.mem_cons_of_mem _ hr⟩
/-- Rows that were made, for one who begins anew here. -/
theorem Ctx.asOld {P Q : Own} {w0 w : World} {rows : List (Value × List Value)} (h : Ctx P Q w0 w rows) : ∀ r ∈ rows, RS w r.1 r.2 ∧ ∀ k, r.1.ownBlock = some k → k < w.heap.size := by
  obtain ⟨S, h1, h2, h3⟩ := h.all
  exact fun r hr => ⟨(h3 r hr).1, fun k hk => ((h3 r hr).2 k hk).1⟩
end Go.Proofs.YtbflnpkgbpckfaaGreat
