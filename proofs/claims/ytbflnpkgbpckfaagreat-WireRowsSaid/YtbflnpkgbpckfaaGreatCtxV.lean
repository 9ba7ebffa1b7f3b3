/- All phases but the first one. -/
import Derived.Test.YtbflnpkgbpckfaaGreatCtxW
namespace Go.Proofs.YtbflnpkgbpckfaaGreat
open Go.RowKit
theorem phs_tail {P Q : Own} {w0 w : World} {R : List (Value × List Value)} (hC : Ctx P Q w0 w R) {g o n cap : Nat} {x : Ph × Value} {L : List (Ph × Value)} (hP : PhsV R (.slice (some ⟨g, o, none⟩) n cap) (x :: L)) :
    ∃ R', Ctx P Q w0 w R' ∧ (∀ r ∈ R, r ∈ R') ∧ PhsV R' (.slice (some ⟨g, o + 4, none⟩) (n - 1) (cap - 1)) L := by
  obtain ⟨a, cap', e, h2, h3, h4, h5, h6⟩ := hP
  simp only [Value.slice.injEq] at e
  obtain ⟨rfl, rfl, rfl⟩ := e
  have hm := h5.resolve_left (by simp)
  obtain ⟨i, hi, hgi⟩ := List.getElem_of_mem hm
  have hi2 : R[i]? = some (.slice (some ⟨g, o, none⟩) (4 * (x :: L).length) (4 * (x :: L).length), (x :: L).flatMap phCells) := by rw [List.getElem?_eq_getElem hi, hgi]
  have ht := hC.tail i hi2 4 (by rw [List.length_cons]; omega)
  have e1 : 4 * (x :: L).length - 4 = 4 * L.length := by rw [List.length_cons]; omega
  have e2 : ((x :: L).flatMap phCells).drop 4 = L.flatMap phCells := by rw [List.flatMap_cons]; rfl
  rw [e1, e2] at ht
  refine ⟨_, ht, fun r hr => List.mem_cons_of_mem _ hr, some ⟨g, o + 4, none⟩, cap - 1, by rw [List.length_cons]; rfl, by rw [List.length_cons] at h2; omega, fun h => (by cases h), by rw [List.length_cons] at h4; omega, .inr List.mem_cons_self, fun y hy => ?_⟩
  obtain ⟨k1, k2, k3⟩ := h6 y (List.mem_cons_of_mem _ hy)
  exact ⟨k1, k2, k3.imp id (List.mem_cons_of_mem _)⟩
end Go.Proofs.YtbflnpkgbpckfaaGreat
