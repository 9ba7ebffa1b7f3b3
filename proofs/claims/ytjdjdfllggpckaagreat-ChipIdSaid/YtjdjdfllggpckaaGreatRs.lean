/- Slices that are read. -/
import Derived.Test.YtjdjdfllggpckaaGreatInts
namespace Go.Proofs.YtjdjdfllggpckaaGreat
open Go.RowKit
/-- v is a slice that reads as vs. -/
def RS (w : World) (v : Value) (vs : List Value) : Prop :=
  vs.length * 8 ≤ 140737488351232 ∧ ∃ a cap, v = .slice a vs.length cap ∧ vs.length ≤ cap ∧
    (vs ≠ [] → ∃ b o, a = some ⟨b, o, none⟩ ∧ b < w.heap.size ∧ ∀ j, j < vs.length → w.cell? ⟨b, o + j, none⟩ = vs[j]?)
theorem RS.upd {S : Nat → Prop} {w w' : World} {v : Value} {xs : List Value} (h : RS w v xs) (u : Upd S w w') (hS : ∀ k, k < w.heap.size → v.ownBlock = some k → ¬ S k) : RS w' v xs := by
  obtain ⟨h1, a, cap, h3, h4, h5⟩ := h
  refine ⟨h1, a, cap, h3, h4, fun hn => ?_⟩
  obtain ⟨b, o, h6, h7, h8⟩ := h5 hn
  exact ⟨b, o, h6, Nat.lt_of_lt_of_le h7 u.size, fun j hj => by rw [u.cell (p := ⟨b, o + j, none⟩) h7 (hS b h7 (by rw [h3, h6]; rfl))]; exact h8 j hj⟩
theorem RS.nil (w : World) : RS w (.slice none 0 0) [] := ⟨by decide, none, 0, rfl, Nat.le_refl _, fun h => absurd rfl h⟩
theorem Row.rs {w : World} {e : TypeId} {v : Value} {xs : List Value} (h : Row w e v xs) (hl : xs.length ≤ 1048576) : RS w v xs := by
  obtain ⟨ao, cap, rfl, hc, hn, hs⟩ := h.form
  refine ⟨by omega, ao, cap, rfl, hc, fun hne => ?_⟩
  cases ao with
  | none => exact absurd (hn rfl).1 hne
  | some ad =>
    obtain ⟨g, rfl, h1, h2, h3, h4⟩ := hs ad rfl
    exact ⟨g, 0, rfl, h2, fun j hj => by rw [Nat.zero_add]; exact h3 j hj⟩
end Go.Proofs.YtjdjdfllggpckaaGreat
