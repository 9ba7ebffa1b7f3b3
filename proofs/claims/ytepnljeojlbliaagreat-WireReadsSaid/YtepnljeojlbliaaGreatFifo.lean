/- What package fifo does, on a ring that holds a list of numbers. -/
import Derived.Test.YtepnljeojlbliaaGreatFifoW
import Derived.Test.YtepnljeojlbliaaGreatBase
namespace Go.Proofs.YtepnljeojlbliaaGreat
open Go.RowKit
def fifoCells (ring : List Int) (fr n : Nat) : List Value := ring.map (Value.int .i64) ++ [.int .i64 fr, .int .i64 n]
/-- Block b is a ring that holds xs. -/
def FifoAt (w : World) (b : Nat) (xs : List Int) : Prop :=
  xs.length ≤ 16 ∧ ∃ (ring : List Int) (fr : Nat), fr < 16 ∧ ring.length = 16 ∧ Blk w b (fifoCells ring fr xs.length) 208 ∧
    ∀ i, i < xs.length → ring.getD ((fr + i) % 16) 0 = xs.getD i 0
theorem FifoAt.lt {w : World} {b : Nat} {xs : List Int} (h : FifoAt w b xs) : b < w.heap.size := by
  obtain ⟨_, _, _, _, _, h, _⟩ := h; exact h.lt
theorem FifoAt.upd {S : Nat → Prop} {w w' : World} {b : Nat} {xs : List Int} (h : FifoAt w b xs) (u : Upd S w w') (hb : ¬ S b) : FifoAt w' b xs := by
  obtain ⟨h1, ring, fr, h2, h3, h4, h5⟩ := h
  exact ⟨h1, ring, fr, h2, h3, h4.upd u hb, h5⟩
theorem fifo_ring {w : World} {b : Nat} {ring : List Int} {fr n : Nat} {t : TypeId} (hr : ring.length = 16) (h : Blk w b (fifoCells ring fr n) t) :
    (∀ j, j < 16 → w.cell? ⟨b, j, none⟩ = some (.int .i64 (ring.getD j 0))) ∧ w.cell? ⟨b, 16, none⟩ = some (.int .i64 fr) ∧ w.cell? ⟨b, 17, none⟩ = some (.int .i64 n) ∧
    (∀ j, j < 18 → w.frozen? ⟨b, j, none⟩ = false) := by
  refine ⟨fun j hj => ?_, ?_, ?_, fun j _ => h.frozen j⟩
  · rw [h.cell]; unfold fifoCells
    rw [List.getElem?_append_left (by simpa [hr] using hj)]
    simp [List.getD_eq_getElem?_getD, List.getElem?_eq_getElem (show j < ring.length by omega)]
  · rw [h.cell]; unfold fifoCells
    rw [List.getElem?_append_right (by simp [hr])]; simp [hr]
  · rw [h.cell]; unfold fifoCells
    rw [List.getElem?_append_right (by simp [hr])]; simp [hr]
theorem fifo_push_ok (b : Nat) (v : Int) (xs : List Int) (w : World) (h : FifoAt w b xs) (hl : xs.length < 16) :
    Calls Tryz.prog 144 #[.pointer (some ⟨b, 0, none⟩), .int .i64 v] w fun e w' =>
      e = .returned (.int .i64 0) ∧ FifoAt w' b (xs ++ [v]) ∧ Upd (fun k => k = b) w w' := by
  obtain ⟨h2, ring, fr, h3, h4, hB, h9⟩ := h
  obtain ⟨h5, h6, h7, h8⟩ := fifo_ring h4 hB
  have hu : Upd (fun k => k = b) w ((w.setCell ⟨b, (fr + xs.length) % 16, none⟩ (.int .i64 v)).setCell ⟨b, 17, none⟩ (.int .i64 ((xs.length : Int) + 1))) :=
    ((Upd.refl (fun k => k = b) w).setCell ⟨b, (fr + xs.length) % 16, none⟩ _ (fun _ => rfl)).setCell ⟨b, 17, none⟩ _ (fun _ => rfl)
  have hb := (hB.set ((fr + xs.length) % 16) (.int .i64 v)).set 17 (.int .i64 ((xs.length : Int) + 1))
  refine (fifo_push_room b fr xs.length v ring w h3 hl h5 h6 h7 h8).mono ?_
  rintro e w' ⟨he, ha⟩
  refine ⟨he, ⟨by simp; omega, ring.set ((fr + xs.length) % 16) v, fr, h3, by simpa using h4, ?_, ?_⟩, hu.alike ha⟩
  · have h17 := hb.alike ha
    unfold fifoCells at h17 ⊢
    rw [List.set_append_left _ _ (by simp [h4]; omega), List.set_append_right _ _ (by simp [h4])] at h17
    simpa [h4, List.map_set] using h17
  · intro i hi
    simp only [List.length_append, List.length_cons, List.length_nil] at hi
    by_cases e : i = xs.length
    · subst e
      simp [List.getD_eq_getElem?_getD, h4, Nat.mod_lt]
    · have hne : (fr + xs.length) % 16 ≠ (fr + i) % 16 := by omega
      have := h9 i (by omega)
      simp only [List.getD_eq_getElem?_getD] at this ⊢
      rw [List.getElem?_set_ne hne, this, List.getElem?_append_left (by omega)]
theorem fifo_push_no (b : Nat) (v : Int) (xs : List Int) (w : World) (h : FifoAt w b xs) (hl : 16 ≤ xs.length) :
    Calls Tryz.prog 144 #[.pointer (some ⟨b, 0, none⟩), .int .i64 v] w fun e w' =>
      e = .returned (.int .i64 801) ∧ FifoAt w' b xs ∧ Upd (fun k => k = b) w w' := by
  have h' := h
  obtain ⟨h2, ring, fr, h3, h4, hB, h9⟩ := h
  obtain ⟨h5, h6, h7, h8⟩ := fifo_ring h4 hB
  refine (fifo_push_full b v w (by rw [h7, show xs.length = 16 by omega]; rfl)).mono ?_
  rintro e w' ⟨he, ha⟩
  have hu := (Upd.refl none' w).alike ha
  exact ⟨he, h'.upd hu (fun f => f), hu.mono (fun _ _ f => f.elim)⟩
theorem fifo_pop_ok (b : Nat) (v : Int) (xs : List Int) (w : World) (h : FifoAt w b (v :: xs)) :
    Calls Tryz.prog 147 #[.pointer (some ⟨b, 0, none⟩)] w fun e w' =>
      e = .returned (.tuple #[.int .i64 v, .int .i64 0]) ∧ FifoAt w' b xs ∧ Upd (fun k => k = b) w w' := by
  obtain ⟨h2, ring, fr, h3, h4, hB, h9⟩ := h
  obtain ⟨h5, h6, h7, h8⟩ := fifo_ring h4 hB
  simp only [List.length_cons] at h2 h7 h9 hB
  have hu : Upd (fun k => k = b) w ((w.setCell ⟨b, 16, none⟩ (.int .i64 (((fr : Int) + 1) % 16))).setCell ⟨b, 17, none⟩ (.int .i64 (((xs.length + 1 : Nat) : Int) - 1))) :=
    ((Upd.refl (fun k => k = b) w).setCell ⟨b, 16, none⟩ _ (fun _ => rfl)).setCell ⟨b, 17, none⟩ _ (fun _ => rfl)
  have hb := (hB.set 16 (.int .i64 (((fr : Int) + 1) % 16))).set 17 (.int .i64 (((xs.length + 1 : Nat) : Int) - 1))
  refine (fifo_pop_some b fr (xs.length + 1) ring w h3 (by omega) h2 h5 h6 h7 h8).mono ?_
  rintro e w' ⟨he, ha⟩
  have h0 := h9 0 (by omega)
  rw [show (fr + 0) % 16 = fr by omega] at h0
  refine ⟨by rw [he, h0]; rfl, ⟨by omega, ring, (fr + 1) % 16, by omega, h4, ?_, ?_⟩, hu.alike ha⟩
  · have h17 := hb.alike ha
    unfold fifoCells at h17 ⊢
    rw [List.set_append_right _ _ (by simp [h4]), List.set_append_right _ _ (by simp [h4])] at h17
    simpa [h4] using h17
  · intro i hi
    have := h9 (i + 1) (by omega)
    rw [show ((fr + 1) % 16 + i) % 16 = (fr + (i + 1)) % 16 by omega, this]
    simp
theorem fifo_pop_no (b : Nat) (w : World) (h : FifoAt w b []) :
    Calls Tryz.prog 147 #[.pointer (some ⟨b, 0, none⟩)] w fun e w' =>
      e = .returned (.tuple #[.int .i64 0, .int .i64 800]) ∧ FifoAt w' b [] ∧ Upd (fun k => k = b) w w' := by
  have h' := h
  obtain ⟨h2, ring, fr, h3, h4, hB, h9⟩ := h
  obtain ⟨h5, h6, h7, h8⟩ := fifo_ring h4 hB
  refine (fifo_pop_empty b w h7).mono ?_
  rintro e w' ⟨he, ha⟩
  have hu := (Upd.refl none' w).alike ha
  exact ⟨he, h'.upd hu (fun f => f), hu.mono (fun _ _ f => f.elim)⟩
theorem fifo_len (b : Nat) (xs : List Int) (w : World) (h : FifoAt w b xs) :
    Calls Tryz.prog 146 #[.pointer (some ⟨b, 0, none⟩)] w fun e w' =>
      e = .returned (.int .i64 xs.length) ∧ FifoAt w' b xs ∧ Upd none' w w' := by
  have h' := h
  obtain ⟨h2, ring, fr, h3, h4, hB, h9⟩ := h
  obtain ⟨h5, h6, h7, h8⟩ := fifo_ring h4 hB
  refine (fifo_len_some b _ w h7).mono ?_
  rintro e w' ⟨he, ha⟩
  have hu := (Upd.refl none' w).alike ha
  exact ⟨he, h'.upd hu (fun f => f), hu⟩
theorem fifo_new_ok (w : World) :
    Calls Tryz.prog 123 #[] w fun e w' => ∃ b, e = .returned (.pointer (some ⟨b, 0, none⟩)) ∧ w.heap.size ≤ b ∧ FifoAt w' b [] ∧ Upd none' w w' := by
  have hb := Blk.new w (fifoCells (List.replicate 16 0) 0 0) 208
  refine (fifo_new w).mono ?_
  rintro e w' ⟨he, ha⟩
  exact ⟨w.heap.size, he, Nat.le_refl _, ⟨by simp, List.replicate 16 0, 0, by omega, by simp, hb.alike ha, fun i hi => by simp at hi⟩, ((Upd.refl none' w).alloc _).alike ha⟩
end Go.Proofs.YtepnljeojlbliaaGreat
