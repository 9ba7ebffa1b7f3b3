/- Slices that are written over. -/
import Derived.Test.YteombggfmeilaaaGreatCtx
namespace Go.Proofs.YteombggfmeilaaaGreat
open Go.RowKit
set_option maxHeartbeats 1000000 in
theorem spoil_ints (w : World) (a : Option Addr) (n c : Nat) (xs : List Int) (h : RS w (.slice a n c) (ints xs)) (hz : Mk w (.slice a n c)) :
    Calls Tryz.prog 27 #[.slice a n c] w fun e w' => e = .returned (.tuple #[]) ∧ Upd (fun k => (Value.slice a n c).ownBlock = some k) w w' := by
  obtain ⟨h1, a', c', e1, h4, h5⟩ := h
  simp only [Value.slice.injEq] at e1
  obtain ⟨rfl, hn, rfl⟩ := e1
  have hil : (ints xs).length = xs.length := ints_len xs
  have hb : n * 8 ≤ 140737488351232 := by rw [hn]; exact h1
  by_cases h0 : n = 0
  · subst h0
    go_enter Tryz.func27, Tryz.ntmps27
    go_wp2
    go_loopw [2] (fun iv wr => iv = .int .i64 0 ∧ wr = w) (fun _ _ => 0)
    case atStart => exact ⟨rfl, rfl⟩
    case round =>
      obtain ⟨rfl, rfl⟩ := hrel
      go_wp2
      go_end0
      exact ⟨rfl, Upd.refl _ _⟩
  · obtain ⟨g, o, rfl, hg, hc⟩ := h5 (by intro e; rw [e] at hn; simp at hn; omega)
    have hcs : ∀ j, j < n → ∃ x : Int, w.cell? ⟨g, o + j, none⟩ = some (.int .i64 x) := fun j hj => by
      refine ⟨xs.getD j 0, ?_⟩
      rw [hc j (by omega), ints_at _ _ (by omega)]
    have hfz := fun j => hz g rfl j
    have HC := Lib.hid hcs
    have HF := Lib.hid hfz
    clear hc hcs hfz hz h5 h1
    go_enter Tryz.func27, Tryz.ntmps27
    go_wp2
    go_loopw [2] (fun iv wr => ∃ i : Nat, i ≤ n ∧ iv = .int .i64 (i : Int) ∧ Hid ((∀ j, j < n → ∃ x : Int, wr.cell? ⟨g, o + j, none⟩ = some (.int .i64 x)) ∧ (∀ j, wr.frozen? ⟨g, j, none⟩ = false)) ∧ Upd (fun k => (Value.slice (some ⟨g, o, none⟩) n c).ownBlock = some k) w wr) (fun iv _ => n - (intOf iv).toNat)
    case atStart => exact ⟨0, Nat.zero_le _, rfl, Lib.hid ⟨HC.out, HF.out⟩, Upd.refl _ _⟩
    case round =>
      clear HC HF
      rename World => W2
      obtain ⟨i, hi, rfl, hH, hU⟩ := hrel
      by_cases hlt : i < n
      · obtain ⟨x, hx⟩ := hH.out.1 i hlt
        have hf := hH.out.2 (o + i)
        have hlt2 := World.block_lt_of_cell? W2 _ hx
        obtain ⟨y, hy⟩ : ∃ y, IntKind.i64.wrap (-9 - x) = y := ⟨_, rfl⟩
        have HN : Hid ((∀ j, j < n → ∃ x : Int, (W2.setCell ⟨g, o + i, none⟩ (.int .i64 y)).cell? ⟨g, o + j, none⟩ = some (.int .i64 x)) ∧ (∀ j, (W2.setCell ⟨g, o + i, none⟩ (.int .i64 y)).frozen? ⟨g, j, none⟩ = false)) := Lib.hid ⟨fun j hj => by
          by_cases e : j = i
          · subst e
            exact ⟨y, World.cell?_setCell_same _ _ _ hx⟩
          · obtain ⟨z, hz⟩ := hH.out.1 j hj
            exact ⟨z, (World.cell?_setCell_other _ _ _ _ (by simp only [ne_eq, Addr.mk.injEq, true_and, and_true]; omega)).trans hz⟩, fun j => by simpa using hH.out.2 j⟩
        have HU := Lib.hid (hU.setCell ⟨g, o + i, none⟩ (.int .i64 y) (fun _ => rfl))
        clear hH hU hlt2
        go_wp2
        refine ⟨?rel, ?measure⟩
        case rel => exact ⟨i + 1, by omega, by go_num, HN, HU.out⟩
        case measure => simp [intOf]; omega
      · obtain rfl : i = n := by omega
        go_wp2
        go_end0
        exact ⟨rfl, hU⟩
/-- A row of the call's own is written over: it is no row any more. -/
theorem c_spoil {P Q : Own} {w0 w : World} {rows : List (Value × List Value)} {a : Option Addr} {n c : Nat} {xs : List Int} (hC : Ctx P Q w0 w ((.slice a n c, ints xs) :: rows)) (hn : ∀ k, (Value.slice a n c).ownBlock = some k → w0.heap.size ≤ k) (hne : ∀ r ∈ rows, ∀ k, r.1.ownBlock = some k → (Value.slice a n c).ownBlock ≠ some k) :
    Calls Tryz.prog 27 #[.slice a n c] w fun e w' => e = .returned (.tuple #[]) ∧ Ctx P Q w0 w' rows := by
  obtain ⟨S, h1, h2, h3⟩ := hC.all
  obtain ⟨g1, g2, g3⟩ := h3 _ List.mem_cons_self
  refine (spoil_ints w a n c xs g1 (fun k hk => g3 k hk (hn k hk))).mono ?_
  rintro e w' ⟨rfl, hU⟩
  refine ⟨rfl, hC.okP, hC.okQ, hC.upd.trans hU (fun k h4 h5 => absurd (hn k h5) (by omega)), S, (hC.okP.star hC.okQ).frame h1 hU (fun k hk he => (g2 k he).2 hk), h2, fun r hr => ?_⟩
  obtain ⟨f4, f5, f6⟩ := h3 r (List.mem_cons_of_mem _ hr)
  exact ⟨f4.upd hU (fun k _ he hk => hne r hr k he hk), fun k hk => ⟨Nat.lt_of_lt_of_le (f5 k hk).1 hU.size, (f5 k hk).2⟩, fun k hk h0 j => (hU.frozen (p := ⟨k, j, none⟩) (f5 k hk).1 (fun e => hne r hr k hk e)).trans (f6 k hk h0 j)⟩
/-- Blocks that stay as they are in w. -/
def RestP (w : World) (R : Nat → Prop) : Own := fun w' S => (∀ k, S k ↔ R k) ∧ ∀ k, R k → k < w'.heap.size ∧ w'.heap[k]? = w.heap[k]?
theorem restP_ok (w : World) (R : Nat → Prop) : (RestP w R).Ok := by
  refine ⟨?_, ?_⟩
  · rintro w1 w2 S T ⟨h1, h2⟩ hu hT
    exact ⟨h1, fun k hk => ⟨Nat.lt_of_lt_of_le (h2 k hk).1 hu.size, (hu.block k (h2 k hk).1 (hT k ((h1 k).2 hk))).trans (h2 k hk).2⟩⟩
  · rintro w1 S ⟨h1, h2⟩ k hk
    exact (h2 k ((h1 k).1 hk)).1
theorem rs_block {w w' : World} {v : Value} {vs : List Value} (h : RS w v vs) (hb : ∀ k, v.ownBlock = some k → k < w'.heap.size ∧ w'.heap[k]? = w.heap[k]?) : RS w' v vs := by
  obtain ⟨h1, a, cap, rfl, h4, h5⟩ := h
  refine ⟨h1, a, cap, rfl, h4, fun hn => ?_⟩
  obtain ⟨b, o, rfl, h7, h8⟩ := h5 hn
  obtain ⟨g1, g2⟩ := hb b rfl
  refine ⟨b, o, rfl, g1, fun j hj => ?_⟩
  rw [← h8 j hj]
  simp [World.cell?, g2]
/-- A call that knows of no more than the rows in front: what it makes is new, and all other rows stay. -/
theorem Ctx.base {P Q : Own} {w0 w : World} {rowsA rowsB : List (Value × List Value)} (h : Ctx P Q w0 w (rowsA ++ rowsB)) (hA : ∀ r ∈ rowsA, ∀ k, r.1.ownBlock = some k → w0.heap.size ≤ k) (hAB : ∀ r ∈ rowsA, ∀ r2 ∈ rowsB, ∀ k, r.1.ownBlock = some k → r2.1.ownBlock ≠ some k) :
    ∃ R : Nat → Prop, Ctx P (Q.star (RestP w R)) { w with heap := #[] } w rowsA ∧ ∀ (P' : Own) (w' : World) (rows' : List (Value × List Value)), Ctx P' (Q.star (RestP w R)) { w with heap := #[] } w' rows' →
      (∀ r ∈ rows', ∀ k, r.1.ownBlock = some k → w0.heap.size ≤ k ∧ ∀ r2 ∈ rowsB, r2.1.ownBlock ≠ some k) ∧ Ctx P' Q w0 w' (rows' ++ rowsB) := by
  obtain ⟨S, ⟨A, B, hPA, hQB, hd, hS⟩, h2, h3⟩ := h.all
  have h0 := h.upd.size
  refine ⟨fun k => k < w.heap.size ∧ ¬ S k ∧ ∀ r ∈ rowsA, r.1.ownBlock ≠ some k, ?_, ?_⟩
  · refine ⟨h.okP, h.okQ.star (restP_ok _ _), ⟨rfl, rfl, Nat.zero_le _, fun k hk => absurd hk (Nat.not_lt_zero k)⟩, fun k => A k ∨ B k ∨ (k < w.heap.size ∧ ¬ S k ∧ ∀ r ∈ rowsA, r.1.ownBlock ≠ some k), ⟨A, fun k => B k ∨ (k < w.heap.size ∧ ¬ S k ∧ ∀ r ∈ rowsA, r.1.ownBlock ≠ some k), hPA, ⟨B, fun k => (k < w.heap.size ∧ ¬ S k ∧ ∀ r ∈ rowsA, r.1.ownBlock ≠ some k), hQB, ⟨fun k => Iff.rfl, fun k hk => ⟨hk.1, rfl⟩⟩, fun k hb hr => hr.2.1 ((hS k).2 (.inr hb)), fun _ => Iff.rfl⟩, ?_, fun _ => Iff.rfl⟩, fun k _ => Nat.zero_le k, fun r hr => ?_⟩
    · rintro k ha (hb | hr)
      · exact hd k ha hb
      · exact hr.2.1 ((hS k).2 (.inl ha))
    · obtain ⟨g1, g2, g3⟩ := h3 r (List.mem_append.2 (.inl hr))
      refine ⟨g1, fun k hk => ⟨(g2 k hk).1, ?_⟩, fun k hk _ => g3 k hk (hA r hr k hk)⟩
      rintro (ha | hb | hc)
      · exact (g2 k hk).2 ((hS k).2 (.inl ha))
      · exact (g2 k hk).2 ((hS k).2 (.inr hb))
      · exact hc.2.2 r hr hk
  · intro P' w' rows' hC
    obtain ⟨S', ⟨A', D', hA', ⟨B', R', hB', ⟨hR1, hR2⟩, hd2, hS2⟩, hd', hS'⟩, -, h3'⟩ := hC.all
    have hin : ∀ k, k < w.heap.size → ¬ S k → (∀ r ∈ rowsA, r.1.ownBlock ≠ some k) → R' k ∧ k < w'.heap.size ∧ w'.heap[k]? = w.heap[k]? := fun k k1 k2 k3 => ⟨(hR1 k).2 ⟨k1, k2, k3⟩, hR2 k ⟨k1, k2, k3⟩⟩
    have hold : ∀ k, k < w0.heap.size → R' k ∧ k < w'.heap.size ∧ w'.heap[k]? = w.heap[k]? := fun k hk => hin k (by omega) (fun hs => by have := h2 k hs; omega) (fun r hr e => by have := hA r hr k e; omega)
    have hB : ∀ r ∈ rowsB, ∀ k, r.1.ownBlock = some k → R' k ∧ k < w'.heap.size ∧ w'.heap[k]? = w.heap[k]? := fun r hr k hk => by
      have g := (h3 r (List.mem_append.2 (.inr hr))).2.1 k hk
      exact hin k g.1 g.2 (fun r1 hr1 e => hAB r1 hr1 r hr k e hk)
    have hrows : ∀ r ∈ rows', ∀ k, r.1.ownBlock = some k → ¬ R' k := fun r hr k hk hr' => ((h3' r hr).2.1 k hk).2 ((hS' k).2 (.inr ((hS2 k).2 (.inr hr'))))
    refine ⟨fun r hr k hk => ⟨?_, fun r2 hr2 e => hrows r hr k hk (hB r2 hr2 k e).1⟩, hC.okP, h.okQ, ?_, fun k => A' k ∨ B' k, ⟨A', B', hA', hB', fun k ha hb => hd' k ha ((hS2 k).2 (.inl hb)), fun _ => Iff.rfl⟩, ?_, ?_⟩
    · by_cases hk0 : k < w0.heap.size
      · exact absurd (hold k hk0).1 (hrows r hr k hk)
      · omega
    · refine ⟨hC.upd.os.trans h.upd.os, hC.upd.output.trans h.upd.output, ?_, fun k hk _ => ?_⟩
      · by_cases hz : w0.heap.size = 0
        · omega
        · have := (hold (w0.heap.size - 1) (by omega)).2.1
          omega
      · rw [(hold k hk).2.2]
        exact h.upd.block k hk (fun f => f)
    · intro k hk
      by_cases hk0 : k < w0.heap.size
      · have hr := (hold k hk0).1
        rcases hk with ha | hb
        · exact absurd ((hS2 k).2 (.inr hr)) (hd' k ha)
        · exact absurd hr (hd2 k hb)
      · omega
    · intro r hr
      rcases List.mem_append.1 hr with hr | hr
      · obtain ⟨g1, g2, g3⟩ := h3' r hr
        refine ⟨g1, fun k hk => ⟨(g2 k hk).1, ?_⟩, fun k hk _ => g3 k hk (Nat.zero_le k)⟩
        rintro (ha | hb)
        · exact (g2 k hk).2 ((hS' k).2 (.inl ha))
        · exact (g2 k hk).2 ((hS' k).2 (.inr ((hS2 k).2 (.inl hb))))
      · obtain ⟨g1, g2, g3⟩ := h3 r (List.mem_append.2 (.inr hr))
        refine ⟨rs_block g1 (fun k hk => (hB r hr k hk).2), fun k hk => ⟨(hB r hr k hk).2.1, ?_⟩, fun k hk h0 j => ?_⟩
        · have hr' := (hB r hr k hk).1
          rintro (ha | hb)
          · exact hd' k ha ((hS2 k).2 (.inr hr'))
          · exact hd2 k hb hr'
        · rw [← g3 k hk h0 j]
          simp [World.frozen?, (hB r hr k hk).2.2]
end Go.Proofs.YteombggfmeilaaaGreat
