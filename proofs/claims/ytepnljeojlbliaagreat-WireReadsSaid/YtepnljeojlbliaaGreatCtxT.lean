/- Phases that are appended, in a slice of the call's own. · All phases but the first one. -/
import Derived.Test.YtepnljeojlbliaaGreatWireJ
import Derived.Test.YtepnljeojlbliaaGreatLane
import Derived.Test.YtepnljeojlbliaaGreatCtxW
namespace Go.Proofs.YtepnljeojlbliaaGreat
open Go.RowKit
theorem own_upd {S : Nat → Prop} {w w' : World} {e : TypeId} {size n : Nat} {v : Value} {xs : List Value} (h : w.ownsRow 0 e size v n xs) (u : Upd S w w') (hS : ∀ k, v.ownBlock = some k → ¬ S k) : w'.ownsRow 0 e size v n xs := by
  obtain ⟨h1, h2⟩ := h
  refine ⟨h1, ?_⟩
  rcases h2 with h2 | ⟨g, cap, cur, hv, hg, hh, r⟩
  · exact Or.inl h2
  · exact Or.inr ⟨g, cap, cur, hv, hg, by rw [u.block g (Array.getElem?_eq_some_iff.1 hh).1 (hS g (by rw [hv]; rfl))]; exact hh, r⟩
theorem info_ph : (Tryz.prog.info? 156).map (fun i => (i.zero, i.size, i.bytes)) = some (some (.agg #[.int .i64 0, .slice none 0 0, .int .i64 0, .int .i64 0]), 4, 48) := by kernel_rfl
theorem phCells_one (p : Ph) (a : Option Addr) (n c : Nat) : ∀ u ∈ phCells (p, .slice a n c), u.oneCell' = true := by
  intro u hu
  simp only [phCells, List.mem_cons, List.not_mem_nil, or_false] at hu
  rcases hu with rfl | rfl | rfl | rfl <;> rfl
/-- Phases in a slice of the call's own. -/
def RowF (v : Value) (n : Nat) (cs : List Value) : Own := fun w S => w.ownsRow 0 156 4 v n cs ∧ ∀ k, S k ↔ v.ownBlock = some k
theorem rowF_ok (v : Value) (n : Nat) (cs : List Value) : (RowF v n cs).Ok := ⟨fun h u hT => ⟨own_upd h.1 u (fun k hk => hT k ((h.2 k).2 hk)), h.2⟩, fun h k hk => (World.ownsRow.lt h.1 k ((h.2 k).1 hk)).2⟩
/-- What an appended phase leaves. -/
theorem wpList_ph1 {w : World} {ops : Array Oper} {rest : List Oper} {o : Oper} {a : Act} {Q : Exit → Act → World → Prop} (hgd : o.guard = none) (s x : Operand)
    (ho : o.op = .call { callee := .builtin .append, args := #[s, x], argTypes := #[61, 61] })
    (v : Value) (n : Nat) (cs : List Value) (hs : a.eval s = v) (w0 : World) (ps : List Value) (hp : ps.length = 4) (h1 : ∀ u ∈ ps, u.oneCell' = true) (hA : w.Alike (w0.alloc (.cells ps.toArray 156))) (hown : w0.ownsRow 0 156 4 v n cs)
    (hx : a.eval x = .slice (some ⟨w0.heap.size, 0, none⟩) 1 1) (hlen : n ≤ 1000)
    (h : ∀ g cap w', w'.ownsRow 0 156 4 (.slice (some ⟨g, 0, none⟩) (n + 1) cap) (n + 1) (cs ++ ps) → Upd (fun k => v.ownBlock = some k) w0 w' → (v.ownBlock = some g ∨ w0.heap.size ≤ g) → g < w'.heap.size → wpList Tryz.prog ops Q rest (a.put o.dst (.slice (some ⟨g, 0, none⟩) (n + 1) cap)) w') : wpList Tryz.prog ops Q (o :: rest) a w := by
  obtain ⟨i0, hi0, hz0, hz1, hz2⟩ := info_parts info_ph
  have hU : Upd none' w0 w := ((Upd.refl none' w0).alloc _).alike hA
  refine wpList_append_lies w hgd s x 61 ho 0 156 i0 _ 4 48 Tryz.underlying61 hi0 hz0 hz1 hz2 rfl (by decide) v n cs hs (own_upd hown hU (fun _ _ f => f)) ⟨w0.heap.size, 0, none⟩ 1 1 ps hx (by omega) ?_ h1 (by decide) (by unfold maxLen; omega) (by omega) (Nat.zero_le _) w.heap.size rfl ?_
  · intro j u' hj
    have := (Blk.new w0 ps 156).alike hA
    have hc := this.cell j
    rw [hj] at hc
    have ea : (⟨w0.heap.size, 0, none⟩ : Addr).add j = ⟨w0.heap.size, j, none⟩ := by unfold Addr.add; split <;> simp_all
    rw [ea]; exact hc
  · intro g cap w' h2 h3 h4 h5
    refine h g cap w' h2 ((hU.mono (fun _ _ f => f.elim)).trans ((Upd.refl _ w).grown h3 (fun k hk _ => hk)) (fun _ _ k => k)) ?_ h5
    rcases h4 with h4 | h4
    · exact .inl h4
    · exact .inr (by rw [h4]; exact hU.size)
theorem step_ph1 {w : World} {ops : Array Oper} {o : Oper} {a : Act} {K : Act → World → Prop} {Q : Exit → Act → World → Prop} {E : Prop} (hgd : o.guard = none) (s x : Operand)
    (ho : o.op = .call { callee := .builtin .append, args := #[s, x], argTypes := #[61, 61] })
    (v : Value) (n : Nat) (cs : List Value) (hs : a.eval s = v) (w0 : World) (ps : List Value) (hp : ps.length = 4) (h1 : ∀ u ∈ ps, u.oneCell' = true) (hA : w.Alike (w0.alloc (.cells ps.toArray 156))) (hown : w0.ownsRow 0 156 4 v n cs)
    (hx : a.eval x = .slice (some ⟨w0.heap.size, 0, none⟩) 1 1) (hlen : n ≤ 1000)
    (h : ∀ g cap w', w'.ownsRow 0 156 4 (.slice (some ⟨g, 0, none⟩) (n + 1) cap) (n + 1) (cs ++ ps) → Upd (fun k => v.ownBlock = some k) w0 w' → (v.ownBlock = some g ∨ w0.heap.size ≤ g) → g < w'.heap.size → K (a.put o.dst (.slice (some ⟨g, 0, none⟩) (n + 1) cap)) w') :
    if Region.wanted o (yielded ops a.tmps) = true then Oper.wp Tryz.prog o a w K Q else E := by
  obtain ⟨i0, hi0, hz0, hz1, hz2⟩ := info_parts info_ph
  have hU : Upd none' w0 w := ((Upd.refl none' w0).alloc _).alike hA
  refine step_append_lies w hgd s x 61 ho 0 156 i0 _ 4 48 Tryz.underlying61 hi0 hz0 hz1 hz2 rfl (by decide) v n cs hs (own_upd hown hU (fun _ _ f => f)) ⟨w0.heap.size, 0, none⟩ 1 1 ps hx (by omega) ?_ h1 (by decide) (by unfold maxLen; omega) (by omega) (Nat.zero_le _) w.heap.size rfl ?_
  · intro j u' hj
    have := (Blk.new w0 ps 156).alike hA
    have hc := this.cell j
    rw [hj] at hc
    have ea : (⟨w0.heap.size, 0, none⟩ : Addr).add j = ⟨w0.heap.size, j, none⟩ := by unfold Addr.add; split <;> simp_all
    rw [ea]; exact hc
  · intro g cap w' h2 h3 h4 h5
    refine h g cap w' h2 ((hU.mono (fun _ _ f => f.elim)).trans ((Upd.refl _ w).grown h3 (fun k hk _ => hk)) (fun _ _ k => k)) ?_ h5
    rcases h4 with h4 | h4
    · exact .inl h4
    · exact .inr (by rw [h4]; exact hU.size)
theorem Ctx.phNew {P Q : Own} {w0 w : World} {rows : List (Value × List Value)} (hC : Ctx P Q w0 w rows) (cs : List Value) (hl : cs.length = 4) : Ctx P ((RowF (.slice (some ⟨w.heap.size, 0, none⟩) 1 1) 1 cs).star Q) w0 (w.alloc (.cells cs.toArray 156)) rows := by
  have h := World.ownsRow_lit (base := 0) (e := 156) (size := 4) w cs.toArray 1 (Nat.zero_le _) (by unfold maxLen; omega) (by simpa using hl)
  refine hC.add2 (rowF_ok _ _ _) ((Upd.refl none' w).alloc _) (B := fun k => k = w.heap.size) ⟨by simpa using h, fun k => ?_⟩ (fun k hk => by omega)
  simp only [Value.ownBlock, Option.some.injEq]
  exact ⟨fun h => h.symm, fun h => h.symm⟩
theorem Ctx.phGet {P Q : Own} {w0 w : World} {rows : List (Value × List Value)} {v : Value} {n : Nat} {cs : List Value} (hC : Ctx P ((RowF v n cs).star Q) w0 w rows) : w.ownsRow 0 156 4 v n cs := by
  obtain ⟨S, h1, _⟩ := hC.get2
  exact h1.1
theorem Ctx.phStep {P Q : Own} {w0 w w' : World} {rows : List (Value × List Value)} {v v' : Value} {n n' : Nat} {cs cs' : List Value} (hQ : Q.Ok) (hC : Ctx P ((RowF v n cs).star Q) w0 w rows) (hR : w'.ownsRow 0 156 4 v' n' cs') (hU : Upd (fun k => v.ownBlock = some k) w w') (hv : ∀ k, v'.ownBlock = some k → v.ownBlock = some k ∨ w.heap.size ≤ k) : Ctx P ((RowF v' n' cs').star Q) w0 w' rows := by
  refine hC.step2 (rowF_ok v n cs) hQ (rowF_ok v' n' cs') ?_
  rintro S ⟨h1, h2⟩
  exact ⟨fun k => v'.ownBlock = some k, ⟨hR, fun _ => Iff.rfl⟩, fun k hk => (hv k hk).imp (fun h => (h2 k).2 h) id, hU.mono (fun k _ hk => (h2 k).2 hk)⟩
/-- The slice is whole: it is read from now on. -/
theorem Ctx.phDone {P Q : Own} {w0 w : World} {rows : List (Value × List Value)} {g n c : Nat} {L : List (Ph × Value)} (hQ : Q.Ok) (hC : Ctx P ((RowF (.slice (some ⟨g, 0, none⟩) n c) n (L.flatMap phCells)).star Q) w0 w rows) (hn : n ≤ 1000) (hb : ∀ x ∈ L, (x.2, ints x.1.bytes) ∈ rows) :
    Ctx P Q w0 w ((.slice (some ⟨g, 0, none⟩) (4 * n) (4 * n), L.flatMap phCells) :: rows) ∧ PhsV ((.slice (some ⟨g, 0, none⟩) (4 * n) (4 * n), L.flatMap phCells) :: rows) (.slice (some ⟨g, 0, none⟩) n c) L := by
  obtain ⟨S, ⟨A, D, hA, ⟨B, C, hB, hC', d1, e1⟩, d2, e2⟩, h2, h3⟩ := hC.all
  have hlen := hB.1.1
  have hll : L.length = n := by rw [flat4_len] at hlen; omega
  have hcap : n ≤ c ∧ g < w.heap.size ∧ ∀ j, j < 4 * n → w.cell? ⟨g, 0 + j, none⟩ = (L.flatMap phCells)[j]? := by
    obtain ⟨q1, q2⟩ := hB.1
    rcases q2 with ⟨q, _⟩ | ⟨g', cap, cur, hv, _, hh, r1, _⟩
    · cases q
    · simp only [Value.slice.injEq, Option.some.injEq, Addr.mk.injEq, and_true, true_and] at hv
      obtain ⟨rfl, rfl⟩ := hv
      exact ⟨r1, (Array.getElem?_eq_some_iff.1 hh).1, fun j hj => by rw [Nat.zero_add]; exact World.ownsRow.cellAt hB.1 j (by omega)⟩
  refine ⟨⟨hC.okP, hQ, hC.upd, fun k => A k ∨ C k, ⟨A, C, hA, hC', fun k ha hc => d2 k ha ((e1 k).2 (.inr hc)), fun _ => Iff.rfl⟩, fun k hk => h2 k ((e2 k).2 (hk.imp id fun hc => (e1 k).2 (.inr hc))), fun r hr => ?_⟩, some ⟨g, 0, none⟩, c, by rw [hll], by omega, fun h => (by cases h), by omega, .inr (by rw [hll]; exact List.mem_cons_self), fun x hx => ⟨(ph_form hC (hb x hx)).1, (ph_form hC (hb x hx)).2, .inr (List.mem_cons_of_mem _ (hb x hx))⟩⟩
  rcases List.mem_cons.1 hr with rfl | hr
  · refine ⟨⟨by rw [flat4_len]; omega, some ⟨g, 0, none⟩, 4 * n, by rw [flat4_len, hll], by rw [flat4_len, hll]; exact Nat.le_refl _, fun _ => ⟨g, 0, rfl, hcap.2.1, fun j hj => hcap.2.2 j (by rw [flat4_len, hll] at hj; exact hj)⟩⟩, fun k hk => ?_⟩
    have hbk := (hB.2 k).2 (by simpa [Value.ownBlock] using hk)
    simp only [Value.ownBlock, Option.some.injEq] at hk
    refine ⟨by rw [← hk]; exact hcap.2.1, ?_⟩
    rintro (h | h)
    · exact d2 k h ((e1 k).2 (.inl hbk))
    · exact d1 k hbk h
  · exact ⟨(h3 r hr).1, fun k hk => ⟨((h3 r hr).2 k hk).1, fun hs => ((h3 r hr).2 k hk).2 ((e2 k).2 (hs.imp id fun hc => (e1 k).2 (.inr hc)))⟩⟩
end Go.Proofs.YtepnljeojlbliaaGreat
namespace Go.Proofs.YtepnljeojlbliaaGreat
open Go.RowKit
theorem phs_tail {P Q : Own} {w0 w : World} {R : List (Value × List Value)} (hC : Ctx P Q w0 w R) {g o n cap : Nat} {x : Ph × Value} {L : List (Ph × Value)} (hP : PhsV R (.slice (some ⟨g, o, none⟩) n cap) (x :: L)) :
    ∃ R', Ctx P Q w0 w R' ∧ (∀ r ∈ R, r ∈ R') ∧ PhsV R' (.slice (some ⟨g, o + 4, none⟩) (n - 1) (cap - 1)) L := by
  obtain ⟨a, cap', e, h2, h3, h4, h5, h6⟩ := hP
  simp only [Value.slice.injEq] at e
  obtain ⟨rfl, rfl, rfl⟩ := e
  have hm := h5.resolve_left (by simp)
  obtain ⟨i, hi, hgi⟩ := List.getElem_of_mem hm
  have hi2 : R[i]? = some (.slice (some ⟨g, o, none⟩) (4 * (x :: L).length) (4 * (x :: L).length), (x :: L).flatMap phCells) := by rw [List.getElem?_eq_getElem hi, hgi]
  have ht := hC.tail i hi2 4 (by rw [List.length_cons]; omega)
  have e1 : 4 * (x :: L).length - 4 = 4 * L.length := by rw [List.length_cons]; omega
  have e2 : ((x :: L).flatMap phCells).drop 4 = L.flatMap phCells := by rw [List.flatMap_cons]; rfl
  rw [e1, e2] at ht
  refine ⟨_, ht, fun r hr => List.mem_cons_of_mem _ hr, some ⟨g, o + 4, none⟩, cap - 1, by rw [List.length_cons]; rfl, by rw [List.length_cons] at h2; omega, fun h => (by cases h), by rw [List.length_cons] at h4; omega, .inr List.mem_cons_self, fun y hy => ?_⟩
  obtain ⟨k1, k2, k3⟩ := h6 y (List.mem_cons_of_mem _ hy)
  exact ⟨k1, k2, k3.imp id (List.mem_cons_of_mem _)⟩
/-- A phase's slice is among the rows, or empty. -/
def PhOk (rows : List (Value × List Value)) (x : Ph × Value) : Prop := (∃ a c, x.2 = .slice a x.1.bytes.length c ∧ x.1.bytes.length ≤ c) ∧ x.1.bytes.length * 8 ≤ 140737488351232 ∧ (x.1.bytes = [] ∨ (x.2, ints x.1.bytes) ∈ rows)
theorem PhsV.ok {rows : List (Value × List Value)} {v : Value} {L : List (Ph × Value)} (h : PhsV rows v L) : ∀ x ∈ L, PhOk rows x := by
  obtain ⟨a, cap, h1, h2, h3, h4, h5, h6⟩ := h
  exact h6
theorem PhOk.sub {rows rows' : List (Value × List Value)} {x : Ph × Value} (h : PhOk rows x) (hs : ∀ r ∈ rows, r ∈ rows') : PhOk rows' x := ⟨h.1, h.2.1, h.2.2.imp id (hs _)⟩
theorem phOk_nil (rows : List (Value × List Value)) (l c r : Int) : PhOk rows (⟨l, [], c, r⟩, .slice none 0 0) := ⟨⟨none, 0, rfl, Nat.le_refl _⟩, Nat.zero_le _, .inl rfl⟩
theorem phs_nil (rows : List (Value × List Value)) : PhsV rows (.slice none 0 0) [] := ⟨none, 0, rfl, Nat.le_refl _, fun _ => rfl, Nat.zero_le _, .inl rfl, fun x hx => by cases hx⟩
/-- Phases that have just been laid, whose bytes lie among the rows, or are none. -/
theorem phs_lit2 {P Q : Own} {w0 w : World} {rows : List (Value × List Value)} (hC : Ctx P Q w0 w rows) (L : List (Ph × Value)) (n : Nat) (hn : L.length = n) (hl : n ≤ 1000) (hb : ∀ x ∈ L, PhOk rows x) :
    Ctx P Q w0 (w.alloc (.cells (L.flatMap phCells).toArray 156)) ((.slice (some ⟨w.heap.size, 0, none⟩) (4 * n) (4 * n), L.flatMap phCells) :: rows) ∧ PhsV ((.slice (some ⟨w.heap.size, 0, none⟩) (4 * n) (4 * n), L.flatMap phCells) :: rows) (.slice (some ⟨w.heap.size, 0, none⟩) n n) L := by
  subst hn
  exact ⟨hC.lit _ _ (4 * L.length) (flat4_len L) (by omega), some ⟨w.heap.size, 0, none⟩, L.length, rfl, Nat.le_refl _, fun h => (by cases h), by omega, .inr List.mem_cons_self, fun x hx => (hb x hx).sub fun r hr => List.mem_cons_of_mem _ hr⟩
/-- Rows that were made, for one who begins anew here. -/
theorem Ctx.asOld {P Q : Own} {w0 w : World} {rows : List (Value × List Value)} (h : Ctx P Q w0 w rows) : ∀ r ∈ rows, RS w r.1 r.2 ∧ ∀ k, r.1.ownBlock = some k → k < w.heap.size := by
  obtain ⟨S, h1, h2, h3⟩ := h.all
  exact fun r hr => ⟨(h3 r hr).1, fun k hk => ((h3 r hr).2 k hk).1⟩
end Go.Proofs.YtepnljeojlbliaaGreat
