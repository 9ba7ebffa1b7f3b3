/- Phases that are appended, in a slice of the call's own. · All phases but the first one. · table.Find, fits; what a command's phases are, in plain. · table.fits, the closure of table.Command; what a command's phases are, in plain. · slices.ContainsFunc of numbers, with one function. -/
import Derived.Test.YteombggfmeilaaaGreatWireH
import Derived.Test.YteombggfmeilaaaGreatLane
import Derived.Test.YteombggfmeilaaaGreatCtxW
import Derived.Test.YteombggfmeilaaaGreatOpOf
import Derived.Test.YteombggfmeilaaaGreatChip
import Derived.Test.YteombggfmeilaaaGreatWireB
import Derived.Test.YteombggfmeilaaaGreatWireM
namespace Go.Proofs.YteombggfmeilaaaGreat
open Go.RowKit
theorem own_upd {S : Nat → Prop} {w w' : World} {e : TypeId} {size n : Nat} {v : Value} {xs : List Value} (h : w.ownsRow 0 e size v n xs) (u : Upd S w w') (hS : ∀ k, v.ownBlock = some k → ¬ S k) : w'.ownsRow 0 e size v n xs := by
  obtain ⟨h1, h2⟩ := h
  refine ⟨h1, ?_⟩
  rcases h2 with h2 | ⟨g, cap, cur, hv, hg, hh, r⟩
  · exact Or.inl h2
  · exact Or.inr ⟨g, cap, cur, hv, hg, by rw [u.block g (Array.getElem?_eq_some_iff.1 hh).1 (hS g (by rw [hv]; rfl))]; exact hh, r⟩
theorem info_ph : (Tryz.prog.info? 156).map (fun i => (i.zero, i.size, i.bytes)) = some (some (.agg #[.int .i64 0, .slice none 0 0, .int .i64 0, .int .i64 0]), 4, 48) := by kernel_rfl
theorem phCells_one (p : Ph) (a : Option Addr) (n c : Nat) : ∀ u ∈ phCells (p, .slice a n c), u.oneCell' = true := by
  intro u hu
  simp only [phCells, List.mem_cons, List.not_mem_nil, or_false] at hu
  rcases hu with rfl | rfl | rfl | rfl <;> rfl
/-- Phases in a slice of the call's own. -/
def RowF (v : Value) (n : Nat) (cs : List Value) : Own := fun w S => w.ownsRow 0 156 4 v n cs ∧ ∀ k, S k ↔ v.ownBlock = some k
theorem rowF_ok (v : Value) (n : Nat) (cs : List Value) : (RowF v n cs).Ok := ⟨fun h u hT => ⟨own_upd h.1 u (fun k hk => hT k ((h.2 k).2 hk)), h.2⟩, fun h k hk => (World.ownsRow.lt h.1 k ((h.2 k).1 hk)).2⟩
/-- What an appended phase leaves. -/
theorem wpList_ph1 {w : World} {ops : Array Oper} {rest : List Oper} {o : Oper} {a : Act} {Q : Exit → Act → World → Prop} (hgd : o.guard = none) (s x : Operand)
    (ho : o.op = .call { callee := .builtin .append, args := #[s, x], argTypes := #[61, 61] })
    (v : Value) (n : Nat) (cs : List Value) (hs : a.eval s = v) (w0 : World) (ps : List Value) (hp : ps.length = 4) (h1 : ∀ u ∈ ps, u.oneCell' = true) (hA : w.Alike (w0.alloc (.cells ps.toArray 156))) (hown : w0.ownsRow 0 156 4 v n cs)
    (hx : a.eval x = .slice (some ⟨w0.heap.size, 0, none⟩) 1 1) (hlen : n ≤ 1000)
    (h : ∀ g cap w', w'.ownsRow 0 156 4 (.slice (some ⟨g, 0, none⟩) (n + 1) cap) (n + 1) (cs ++ ps) → Upd (fun k => v.ownBlock = some k) w0 w' → (v.ownBlock = some g ∨ w0.heap.size ≤ g) → g < w'.heap.size → wpList Tryz.prog ops Q rest (a.put o.dst (.slice (some ⟨g, 0, none⟩) (n + 1) cap)) w') : wpList Tryz.prog ops Q (o :: rest) a w := by
  obtain ⟨i0, hi0, hz0, hz1, hz2⟩ := info_parts info_ph
  have hU : Upd none' w0 w := ((Upd.refl none' w0).alloc _).alike hA
  refine wpList_append_lies w hgd s x 61 ho 0 156 i0 _ 4 48 Tryz.underlying61 hi0 hz0 hz1 hz2 rfl (by decide) v n cs hs (own_upd hown hU (fun _ _ f => f)) ⟨w0.heap.size, 0, none⟩ 1 1 ps hx (by omega) ?_ h1 (by decide) (by unfold maxLen; omega) (by omega) (Nat.zero_le _) w.heap.size rfl ?_
  · intro j u' hj
    have := (Blk.new w0 ps 156).alike hA
    have hc := this.cell j
    rw [hj] at hc
    have ea : (⟨w0.heap.size, 0, none⟩ : Addr).add j = ⟨w0.heap.size, j, none⟩ := by unfold Addr.add; split <;> simp_all
    rw [ea]; exact hc
  · intro g cap w' h2 h3 h4 h5
    refine h g cap w' h2 ((hU.mono (fun _ _ f => f.elim)).trans ((Upd.refl _ w).grown h3 (fun k hk _ => hk)) (fun _ _ k => k)) ?_ h5
    rcases h4 with h4 | h4
    · exact .inl h4
    · exact .inr (by rw [h4]; exact hU.size)
theorem step_ph1 {w : World} {ops : Array Oper} {o : Oper} {a : Act} {K : Act → World → Prop} {Q : Exit → Act → World → Prop} {E : Prop} (hgd : o.guard = none) (s x : Operand)
    (ho : o.op = .call { callee := .builtin .append, args := #[s, x], argTypes := #[61, 61] })
    (v : Value) (n : Nat) (cs : List Value) (hs : a.eval s = v) (w0 : World) (ps : List Value) (hp : ps.length = 4) (h1 : ∀ u ∈ ps, u.oneCell' = true) (hA : w.Alike (w0.alloc (.cells ps.toArray 156))) (hown : w0.ownsRow 0 156 4 v n cs)
    (hx : a.eval x = .slice (some ⟨w0.heap.size, 0, none⟩) 1 1) (hlen : n ≤ 1000)
    (h : ∀ g cap w', w'.ownsRow 0 156 4 (.slice (some ⟨g, 0, none⟩) (n + 1) cap) (n + 1) (cs ++ ps) → Upd (fun k => v.ownBlock = some k) w0 w' → (v.ownBlock = some g ∨ w0.heap.size ≤ g) → g < w'.heap.size → K (a.put o.dst (.slice (some ⟨g, 0, none⟩) (n + 1) cap)) w') :
    if Region.wanted o (yielded ops a.tmps) = true then Oper.wp Tryz.prog o a w K Q else E := by
  obtain ⟨i0, hi0, hz0, hz1, hz2⟩ := info_parts info_ph
  have hU : Upd none' w0 w := ((Upd.refl none' w0).alloc _).alike hA
  refine step_append_lies w hgd s x 61 ho 0 156 i0 _ 4 48 Tryz.underlying61 hi0 hz0 hz1 hz2 rfl (by decide) v n cs hs (own_upd hown hU (fun _ _ f => f)) ⟨w0.heap.size, 0, none⟩ 1 1 ps hx (by omega) ?_ h1 (by decide) (by unfold maxLen; omega) (by omega) (Nat.zero_le _) w.heap.size rfl ?_
  · intro j u' hj
    have := (Blk.new w0 ps 156).alike hA
    have hc := this.cell j
    rw [hj] at hc
    have ea : (⟨w0.heap.size, 0, none⟩ : Addr).add j = ⟨w0.heap.size, j, none⟩ := by unfold Addr.add; split <;> simp_all
    rw [ea]; exact hc
  · intro g cap w' h2 h3 h4 h5
    refine h g cap w' h2 ((hU.mono (fun _ _ f => f.elim)).trans ((Upd.refl _ w).grown h3 (fun k hk _ => hk)) (fun _ _ k => k)) ?_ h5
    rcases h4 with h4 | h4
    · exact .inl h4
    · exact .inr (by rw [h4]; exact hU.size)
theorem Ctx.phNew {P Q : Own} {w0 w : World} {rows : List (Value × List Value)} (hC : Ctx P Q w0 w rows) (cs : List Value) (hl : cs.length = 4) : Ctx P ((RowF (.slice (some ⟨w.heap.size, 0, none⟩) 1 1) 1 cs).star Q) w0 (w.alloc (.cells cs.toArray 156)) rows := by
  have h := World.ownsRow_lit (base := 0) (e := 156) (size := 4) w cs.toArray 1 (Nat.zero_le _) (by unfold maxLen; omega) (by simpa using hl)
  refine hC.add2 (rowF_ok _ _ _) ((Upd.refl none' w).alloc _) (B := fun k => k = w.heap.size) ⟨by simpa using h, fun k => ?_⟩ (fun k hk => by omega)
  simp only [Value.ownBlock, Option.some.injEq]
  exact ⟨fun h => h.symm, fun h => h.symm⟩
theorem Ctx.phGet {P Q : Own} {w0 w : World} {rows : List (Value × List Value)} {v : Value} {n : Nat} {cs : List Value} (hC : Ctx P ((RowF v n cs).star Q) w0 w rows) : w.ownsRow 0 156 4 v n cs := by
  obtain ⟨S, h1, _⟩ := hC.get2
  exact h1.1
theorem Ctx.phStep {P Q : Own} {w0 w w' : World} {rows : List (Value × List Value)} {v v' : Value} {n n' : Nat} {cs cs' : List Value} (hQ : Q.Ok) (hC : Ctx P ((RowF v n cs).star Q) w0 w rows) (hR : w'.ownsRow 0 156 4 v' n' cs') (hU : Upd (fun k => v.ownBlock = some k) w w') (hv : ∀ k, v'.ownBlock = some k → v.ownBlock = some k ∨ w.heap.size ≤ k) : Ctx P ((RowF v' n' cs').star Q) w0 w' rows := by
  refine hC.step2 (rowF_ok v n cs) hQ (rowF_ok v' n' cs') ?_
  rintro S ⟨h1, h2⟩
  exact ⟨fun k => v'.ownBlock = some k, ⟨hR, fun _ => Iff.rfl⟩, fun k hk => (hv k hk).imp (fun h => (h2 k).2 h) id, hU.mono (fun k _ hk => (h2 k).2 hk)⟩
/-- The slice is whole: it is read from now on. -/
theorem Ctx.phDone {P Q : Own} {w0 w : World} {rows : List (Value × List Value)} {g n c : Nat} {L : List (Ph × Value)} (hQ : Q.Ok) (hC : Ctx P ((RowF (.slice (some ⟨g, 0, none⟩) n c) n (L.flatMap phCells)).star Q) w0 w rows) (hn : n ≤ 1000) (hb : ∀ x ∈ L, (x.2, ints x.1.bytes) ∈ rows) :
    Ctx P Q w0 w ((.slice (some ⟨g, 0, none⟩) (4 * n) (4 * n), L.flatMap phCells) :: rows) ∧ PhsV ((.slice (some ⟨g, 0, none⟩) (4 * n) (4 * n), L.flatMap phCells) :: rows) (.slice (some ⟨g, 0, none⟩) n c) L := by
  obtain ⟨S, ⟨A, D, hA, ⟨B, C, hB, hC', d1, e1⟩, d2, e2⟩, h2, h3⟩ := hC.all
  have hlen := hB.1.1
  have hll : L.length = n := by rw [flat4_len] at hlen; omega
  have hcap : n ≤ c ∧ g < w.heap.size ∧ ∀ j, j < 4 * n → w.cell? ⟨g, 0 + j, none⟩ = (L.flatMap phCells)[j]? := by
    obtain ⟨q1, q2⟩ := hB.1
    rcases q2 with ⟨q, _⟩ | ⟨g', cap, cur, hv, _, hh, r1, _⟩
    · cases q
    · simp only [Value.slice.injEq, Option.some.injEq, Addr.mk.injEq, and_true, true_and] at hv
      obtain ⟨rfl, rfl⟩ := hv
      exact ⟨r1, (Array.getElem?_eq_some_iff.1 hh).1, fun j hj => by rw [Nat.zero_add]; exact World.ownsRow.cellAt hB.1 j (by omega)⟩
  refine ⟨⟨hC.okP, hQ, hC.upd, fun k => A k ∨ C k, ⟨A, C, hA, hC', fun k ha hc => d2 k ha ((e1 k).2 (.inr hc)), fun _ => Iff.rfl⟩, fun k hk => h2 k ((e2 k).2 (hk.imp id fun hc => (e1 k).2 (.inr hc))), fun r hr => ?_⟩, some ⟨g, 0, none⟩, c, by rw [hll], by omega, fun h => (by cases h), by omega, .inr (by rw [hll]; exact List.mem_cons_self), fun x hx => ⟨(ph_form hC (hb x hx)).1, (ph_form hC (hb x hx)).2, .inr (List.mem_cons_of_mem _ (hb x hx))⟩⟩
  rcases List.mem_cons.1 hr with rfl | hr
  · refine ⟨⟨by rw [flat4_len]; omega, some ⟨g, 0, none⟩, 4 * n, by rw [flat4_len, hll], by rw [flat4_len, hll]; exact Nat.le_refl _, fun _ => ⟨g, 0, rfl, hcap.2.1, fun j hj => hcap.2.2 j (by rw [flat4_len, hll] at hj; exact hj)⟩⟩, fun k hk => ?_, fun k hk _ j => by
      simp only [Value.ownBlock, Option.some.injEq] at hk
      rw [← hk]
      exact World.ownsRow.frozenAt hB.1 j⟩
    have hbk := (hB.2 k).2 (by simpa [Value.ownBlock] using hk)
    simp only [Value.ownBlock, Option.some.injEq] at hk
    refine ⟨by rw [← hk]; exact hcap.2.1, ?_⟩
    rintro (h | h)
    · exact d2 k h ((e1 k).2 (.inl hbk))
    · exact d1 k hbk h
  · exact ⟨(h3 r hr).1, fun k hk => ⟨((h3 r hr).2.1 k hk).1, fun hs => ((h3 r hr).2.1 k hk).2 ((e2 k).2 (hs.imp id fun hc => (e1 k).2 (.inr hc)))⟩, (h3 r hr).2.2⟩
end Go.Proofs.YteombggfmeilaaaGreat
namespace Go.Proofs.YteombggfmeilaaaGreat
open Go.RowKit
theorem phs_tail {P Q : Own} {w0 w : World} {R : List (Value × List Value)} (hC : Ctx P Q w0 w R) {g o n cap : Nat} {x : Ph × Value} {L : List (Ph × Value)} (hP : PhsV R (.slice (some ⟨g, o, none⟩) n cap) (x :: L)) :
    ∃ R', Ctx P Q w0 w R' ∧ (∀ r ∈ R, r ∈ R') ∧ PhsV R' (.slice (some ⟨g, o + 4, none⟩) (n - 1) (cap - 1)) L := by
  obtain ⟨a, cap', e, h2, h3, h4, h5, h6⟩ := hP
  simp only [Value.slice.injEq] at e
  obtain ⟨rfl, rfl, rfl⟩ := e
  have hm := h5.resolve_left (by simp)
  obtain ⟨i, hi, hgi⟩ := List.getElem_of_mem hm
  have hi2 : R[i]? = some (.slice (some ⟨g, o, none⟩) (4 * (x :: L).length) (4 * (x :: L).length), (x :: L).flatMap phCells) := by rw [List.getElem?_eq_getElem hi, hgi]
  have ht := hC.tail i hi2 4 (by rw [List.length_cons]; omega)
  have e1 : 4 * (x :: L).length - 4 = 4 * L.length := by rw [List.length_cons]; omega
  have e2 : ((x :: L).flatMap phCells).drop 4 = L.flatMap phCells := by rw [List.flatMap_cons]; rfl
  rw [e1, e2] at ht
  refine ⟨_, ht, fun r hr => List.mem_cons_of_mem _ hr, some ⟨g, o + 4, none⟩, cap - 1, by rw [List.length_cons]; rfl, by rw [List.length_cons] at h2; omega, fun h => (by cases h), by rw [List.length_cons] at h4; omega, .inr List.mem_cons_self, fun y hy => ?_⟩
  obtain ⟨k1, k2, k3⟩ := h6 y (List.mem_cons_of_mem _ hy)
  exact ⟨k1, k2, k3.imp id (List.mem_cons_of_mem _)⟩
/-- A phase's slice is among the rows, or empty. -/
def PhOk (rows : List (Value × List Value)) (x : Ph × Value) : Prop := (∃ a c, x.2 = .slice a x.1.bytes.length c ∧ x.1.bytes.length ≤ c) ∧ x.1.bytes.length * 8 ≤ 140737488351232 ∧ (x.1.bytes = [] ∨ (x.2, ints x.1.bytes) ∈ rows)
theorem PhsV.ok {rows : List (Value × List Value)} {v : Value} {L : List (Ph × Value)} (h : PhsV rows v L) : ∀ x ∈ L, PhOk rows x := by
  obtain ⟨a, cap, h1, h2, h3, h4, h5, h6⟩ := h
  exact h6
theorem PhOk.sub {rows rows' : List (Value × List Value)} {x : Ph × Value} (h : PhOk rows x) (hs : ∀ r ∈ rows, r ∈ rows') : PhOk rows' x := ⟨h.1, h.2.1, h.2.2.imp id (hs _)⟩
theorem phOk_nil (rows : List (Value × List Value)) (l c r : Int) : PhOk rows (⟨l, [], c, r⟩, .slice none 0 0) := ⟨⟨none, 0, rfl, Nat.le_refl _⟩, Nat.zero_le _, .inl rfl⟩
theorem phs_nil (rows : List (Value × List Value)) : PhsV rows (.slice none 0 0) [] := ⟨none, 0, rfl, Nat.le_refl _, fun _ => rfl, Nat.zero_le _, .inl rfl, fun x hx => by cases hx⟩
/-- Phases that have just been laid, whose bytes lie among the rows, or are none. -/
theorem phs_lit2 {P Q : Own} {w0 w : World} {rows : List (Value × List Value)} (hC : Ctx P Q w0 w rows) (L : List (Ph × Value)) (n : Nat) (hn : L.length = n) (hl : n ≤ 1000) (hb : ∀ x ∈ L, PhOk rows x) :
    Ctx P Q w0 (w.alloc (.cells (L.flatMap phCells).toArray 156)) ((.slice (some ⟨w.heap.size, 0, none⟩) (4 * n) (4 * n), L.flatMap phCells) :: rows) ∧ PhsV ((.slice (some ⟨w.heap.size, 0, none⟩) (4 * n) (4 * n), L.flatMap phCells) :: rows) (.slice (some ⟨w.heap.size, 0, none⟩) n n) L := by
  subst hn
  exact ⟨hC.lit _ _ (4 * L.length) (flat4_len L) (by omega), some ⟨w.heap.size, 0, none⟩, L.length, rfl, Nat.le_refl _, fun h => (by cases h), by omega, .inr List.mem_cons_self, fun x hx => (hb x hx).sub fun r hr => List.mem_cons_of_mem _ hr⟩
/-- Rows that were made, for one who begins anew here. -/
theorem Ctx.asOld {P Q : Own} {w0 w : World} {rows : List (Value × List Value)} (h : Ctx P Q w0 w rows) : ∀ r ∈ rows, RS w r.1 r.2 ∧ ∀ k, r.1.ownBlock = some k → k < w.heap.size := by
  obtain ⟨S, h1, h2, h3⟩ := h.all
  exact fun r hr => ⟨(h3 r hr).1, fun k hk => ((h3 r hr).2.1 k hk).1⟩
end Go.Proofs.YteombggfmeilaaaGreat
namespace Go.Proofs.YteombggfmeilaaaGreat
open Go.RowKit
set_option maxHeartbeats 2000000 in
theorem tab_find (c : Int) (hc : opIs c = true) (w : World) :
    Calls Tryz.prog 125 #[.int .i64 c] w fun e w' => e = .returned (.tuple #[.agg (opOf c).cells, .int .i64 0]) ∧ Upd none' w w' := by
  have hof := op_of c hc
  obtain ⟨o, ho⟩ : ∃ o, opOf c = o := ⟨_, rfl⟩
  rw [ho] at hof ⊢
  obtain ⟨by', ad, mo, du, da, inn⟩ := o
  unfold POp.cells at hof ⊢
  dsimp only at hof ⊢
  clear ho
  go_enter Tryz.func125, Tryz.ntmps125
  go_wp2_with (go_at_call 179; refine (hof _).mono ?_; rintro e w1 ⟨rfl, hU1⟩; have hb := (Blk.new w [.int .i64 0, .int .i64 0, .bool false, .int .i64 0, .int .i64 0, .bool false] 52).upd hU1 (fun f => f); have c0 := hb.cell 0; have f0 := hb.frozen 0; have c1 := hb.cell 1; have f1 := hb.frozen 1; have c2 := hb.cell 2; have f2 := hb.frozen 2; have c3 := hb.cell 3; have f3 := hb.frozen 3; have c4 := hb.cell 4; have f4 := hb.frozen 4; have c5 := hb.cell 5; have f5 := hb.frozen 5; simp only [List.getElem?_cons_succ, List.getElem?_cons_zero] at c0 c1 c2 c3 c4 c5; have HU1 := Lib.hid hU1; have hlt1 := hb.lt; have HB := Lib.hid hb; clear hb hU1)
  clear c0 c1 c2 c3 c4 c5 f0 f1 f2 f3 f4 f5
  have hno : w.heap.size < w.heap.size → none' w.heap.size := fun h => absurd h (Nat.lt_irrefl _)
  have HU1' := ((Upd.refl none' w).alloc (.cells #[.int .i64 0, .int .i64 0, .bool false, .int .i64 0, .int .i64 0, .bool false] 52)).trans HU1.out (fun _ _ f => f)
  have hb2 := ((((((HB.out.set 0 (.int .i64 by')).set 1 (.int .i64 ad)).set 2 (.bool mo)).set 3 (.int .i64 du)).set 4 (.int .i64 da)).set 5 (.bool inn)).alloc (.cells #[.int .i64 by', .int .i64 ad, .bool mo, .int .i64 du, .int .i64 da, .bool inn] 52)
  have hu2 := ((((((HU1'.setCell ⟨w.heap.size, 0, none⟩ (.int .i64 by') hno).setCell ⟨w.heap.size, 1, none⟩ (.int .i64 ad) hno).setCell ⟨w.heap.size, 2, none⟩ (.bool mo) hno).setCell ⟨w.heap.size, 3, none⟩ (.int .i64 du) hno).setCell ⟨w.heap.size, 4, none⟩ (.int .i64 da) hno).setCell ⟨w.heap.size, 5, none⟩ (.bool inn) hno).alloc (.cells #[.int .i64 by', .int .i64 ad, .bool mo, .int .i64 du, .int .i64 da, .bool inn] 52)
  have d0 := hb2.cell 0
  have d1 := hb2.cell 1
  have d2 := hb2.cell 2
  have d3 := hb2.cell 3
  have d4 := hb2.cell 4
  have d5 := hb2.cell 5
  simp only [List.set_cons_zero, List.set_cons_succ, List.getElem?_cons_succ, List.getElem?_cons_zero] at d0 d1 d2 d3 d4 d5
  clear hb2 hno HU1' hlt1
  refine bodyPost_ret (v := .tuple #[.agg #[.int .i64 by', .int .i64 ad, .bool mo, .int .i64 du, .int .i64 da, .bool inn], .int .i64 0]) ?_ rfl ⟨rfl, hu2⟩
  generalize ((((((w1.setCell ⟨w.heap.size, 0, none⟩ (.int .i64 by')).setCell ⟨w.heap.size, 1, none⟩ (.int .i64 ad)).setCell ⟨w.heap.size, 2, none⟩ (.bool mo)).setCell ⟨w.heap.size, 3, none⟩ (.int .i64 du)).setCell ⟨w.heap.size, 4, none⟩ (.int .i64 da)).setCell ⟨w.heap.size, 5, none⟩ (.bool inn)).alloc (.cells #[.int .i64 by', .int .i64 ad, .bool mo, .int .i64 du, .int .i64 da, .bool inn] 52) = W at *
  clear hu2
  simp [results, Tryz.results125, go_sem, d0, d1, d2, d3, d4, d5]
set_option maxHeartbeats 2000000 in
theorem tab_find_no (c : Int) (hc : opIs c = false) (w : World) :
    Calls Tryz.prog 125 #[.int .i64 c] w fun e w' => e = .returned (.tuple #[.agg op0.cells, .int .i64 900]) ∧ Upd none' w w' := by
  have hof := op_of_no c hc
  have hcells : op0.cells = #[.int .i64 0, .int .i64 0, .bool false, .int .i64 0, .int .i64 0, .bool false] := rfl
  rw [hcells] at hof ⊢
  clear hcells
  go_enter Tryz.func125, Tryz.ntmps125
  go_wp2_with (go_at_call 179; refine (hof _).mono ?_; rintro e w1 ⟨rfl, hU1⟩; have hb := (Blk.new w [.int .i64 0, .int .i64 0, .bool false, .int .i64 0, .int .i64 0, .bool false] 52).upd hU1 (fun f => f); have c0 := hb.cell 0; have f0 := hb.frozen 0; have c1 := hb.cell 1; have f1 := hb.frozen 1; have c2 := hb.cell 2; have f2 := hb.frozen 2; have c3 := hb.cell 3; have f3 := hb.frozen 3; have c4 := hb.cell 4; have f4 := hb.frozen 4; have c5 := hb.cell 5; have f5 := hb.frozen 5; simp only [List.getElem?_cons_succ, List.getElem?_cons_zero] at c0 c1 c2 c3 c4 c5; have HU1 := Lib.hid hU1; have hlt1 := hb.lt; have HB := Lib.hid hb; clear hb hU1)
  clear c0 c1 c2 c3 c4 c5 f0 f1 f2 f3 f4 f5
  have hno : w.heap.size < w.heap.size → none' w.heap.size := fun h => absurd h (Nat.lt_irrefl _)
  have HU1' := ((Upd.refl none' w).alloc (.cells #[.int .i64 0, .int .i64 0, .bool false, .int .i64 0, .int .i64 0, .bool false] 52)).trans HU1.out (fun _ _ f => f)
  have hb2 := ((((((HB.out.set 0 (.int .i64 0)).set 1 (.int .i64 0)).set 2 (.bool false)).set 3 (.int .i64 0)).set 4 (.int .i64 0)).set 5 (.bool false)).alloc (.cells #[.int .i64 0, .int .i64 0, .bool false, .int .i64 0, .int .i64 0, .bool false] 52)
  have hu2 := ((((((HU1'.setCell ⟨w.heap.size, 0, none⟩ (.int .i64 0) hno).setCell ⟨w.heap.size, 1, none⟩ (.int .i64 0) hno).setCell ⟨w.heap.size, 2, none⟩ (.bool false) hno).setCell ⟨w.heap.size, 3, none⟩ (.int .i64 0) hno).setCell ⟨w.heap.size, 4, none⟩ (.int .i64 0) hno).setCell ⟨w.heap.size, 5, none⟩ (.bool false) hno).alloc (.cells #[.int .i64 0, .int .i64 0, .bool false, .int .i64 0, .int .i64 0, .bool false] 52)
  have d0 := hb2.cell 0
  have d1 := hb2.cell 1
  have d2 := hb2.cell 2
  have d3 := hb2.cell 3
  have d4 := hb2.cell 4
  have d5 := hb2.cell 5
  simp only [List.set_cons_zero, List.set_cons_succ, List.getElem?_cons_succ, List.getElem?_cons_zero] at d0 d1 d2 d3 d4 d5
  clear hb2 hno HU1' hlt1
  refine bodyPost_ret (v := .tuple #[.agg #[.int .i64 0, .int .i64 0, .bool false, .int .i64 0, .int .i64 0, .bool false], .int .i64 900]) ?_ rfl ⟨rfl, hu2⟩
  generalize ((((((w1.setCell ⟨w.heap.size, 0, none⟩ (.int .i64 0)).setCell ⟨w.heap.size, 1, none⟩ (.int .i64 0)).setCell ⟨w.heap.size, 2, none⟩ (.bool false)).setCell ⟨w.heap.size, 3, none⟩ (.int .i64 0)).setCell ⟨w.heap.size, 4, none⟩ (.int .i64 0)).setCell ⟨w.heap.size, 5, none⟩ (.bool false)).alloc (.cells #[.int .i64 0, .int .i64 0, .bool false, .int .i64 0, .int .i64 0, .bool false] 52) = W at *
  clear hu2
  simp [results, Tryz.results125, go_sem, d0, d1, d2, d3, d4, d5]
end Go.Proofs.YteombggfmeilaaaGreat
namespace Go.Proofs.YteombggfmeilaaaGreat
open Go.RowKit
theorem tcmd1 (x : Int) (w : World) : Calls Tryz.prog 180 #[.int .i64 x] w fun e w' => e = .returned (.bool (notB x)) ∧ w = w' := by
  have hb := lane_byte x
  unfold notB
  cases h : byteB x
  all_goals
    rw [h] at hb
    go_enter Tryz.func180, Tryz.ntmps180
    go_wp2_with (go_at_call 175; refine (hb _).mono ?_; rintro e w1 ⟨rfl, rfl⟩)
    go_ret
    exact ⟨rfl, rfl⟩
/-- May a command have so many data, read so many? -/
def fitsB (o : POp) (n r : Int) : Bool := if o.data = 0 then decide (n = 0) && decide (r = 0) else if o.inn then decide (r = 0) else if o.mode then decide (n = 1) else decide (n = 0)
set_option maxHeartbeats 1000000 in
theorem tab_fits (w : World) (k : Nat) (o : POp) (n r : Int) (h2 : w.cell? ⟨k, 2, none⟩ = some (.bool o.mode)) (h4 : w.cell? ⟨k, 4, none⟩ = some (.int .i64 o.data)) (h5 : w.cell? ⟨k, 5, none⟩ = some (.bool o.inn)) :
    Calls Tryz.prog 181 #[.pointer (some ⟨k, 0, none⟩), .int .i64 n, .int .i64 r] w fun e w' => e = .returned (.bool (fitsB o n r)) ∧ w = w' := by
  obtain ⟨by', ad, mo, du, da, inn⟩ := o
  dsimp only at h2 h4 h5
  by_cases hd : da = 0
  · subst hd
    by_cases hn : n = 0
    · subst hn
      by_cases hr : r = 0
      · subst hr
        go_enter Tryz.func181, Tryz.ntmps181
        go_wp2
        go_ret
        exact ⟨rfl, rfl⟩
      · have hr2 : (r == 0) = false := by simpa using hr
        go_enter Tryz.func181, Tryz.ntmps181
        go_wp2
        go_ret
        exact ⟨by unfold fitsB; dsimp only; rw [if_pos rfl, decide_eq_false hr]; rfl, rfl⟩
    · have hn2 : (n == 0) = false := by simpa using hn
      go_enter Tryz.func181, Tryz.ntmps181
      go_wp2
      go_ret
      exact ⟨by unfold fitsB; dsimp only; rw [if_pos rfl, decide_eq_false hn]; rfl, rfl⟩
  · have hd2 : (da == 0) = false := by simpa using hd
    have hf : fitsB ⟨by', ad, mo, du, da, inn⟩ n r = if inn then decide (r = 0) else if mo then decide (n = 1) else decide (n = 0) := by unfold fitsB; dsimp only; rw [if_neg hd]
    have HF := Lib.hid hf
    clear hf
    by_cases hr : r = 0
    · subst hr
      by_cases hn : n = 0
      · subst hn
        cases inn <;> cases mo
        all_goals
          go_enter Tryz.func181, Tryz.ntmps181
          go_wp2
          go_ret
          exact ⟨by rw [HF.out]; rfl, rfl⟩
      · have hn2 : (n == 0) = false := by simpa using hn
        have hn3 : decide (n = 0) = false := decide_eq_false hn
        by_cases hn1 : n = 1
        · subst hn1
          cases inn <;> cases mo
          all_goals
            go_enter Tryz.func181, Tryz.ntmps181
            go_wp2
            go_ret
            exact ⟨by rw [HF.out]; rfl, rfl⟩
        · have hn4 : (n == 1) = false := by simpa using hn1
          have hn5 : decide (n = 1) = false := decide_eq_false hn1
          rw [hn3, hn5] at HF
          clear hn3 hn5
          cases inn <;> cases mo
          all_goals
            go_enter Tryz.func181, Tryz.ntmps181
            go_wp2
            go_ret
            exact ⟨by rw [HF.out]; rfl, rfl⟩
    · have hr2 : (r == 0) = false := by simpa using hr
      rw [decide_eq_false hr] at HF
      by_cases hn : n = 0
      · subst hn
        cases inn <;> cases mo
        all_goals
          go_enter Tryz.func181, Tryz.ntmps181
          go_wp2
          go_ret
          exact ⟨by rw [HF.out]; rfl, rfl⟩
      · have hn2 : (n == 0) = false := by simpa using hn
        have hn3 : decide (n = 0) = false := decide_eq_false hn
        by_cases hn1 : n = 1
        · subst hn1
          cases inn <;> cases mo
          all_goals
            go_enter Tryz.func181, Tryz.ntmps181
            go_wp2
            go_ret
            exact ⟨by rw [HF.out]; rfl, rfl⟩
        · have hn4 : (n == 1) = false := by simpa using hn1
          have hn5 : decide (n = 1) = false := decide_eq_false hn1
          rw [hn3, hn5] at HF
          clear hn3 hn5
          cases inn <;> cases mo
          all_goals
            go_enter Tryz.func181, Tryz.ntmps181
            go_wp2
            go_ret
            exact ⟨by rw [HF.out]; rfl, rfl⟩
/-- A command's phases. -/
def cmdPhs (o : POp) (k : Int) (data : List Int) (read : Int) : List Ph :=
  ⟨1, [o.byte], 0, 0⟩ :: ((if 0 < o.addr then [⟨o.addr, [k / 65536, k / 256 % 256, k % 256], 0, 0⟩] else []) ++ (if o.mode then [⟨o.addr, data, 0, 0⟩] else []) ++ (if 0 < o.dummy then [⟨0, [], o.dummy, 0⟩] else []) ++ (if o.inn ∧ data ≠ [] then [⟨o.data, data, 0, 0⟩] else []) ++ (if 0 < read then [⟨o.data, [], 0, read⟩] else []))
/-- May a command be so? -/
def cmdMay (o : POp) (k : Int) (data : List Int) (read : Int) : Bool :=
  decide (0 ≤ k ∧ k < 4096) && !(decide (o.addr = 0) && decide (k ≠ 0)) && decide (data.length ≤ 512) && data.all byteB && decide (0 ≤ read ∧ read ≤ 512) && fitsB o data.length read
end Go.Proofs.YteombggfmeilaaaGreat
namespace Go.Proofs.YteombggfmeilaaaGreat
open Go.RowKit
def clo_tcmd : Value := .func (.func 180) #[] #[]
set_option maxHeartbeats 1000000 in
theorem index_tcmd (w : World) (v : Value) (xs : List Int) (h : RS w v (ints xs)) :
    Calls Tryz.prog 163 #[v, clo_tcmd] w fun e w' => (∃ r : Int, e = .returned (.int .i64 r) ∧ (xs.any notB = true → 0 ≤ r) ∧ (xs.any notB = false → r = -1)) ∧ w = w' := by
  obtain ⟨h1, a, cap, rfl, h4, h5⟩ := h
  rw [ints_len] at h1 h4 h5 ⊢
  unfold clo_tcmd
  go_enter Tryz.func163, Tryz.ntmps163
  go_wp2_with fail
  go_loopw [8] (fun iv wr => ∃ i : Nat, i ≤ xs.length ∧ iv = .int .i64 i ∧ Hid (w = wr) ∧ ∀ j, j < i → notB (xs.getD j 0) = false) (fun iv _ => xs.length - (intOf iv).toNat)
  case atStart => exact ⟨0, by omega, rfl, Lib.hid rfl, fun j hj => by omega⟩
  case round =>
    obtain ⟨i, hi, rfl, hw, hno⟩ := hrel
    by_cases hlt : i < xs.length
    · obtain ⟨bb, oo, rfl, hbb, hcc⟩ := h5 (by intro h; simp [ints] at h; simp [h] at hlt)
      have hcell : wr.cell? ⟨bb, oo + i, none⟩ = some (.int .i64 (xs.getD i 0)) := by
        rw [← hw.out, hcc i hlt, ints_at _ _ hlt]
      clear hcc
      obtain ⟨y, hy⟩ : ∃ y, xs.getD i 0 = y := ⟨_, rfl⟩
      rw [hy] at hcell
      have HY := Lib.hid hy
      clear hy
      have hmem : y ∈ xs := by rw [← HY.out, List.getD_eq_getElem?_getD, List.getElem?_eq_getElem hlt]; exact List.getElem_mem hlt
      cases hb : notB y with
      | true =>
        have hany : xs.any notB = true := List.any_eq_true.2 ⟨y, hmem, hb⟩
        have HA := Lib.hid hany
        have hnb := hb ▸ tcmd1 y wr
        clear hany hmem
        go_wp2_with (go_at_call 180; refine hnb.mono ?_; rintro e w' ⟨rfl, rfl⟩)
        go_ret
        exact ⟨⟨_, rfl, fun _ => by omega, fun e => by rw [HA.out] at e; cases e⟩, hw.out⟩
      | false =>
        have hnb := hb ▸ tcmd1 y wr
        clear hmem
        go_wp2_with (go_at_call 180; refine hnb.mono ?_; rintro e w' ⟨rfl, rfl⟩)
        refine ⟨?rel, ?measure⟩
        case rel => exact ⟨i + 1, by omega, by go_num, hw, fun j hj => by
          rcases Nat.lt_succ_iff_lt_or_eq.1 hj with h | h
          · exact hno j h
          · subst h; rw [HY.out]; exact hb⟩
        case measure => simp [intOf]; omega
    · have hieq : i = xs.length := by omega
      subst hieq
      go_wp2
      go_ret
      refine ⟨⟨_, rfl, fun e => ?_, fun _ => rfl⟩, hw.out⟩
      obtain ⟨y, hy, hb⟩ := List.any_eq_true.1 e
      obtain ⟨j, hj, rfl⟩ := List.getElem_of_mem hy
      have := hno j hj
      rw [List.getD_eq_getElem?_getD, List.getElem?_eq_getElem hj] at this
      simp only [Option.getD_some] at this
      rw [hb] at this
      cases this
theorem contains_tcmd (w : World) (v : Value) (xs : List Int) (h : RS w v (ints xs)) :
    Calls Tryz.prog 104 #[v, clo_tcmd] w fun e w' => e = .returned (.bool (xs.any notB)) ∧ w = w' := by
  have hi := index_tcmd w v xs h
  obtain ⟨_, a, cap, rfl, -⟩ := h
  unfold clo_tcmd at hi ⊢
  go_enter Tryz.func104, Tryz.ntmps104
  go_wp2_with fail
  refine hi.mono ?_
  rintro e w1 ⟨⟨r, rfl, hr1, hr2⟩, rfl⟩
  cases hb : xs.any notB with
  | true =>
    have := hr1 hb
    clear hr1 hr2
    go_wp2
    go_ret
    exact ⟨by rw [hb]; rfl, rfl⟩
  | false =>
    have := hr2 hb
    subst this
    clear hr1 hr2
    go_wp2
    go_ret
    exact ⟨by rw [hb]; rfl, rfl⟩
end Go.Proofs.YteombggfmeilaaaGreat
