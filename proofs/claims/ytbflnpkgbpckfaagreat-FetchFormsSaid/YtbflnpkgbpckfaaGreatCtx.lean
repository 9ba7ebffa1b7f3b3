/- What a law holds of the world: objects in blocks of their own ('Own', put side by side by 'star'), and rows that are read ('Ctx'). -/
import Derived.Test.YtbflnpkgbpckfaaGreatLow
namespace Go.Proofs.YtbflnpkgbpckfaaGreat
open Go.RowKit
/-- An object in memory: in this world, in just these blocks. -/
def Own := World → (Nat → Prop) → Prop
structure Own.Ok (P : Own) : Prop where
  frame : ∀ {w w' : World} {S T : Nat → Prop}, P w S → Upd T w w' → (∀ k, S k → ¬ T k) → P w' S
  lt : ∀ {w : World} {S : Nat → Prop}, P w S → ∀ k, S k → k < w.heap.size
def Own.emp : Own := fun _ S => ∀ k, ¬ S k
def Own.star (P Q : Own) : Own := fun w S => ∃ A B : Nat → Prop, P w A ∧ Q w B ∧ (∀ k, A k → ¬ B k) ∧ ∀ k, S k ↔ A k ∨ B k
theorem Own.emp_ok : Own.emp.Ok := ⟨fun h _ _ => h, fun h k hk => absurd hk (h k)⟩
theorem Own.Ok.star {P Q : Own} (hP : P.Ok) (hQ : Q.Ok) : (P.star Q).Ok := by
  refine ⟨?_, ?_⟩
  · rintro w w' S T ⟨A, B, hA, hB, hd, hS⟩ hu hT
    exact ⟨A, B, hP.frame hA hu (fun k hk => hT k ((hS k).2 (.inl hk))), hQ.frame hB hu (fun k hk => hT k ((hS k).2 (.inr hk))), hd, hS⟩
  · rintro w S ⟨A, B, hA, hB, hd, hS⟩ k hk
    rcases (hS k).1 hk with h | h
    · exact hP.lt hA k h
    · exact hQ.lt hB k h
/-- A row that is read, outside the blocks S. -/
def RowOk (w : World) (S : Nat → Prop) (r : Value × List Value) : Prop := RS w r.1 r.2 ∧ ∀ k, r.1.ownBlock = some k → k < w.heap.size ∧ ¬ S k
/-- A row that is new since w. -/
def RowNew (w w' : World) (S : Nat → Prop) (r : Value × List Value) : Prop := RS w' r.1 r.2 ∧ ∀ k, r.1.ownBlock = some k → w.heap.size ≤ k ∧ k < w'.heap.size ∧ ¬ S k
structure Ctx (P Q : Own) (w0 w : World) (rows : List (Value × List Value)) : Prop where
  okP : P.Ok
  okQ : Q.Ok
  upd : Upd none' w0 w
  all : ∃ S, (P.star Q) w S ∧ (∀ k, S k → w0.heap.size ≤ k) ∧ ∀ r ∈ rows, RowOk w S r
theorem RowOk.upd {w w' : World} {S S' : Nat → Prop} {r : Value × List Value} (h : RowOk w S r) {T : Nat → Prop} (u : Upd T w w') (hT : ∀ k, T k → S k ∨ w.heap.size ≤ k) (hS : ∀ k, S' k → S k ∨ w.heap.size ≤ k) : RowOk w' S' r := by
  obtain ⟨h1, h2⟩ := h
  refine ⟨h1.upd u (fun k hk he ht => ?_), fun k hk => ⟨Nat.lt_of_lt_of_le (h2 k hk).1 u.size, fun hs => ?_⟩⟩
  · rcases hT k ht with h | h
    · exact (h2 k he).2 h
    · omega
  · have := (h2 k hk).1
    rcases hS k hs with h | h
    · exact (h2 k hk).2 h
    · omega
theorem Ctx.start {w0 w : World} (h : Upd none' w0 w) : Ctx .emp .emp w0 w [] :=
  ⟨Own.emp_ok, Own.emp_ok, h, none', ⟨none', none', fun _ f => f, fun _ f => f, fun _ f => f.elim, fun _ => ⟨fun f => f.elim, fun f => f.elim (fun f => f) (fun f => f)⟩⟩, fun _ f => f.elim, fun _ f => by simp at f⟩
theorem Ctx.frame {P Q : Own} {w0 w w' : World} {rows : List (Value × List Value)} (h : Ctx P Q w0 w rows) (u : Upd none' w w') : Ctx P Q w0 w' rows := by
  obtain ⟨S, h1, h2, h3⟩ := h.all
  exact ⟨h.okP, h.okQ, h.upd.trans u (fun _ _ f => f), S, (h.okP.star h.okQ).frame h1 u (fun _ _ f => f), h2, fun r hr => (h3 r hr).upd u (fun _ f => f.elim) (fun _ f => .inl f)⟩
theorem Ctx.alloc {P Q : Own} {w0 w : World} {rows : List (Value × List Value)} (h : Ctx P Q w0 w rows) (o : Obj) : Ctx P Q w0 (w.alloc o) rows := h.frame ((Upd.refl _ _).alloc o)
theorem Ctx.drew {P Q : Own} {w0 w : World} {rows : List (Value × List Value)} (h : Ctx P Q w0 w rows) : Ctx P Q w0 w.drew rows := h.frame (Upd.refl _ _).drew
theorem Ctx.drewN {P Q : Own} {w0 w : World} {rows : List (Value × List Value)} (h : Ctx P Q w0 w rows) (n : Nat) : Ctx P Q w0 (w.drewN n) rows := h.frame ((Upd.refl _ _).drewN n)
theorem Ctx.alike {P Q : Own} {w0 w w' : World} {rows : List (Value × List Value)} (h : Ctx P Q w0 w rows) (u : w'.Alike w) : Ctx P Q w0 w' rows := h.frame ((Upd.refl _ _).alike u)
theorem Ctx.sub {P Q : Own} {w0 w : World} {rows rows' : List (Value × List Value)} (h : Ctx P Q w0 w rows) (hs : ∀ r ∈ rows', r ∈ rows) : Ctx P Q w0 w rows' := by
  obtain ⟨S, h1, h2, h3⟩ := h.all
  exact ⟨h.okP, h.okQ, h.upd, S, h1, h2, fun r hr => h3 r (hs r hr)⟩
theorem Ctx.drop {P Q : Own} {w0 w : World} {rows : List (Value × List Value)} (h : Ctx P Q w0 w rows) : Ctx P Q w0 w [] := h.sub (fun r hr => by simp at hr)
theorem Ctx.rs {P Q : Own} {w0 w : World} {rows : List (Value × List Value)} (h : Ctx P Q w0 w rows) (i : Nat) {v : Value} {vs : List Value} (hi : rows[i]? = some (v, vs)) : RS w v vs := by
  obtain ⟨S, h1, h2, h3⟩ := h.all
  exact (h3 _ (List.mem_of_getElem? hi)).1
theorem Ctx.commQ {P Q : Own} {w0 w : World} {rows : List (Value × List Value)} (h : Ctx P Q w0 w rows) : Ctx Q P w0 w rows := by
  obtain ⟨S, ⟨A, B, hA, hB, hd, hS⟩, h2, h3⟩ := h.all
  exact ⟨h.okQ, h.okP, h.upd, S, ⟨B, A, hB, hA, fun k hb ha => hd k ha hb, fun k => (hS k).trans Or.comm⟩, h2, h3⟩
/-- A call on the first object, which makes rows. -/
theorem Ctx.run {P P' Q : Own} {w0 w : World} {rows : List (Value × List Value)} (hC : Ctx P Q w0 w rows) (hP' : P'.Ok) {f : Nat} {args : Array Value} {X : Ending → List (Value × List Value) → Prop}
    (h : ∀ S, P w S → (∀ r ∈ rows, RowOk w S r) → (∀ k, S k → w0.heap.size ≤ k) → Calls Tryz.prog f args w fun e w' => ∃ S' news, X e news ∧ (∀ r ∈ news, RowNew w w' S' r) ∧ P' w' S' ∧ (∀ k, S' k → S k ∨ w.heap.size ≤ k) ∧ Upd S w w') :
    Calls Tryz.prog f args w fun e w' => ∃ news, X e news ∧ Ctx P' Q w0 w' (news ++ rows) := by
  obtain ⟨S, ⟨A, B, hA, hB, hd, hS⟩, h2, h3⟩ := hC.all
  refine (h A hA (fun r hr => ⟨(h3 r hr).1, fun k hk => ⟨((h3 r hr).2 k hk).1, fun ha => ((h3 r hr).2 k hk).2 ((hS k).2 (.inl ha))⟩⟩) (fun k hk => h2 k ((hS k).2 (.inl hk)))).mono ?_
  rintro e w' ⟨A', news, hX, hn, hA', hs, hu⟩
  have hsz := hu.size
  have h0 := hC.upd.size
  refine ⟨news, hX, hP', hC.okQ, hC.upd.trans hu (fun k hk ha => by have := h2 k ((hS k).2 (.inl ha)); omega), fun k => A' k ∨ B k, ⟨A', B, hA', hC.okQ.frame hB hu (fun k hb ha => hd k ha hb), fun k ha hb => ?_, fun _ => Iff.rfl⟩, ?_, ?_⟩
  · rcases hs k ha with h1 | h1
    · exact hd k h1 hb
    · have := hC.okQ.lt hB k hb; omega
  · rintro k (h1 | h1)
    · rcases hs k h1 with h4 | h4
      · exact h2 k ((hS k).2 (.inl h4))
      · omega
    · exact h2 k ((hS k).2 (.inr h1))
  · intro r hr
    rcases List.mem_append.1 hr with hr | hr
    · obtain ⟨h4, h5⟩ := hn r hr
      refine ⟨h4, fun k hk => ⟨(h5 k hk).2.1, ?_⟩⟩
      rintro (h6 | h6)
      · exact (h5 k hk).2.2 h6
      · have := hC.okQ.lt hB k h6
        have := (h5 k hk).1
        omega
    · refine (h3 r hr).upd hu (fun k hk => .inl ((hS k).2 (.inl hk))) ?_
      rintro k (h6 | h6)
      · rcases hs k h6 with h7 | h7
        · exact .inl ((hS k).2 (.inl h7))
        · exact .inr h7
      · exact .inl ((hS k).2 (.inr h6))
/-- A call that makes an object beside all others. -/
theorem Ctx.new {P P' Q : Own} {w0 w : World} {rows : List (Value × List Value)} (hC : Ctx P Q w0 w rows) (hP' : P'.Ok) {f : Nat} {args : Array Value} {X : Ending → Prop}
    (h : Calls Tryz.prog f args w fun e w' => ∃ S', X e ∧ P' w' S' ∧ (∀ k, S' k → w.heap.size ≤ k) ∧ Upd none' w w') :
    Calls Tryz.prog f args w fun e w' => X e ∧ Ctx P' (P.star Q) w0 w' rows := by
  obtain ⟨S, h1, h2, h3⟩ := hC.all
  have h0 := hC.upd.size
  have hlt := (hC.okP.star hC.okQ).lt h1
  refine h.mono ?_
  rintro e w' ⟨A', hX, hA', hs, hu⟩
  refine ⟨hX, hP', hC.okP.star hC.okQ, hC.upd.trans hu (fun _ _ f => f), fun k => A' k ∨ S k, ⟨A', S, hA', (hC.okP.star hC.okQ).frame h1 hu (fun _ _ f => f), fun k ha hb => ?_, fun _ => Iff.rfl⟩, ?_, ?_⟩
  · have := hs k ha; have := hlt k hb; omega
  · rintro k (h4 | h4)
    · have := hs k h4; omega
    · exact h2 k h4
  · intro r hr
    refine (h3 r hr).upd hu (fun _ f => f.elim) ?_
    rintro k (h6 | h6)
    · exact .inr (hs k h6)
    · exact .inl h6
/-- A call that leaves all as it was, and makes rows. -/
theorem Ctx.quiet {P Q : Own} {w0 w : World} {rows : List (Value × List Value)} (hC : Ctx P Q w0 w rows) {f : Nat} {args : Array Value} {X : Ending → List (Value × List Value) → Prop}
    (h : Calls Tryz.prog f args w fun e w' => ∃ news, X e news ∧ (∀ r ∈ news, RowNew w w' none' r) ∧ Upd none' w w') :
    Calls Tryz.prog f args w fun e w' => ∃ news, X e news ∧ Ctx P Q w0 w' (news ++ rows) := by
  obtain ⟨S, h1, h2, h3⟩ := hC.all
  have hlt := (hC.okP.star hC.okQ).lt h1
  refine h.mono ?_
  rintro e w' ⟨news, hX, hn, hu⟩
  refine ⟨news, hX, hC.okP, hC.okQ, hC.upd.trans hu (fun _ _ f => f), S, (hC.okP.star hC.okQ).frame h1 hu (fun _ _ f => f), h2, fun r hr => ?_⟩
  rcases List.mem_append.1 hr with hr | hr
  · obtain ⟨h4, h5⟩ := hn r hr
    exact ⟨h4, fun k hk => ⟨(h5 k hk).2.1, fun hs => by have := hlt k hs; have := (h5 k hk).1; omega⟩⟩
  · exact (h3 r hr).upd hu (fun _ f => f.elim) (fun _ f => .inl f)
theorem rs_new (w : World) (vs : List Value) (t : TypeId) (n : Nat) (hn : vs.length = n) (hl : n ≤ 1048576) : RS (w.alloc (.cells vs.toArray t)) (.slice (some ⟨w.heap.size, 0, none⟩) n n) vs := by
  refine ⟨by omega, some ⟨w.heap.size, 0, none⟩, n, by rw [hn], by omega, fun _ => ⟨w.heap.size, 0, rfl, by simp, fun j hj => ?_⟩⟩
  rw [Nat.zero_add]
  exact (Blk.new w vs t).cell j
theorem RS.dropN {w : World} {g o n c : Nat} {vs : List Value} (h : RS w (.slice (some ⟨g, o, none⟩) n c) vs) (k : Nat) (hk : k ≤ n) : RS w (.slice (some ⟨g, o + k, none⟩) (n - k) (c - k)) (vs.drop k) := by
  obtain ⟨f1, a, cap, e, f4, f5⟩ := h
  simp only [Value.slice.injEq] at e
  obtain ⟨rfl, rfl, rfl⟩ := e
  refine ⟨by rw [List.length_drop]; omega, some ⟨g, o + k, none⟩, c - k, by rw [List.length_drop], by rw [List.length_drop]; omega, fun hn => ?_⟩
  obtain ⟨b, o', e2, h7, h8⟩ := f5 (by intro h; rw [h] at hn; simp at hn)
  simp only [Option.some.injEq, Addr.mk.injEq] at e2
  obtain ⟨rfl, rfl, _⟩ := e2
  refine ⟨g, o + k, rfl, h7, fun j hj => ?_⟩
  rw [List.length_drop] at hj
  rw [List.getElem?_drop, show o + k + j = o + (k + j) by omega]
  exact h8 (k + j) (by omega)
/-- A row that has just been laid. -/
theorem Ctx.lit {P Q : Own} {w0 w : World} {rows : List (Value × List Value)} (hC : Ctx P Q w0 w rows) (vs : List Value) (t : TypeId) (n : Nat) (hn : vs.length = n) (hl : n ≤ 1048576) : Ctx P Q w0 (w.alloc (.cells vs.toArray t)) ((.slice (some ⟨w.heap.size, 0, none⟩) n n, vs) :: rows) := by
  obtain ⟨S, h1, h2, h3⟩ := (hC.alloc (.cells vs.toArray t)).all
  obtain ⟨S0, g1, g2, g3⟩ := hC.all
  refine ⟨hC.okP, hC.okQ, (hC.alloc _).upd, S0, (hC.okP.star hC.okQ).frame g1 ((Upd.refl none' w).alloc _) (fun _ _ f => f), g2, fun r hr => ?_⟩
  rcases List.mem_cons.1 hr with rfl | hr
  · refine ⟨rs_new w vs t n hn hl, fun k hk => ?_⟩
    simp only [Value.ownBlock, Option.some.injEq] at hk
    subst hk
    exact ⟨by simp, fun hs => by have := (hC.okP.star hC.okQ).lt g1 _ hs; omega⟩
  · exact (g3 r hr).upd ((Upd.refl none' w).alloc _) (fun _ f => f.elim) (fun _ f => .inl f)
/-- The cells of a row that is read. -/
theorem RS.cells {w : World} {a : Option Addr} {n c : Nat} {vs : List Value} (h : RS w (.slice a n c) vs) (hn : 0 < n) : ∃ g o, a = some ⟨g, o, none⟩ ∧ g < w.heap.size ∧ ∀ j, j < n → w.cell? ⟨g, o + j, none⟩ = vs[j]? := by
  obtain ⟨h1, a', cap, e, h4, h5⟩ := h
  simp only [Value.slice.injEq] at e
  obtain ⟨rfl, rfl, rfl⟩ := e
  obtain ⟨g, o, h6, h7, h8⟩ := h5 (fun e => by rw [e] at hn; simp at hn)
  exact ⟨g, o, h6, h7, h8⟩
/-- An end of a row that is read. -/
theorem Ctx.tail {P Q : Own} {w0 w : World} {rows : List (Value × List Value)} (hC : Ctx P Q w0 w rows) (i : Nat) {g o n c : Nat} {vs : List Value} (hi : rows[i]? = some (.slice (some ⟨g, o, none⟩) n c, vs)) (k : Nat) (hk : k ≤ n) : Ctx P Q w0 w ((.slice (some ⟨g, o + k, none⟩) (n - k) (c - k), vs.drop k) :: rows) := by
  obtain ⟨S, h1, h2, h3⟩ := hC.all
  refine ⟨hC.okP, hC.okQ, hC.upd, S, h1, h2, fun r hr => ?_⟩
  rcases List.mem_cons.1 hr with rfl | hr
  · obtain ⟨h4, h5⟩ := h3 _ (List.mem_of_getElem? hi)
    exact ⟨RS.dropN h4 k hk, fun q hq => h5 q hq⟩
  · exact h3 r hr
end Go.Proofs.YtbflnpkgbpckfaaGreat
