/- What a law holds of the world: objects in blocks of their own ('Own', put side by side by 'star'), and rows that are read ('Ctx'). · A chip among what a law holds: its own calls. · More of what a law holds: rows that are written, objects that are made or turned without a call; bytes of the call's own. -/
import Derived.Test.YteombggfmeilaaaGreatLow
import Derived.Test.YteombggfmeilaaaGreatSayP
import Derived.Test.YteombggfmeilaaaGreatTable
import Derived.Laws.OwnMore
namespace Go.Proofs.YteombggfmeilaaaGreat
open Go.RowKit
/-- An object in memory: in this world, in just these blocks. -/
def Own := World → (Nat → Prop) → Prop
structure Own.Ok (P : Own) : Prop where
  frame : ∀ {w w' : World} {S T : Nat → Prop}, P w S → Upd T w w' → (∀ k, S k → ¬ T k) → P w' S
  lt : ∀ {w : World} {S : Nat → Prop}, P w S → ∀ k, S k → k < w.heap.size
def Own.emp : Own := fun _ S => ∀ k, ¬ S k
def Own.star (P Q : Own) : Own := fun w S => ∃ A B : Nat → Prop, P w A ∧ Q w B ∧ (∀ k, A k → ¬ B k) ∧ ∀ k, S k ↔ A k ∨ B k
theorem Own.emp_ok : Own.emp.Ok := ⟨fun h _ _ => h, fun h k hk => absurd hk (h k)⟩
theorem Own.Ok.star {P Q : Own} (hP : P.Ok) (hQ : Q.Ok) : (P.star Q).Ok := by
  refine ⟨?_, ?_⟩
  · rintro w w' S T ⟨A, B, hA, hB, hd, hS⟩ hu hT
    exact ⟨A, B, hP.frame hA hu (fun k hk => hT k ((hS k).2 (.inl hk))), hQ.frame hB hu (fun k hk => hT k ((hS k).2 (.inr hk))), hd, hS⟩
  · rintro w S ⟨A, B, hA, hB, hd, hS⟩ k hk
    rcases (hS k).1 hk with h | h
    · exact hP.lt hA k h
    · exact hQ.lt hB k h
/-- A row that is read, outside the blocks S. -/
def Mk (w : World) (v : Value) : Prop := ∀ k, v.ownBlock = some k → ∀ j, w.frozen? ⟨k, j, none⟩ = false
theorem Row.mk {w : World} {e : TypeId} {v : Value} {xs : List Value} (h : Row w e v xs) : Mk w v := by
  intro k hk j
  obtain ⟨ao, cap, rfl, -, -, h2⟩ := h.form
  cases ao with
  | none => cases hk
  | some ad =>
    obtain ⟨g, -, h3, -, -, h4⟩ := h2 ad rfl
    rw [h3, Option.some.injEq] at hk
    subst hk
    exact h4 j
def RowOk (w0 w : World) (S : Nat → Prop) (r : Value × List Value) : Prop := RS w r.1 r.2 ∧ (∀ k, r.1.ownBlock = some k → k < w.heap.size ∧ ¬ S k) ∧ ∀ k, r.1.ownBlock = some k → w0.heap.size ≤ k → ∀ j, w.frozen? ⟨k, j, none⟩ = false
/-- A row that is new since w. -/
def RowNew (w w' : World) (S : Nat → Prop) (r : Value × List Value) : Prop := RS w' r.1 r.2 ∧ (∀ k, r.1.ownBlock = some k → w.heap.size ≤ k ∧ k < w'.heap.size ∧ ¬ S k) ∧ Mk w' r.1
structure Ctx (P Q : Own) (w0 w : World) (rows : List (Value × List Value)) : Prop where
  okP : P.Ok
  okQ : Q.Ok
  upd : Upd none' w0 w
  all : ∃ S, (P.star Q) w S ∧ (∀ k, S k → w0.heap.size ≤ k) ∧ ∀ r ∈ rows, RowOk w0 w S r
theorem RowOk.upd {w0 w w' : World} {S S' : Nat → Prop} {r : Value × List Value} (h : RowOk w0 w S r) {T : Nat → Prop} (u : Upd T w w') (hT : ∀ k, T k → S k ∨ w.heap.size ≤ k) (hS : ∀ k, S' k → S k ∨ w.heap.size ≤ k) : RowOk w0 w' S' r := by
  obtain ⟨h1, h2, h3⟩ := h
  refine ⟨h1.upd u (fun k hk he ht => ?_), fun k hk => ⟨Nat.lt_of_lt_of_le (h2 k hk).1 u.size, fun hs => ?_⟩, fun k hk h0 j => (u.frozen (p := ⟨k, j, none⟩) (h2 k hk).1 (fun ht => ?_)).trans (h3 k hk h0 j)⟩
  · rcases hT k ht with h | h
    · exact (h2 k he).2 h
    · omega
  · have := (h2 k hk).1
    rcases hS k hs with h | h
    · exact (h2 k hk).2 h
    · omega
  · have := (h2 k hk).1
    rcases hT k ht with h | h
    · exact (h2 k hk).2 h
    · omega
theorem Ctx.start {w0 w : World} (h : Upd none' w0 w) : Ctx .emp .emp w0 w [] :=
  ⟨Own.emp_ok, Own.emp_ok, h, none', ⟨none', none', fun _ f => f, fun _ f => f, fun _ f => f.elim, fun _ => ⟨fun f => f.elim, fun f => f.elim (fun f => f) (fun f => f)⟩⟩, fun _ f => f.elim, fun _ f => by simp at f⟩
theorem Ctx.frame {P Q : Own} {w0 w w' : World} {rows : List (Value × List Value)} (h : Ctx P Q w0 w rows) (u : Upd none' w w') : Ctx P Q w0 w' rows := by
  obtain ⟨S, h1, h2, h3⟩ := h.all
  exact ⟨h.okP, h.okQ, h.upd.trans u (fun _ _ f => f), S, (h.okP.star h.okQ).frame h1 u (fun _ _ f => f), h2, fun r hr => (h3 r hr).upd u (fun _ f => f.elim) (fun _ f => .inl f)⟩
theorem Ctx.alloc {P Q : Own} {w0 w : World} {rows : List (Value × List Value)} (h : Ctx P Q w0 w rows) (o : Obj) : Ctx P Q w0 (w.alloc o) rows := h.frame ((Upd.refl _ _).alloc o)
theorem Ctx.drew {P Q : Own} {w0 w : World} {rows : List (Value × List Value)} (h : Ctx P Q w0 w rows) : Ctx P Q w0 w.drew rows := h.frame (Upd.refl _ _).drew
theorem Ctx.drewN {P Q : Own} {w0 w : World} {rows : List (Value × List Value)} (h : Ctx P Q w0 w rows) (n : Nat) : Ctx P Q w0 (w.drewN n) rows := h.frame ((Upd.refl _ _).drewN n)
theorem Ctx.alike {P Q : Own} {w0 w w' : World} {rows : List (Value × List Value)} (h : Ctx P Q w0 w rows) (u : w'.Alike w) : Ctx P Q w0 w' rows := h.frame ((Upd.refl _ _).alike u)
theorem Ctx.sub {P Q : Own} {w0 w : World} {rows rows' : List (Value × List Value)} (h : Ctx P Q w0 w rows) (hs : ∀ r ∈ rows', r ∈ rows) : Ctx P Q w0 w rows' := by
  obtain ⟨S, h1, h2, h3⟩ := h.all
  exact ⟨h.okP, h.okQ, h.upd, S, h1, h2, fun r hr => h3 r (hs r hr)⟩
theorem Ctx.drop {P Q : Own} {w0 w : World} {rows : List (Value × List Value)} (h : Ctx P Q w0 w rows) : Ctx P Q w0 w [] := h.sub (fun r hr => by simp at hr)
theorem Ctx.rs {P Q : Own} {w0 w : World} {rows : List (Value × List Value)} (h : Ctx P Q w0 w rows) (i : Nat) {v : Value} {vs : List Value} (hi : rows[i]? = some (v, vs)) : RS w v vs := by
  obtain ⟨S, h1, h2, h3⟩ := h.all
  exact (h3 _ (List.mem_of_getElem? hi)).1
theorem Ctx.commQ {P Q : Own} {w0 w : World} {rows : List (Value × List Value)} (h : Ctx P Q w0 w rows) : Ctx Q P w0 w rows := by
  obtain ⟨S, ⟨A, B, hA, hB, hd, hS⟩, h2, h3⟩ := h.all
  exact ⟨h.okQ, h.okP, h.upd, S, ⟨B, A, hB, hA, fun k hb ha => hd k ha hb, fun k => (hS k).trans Or.comm⟩, h2, h3⟩
/-- A call on the first object, which makes rows. -/
theorem Ctx.run {P P' Q : Own} {w0 w : World} {rows : List (Value × List Value)} (hC : Ctx P Q w0 w rows) (hP' : P'.Ok) {f : Nat} {args : Array Value} {X : Ending → List (Value × List Value) → Prop}
    (h : ∀ S, P w S → (∀ r ∈ rows, RowOk w0 w S r) → (∀ k, S k → w0.heap.size ≤ k) → Calls Tryz.prog f args w fun e w' => ∃ S' news, X e news ∧ (∀ r ∈ news, RowNew w w' S' r) ∧ P' w' S' ∧ (∀ k, S' k → S k ∨ w.heap.size ≤ k) ∧ Upd S w w') :
    Calls Tryz.prog f args w fun e w' => ∃ news, X e news ∧ Ctx P' Q w0 w' (news ++ rows) := by
  obtain ⟨S, ⟨A, B, hA, hB, hd, hS⟩, h2, h3⟩ := hC.all
  refine (h A hA (fun r hr => ⟨(h3 r hr).1, fun k hk => ⟨((h3 r hr).2.1 k hk).1, fun ha => ((h3 r hr).2.1 k hk).2 ((hS k).2 (.inl ha))⟩, (h3 r hr).2.2⟩) (fun k hk => h2 k ((hS k).2 (.inl hk)))).mono ?_
  rintro e w' ⟨A', news, hX, hn, hA', hs, hu⟩
  have hsz := hu.size
  have h0 := hC.upd.size
  refine ⟨news, hX, hP', hC.okQ, hC.upd.trans hu (fun k hk ha => by have := h2 k ((hS k).2 (.inl ha)); omega), fun k => A' k ∨ B k, ⟨A', B, hA', hC.okQ.frame hB hu (fun k hb ha => hd k ha hb), fun k ha hb => ?_, fun _ => Iff.rfl⟩, ?_, ?_⟩
  · rcases hs k ha with h1 | h1
    · exact hd k h1 hb
    · have := hC.okQ.lt hB k hb; omega
  · rintro k (h1 | h1)
    · rcases hs k h1 with h4 | h4
      · exact h2 k ((hS k).2 (.inl h4))
      · omega
    · exact h2 k ((hS k).2 (.inr h1))
  · intro r hr
    rcases List.mem_append.1 hr with hr | hr
    · obtain ⟨h4, h5, h9⟩ := hn r hr
      refine ⟨h4, fun k hk => ⟨(h5 k hk).2.1, ?_⟩, fun k hk _ => h9 k hk⟩
      rintro (h6 | h6)
      · exact (h5 k hk).2.2 h6
      · have := hC.okQ.lt hB k h6
        have := (h5 k hk).1
        omega
    · refine (h3 r hr).upd hu (fun k hk => .inl ((hS k).2 (.inl hk))) ?_
      rintro k (h6 | h6)
      · rcases hs k h6 with h7 | h7
        · exact .inl ((hS k).2 (.inl h7))
        · exact .inr h7
      · exact .inl ((hS k).2 (.inr h6))
/-- A call that makes an object beside all others. -/
theorem Ctx.new {P P' Q : Own} {w0 w : World} {rows : List (Value × List Value)} (hC : Ctx P Q w0 w rows) (hP' : P'.Ok) {f : Nat} {args : Array Value} {X : Ending → Prop}
    (h : Calls Tryz.prog f args w fun e w' => ∃ S', X e ∧ P' w' S' ∧ (∀ k, S' k → w.heap.size ≤ k) ∧ Upd none' w w') :
    Calls Tryz.prog f args w fun e w' => X e ∧ Ctx P' (P.star Q) w0 w' rows := by
  obtain ⟨S, h1, h2, h3⟩ := hC.all
  have h0 := hC.upd.size
  have hlt := (hC.okP.star hC.okQ).lt h1
  refine h.mono ?_
  rintro e w' ⟨A', hX, hA', hs, hu⟩
  refine ⟨hX, hP', hC.okP.star hC.okQ, hC.upd.trans hu (fun _ _ f => f), fun k => A' k ∨ S k, ⟨A', S, hA', (hC.okP.star hC.okQ).frame h1 hu (fun _ _ f => f), fun k ha hb => ?_, fun _ => Iff.rfl⟩, ?_, ?_⟩
  · have := hs k ha; have := hlt k hb; omega
  · rintro k (h4 | h4)
    · have := hs k h4; omega
    · exact h2 k h4
  · intro r hr
    refine (h3 r hr).upd hu (fun _ f => f.elim) ?_
    rintro k (h6 | h6)
    · exact .inr (hs k h6)
    · exact .inl h6
/-- A call that leaves all as it was, and makes rows. -/
theorem Ctx.quiet {P Q : Own} {w0 w : World} {rows : List (Value × List Value)} (hC : Ctx P Q w0 w rows) {f : Nat} {args : Array Value} {X : Ending → List (Value × List Value) → Prop}
    (h : Calls Tryz.prog f args w fun e w' => ∃ news, X e news ∧ (∀ r ∈ news, RowNew w w' none' r) ∧ Upd none' w w') :
    Calls Tryz.prog f args w fun e w' => ∃ news, X e news ∧ Ctx P Q w0 w' (news ++ rows) := by
  obtain ⟨S, h1, h2, h3⟩ := hC.all
  have hlt := (hC.okP.star hC.okQ).lt h1
  refine h.mono ?_
  rintro e w' ⟨news, hX, hn, hu⟩
  refine ⟨news, hX, hC.okP, hC.okQ, hC.upd.trans hu (fun _ _ f => f), S, (hC.okP.star hC.okQ).frame h1 hu (fun _ _ f => f), h2, fun r hr => ?_⟩
  rcases List.mem_append.1 hr with hr | hr
  · obtain ⟨h4, h5, h9⟩ := hn r hr
    exact ⟨h4, fun k hk => ⟨(h5 k hk).2.1, fun hs => by have := hlt k hs; have := (h5 k hk).1; omega⟩, fun k hk _ => h9 k hk⟩
  · exact (h3 r hr).upd hu (fun _ f => f.elim) (fun _ f => .inl f)
theorem rs_new (w : World) (vs : List Value) (t : TypeId) (n : Nat) (hn : vs.length = n) (hl : n ≤ 1048576) : RS (w.alloc (.cells vs.toArray t)) (.slice (some ⟨w.heap.size, 0, none⟩) n n) vs := by
  refine ⟨by omega, some ⟨w.heap.size, 0, none⟩, n, by rw [hn], by omega, fun _ => ⟨w.heap.size, 0, rfl, by simp, fun j hj => ?_⟩⟩
  rw [Nat.zero_add]
  exact (Blk.new w vs t).cell j
theorem RS.dropN {w : World} {g o n c : Nat} {vs : List Value} (h : RS w (.slice (some ⟨g, o, none⟩) n c) vs) (k : Nat) (hk : k ≤ n) : RS w (.slice (some ⟨g, o + k, none⟩) (n - k) (c - k)) (vs.drop k) := by
  obtain ⟨f1, a, cap, e, f4, f5⟩ := h
  simp only [Value.slice.injEq] at e
  obtain ⟨rfl, rfl, rfl⟩ := e
  refine ⟨by rw [List.length_drop]; omega, some ⟨g, o + k, none⟩, c - k, by rw [List.length_drop], by rw [List.length_drop]; omega, fun hn => ?_⟩
  obtain ⟨b, o', e2, h7, h8⟩ := f5 (by intro h; rw [h] at hn; simp at hn)
  simp only [Option.some.injEq, Addr.mk.injEq] at e2
  obtain ⟨rfl, rfl, _⟩ := e2
  refine ⟨g, o + k, rfl, h7, fun j hj => ?_⟩
  rw [List.length_drop] at hj
  rw [List.getElem?_drop, show o + k + j = o + (k + j) by omega]
  exact h8 (k + j) (by omega)
/-- A row that has just been laid. -/
theorem Ctx.lit {P Q : Own} {w0 w : World} {rows : List (Value × List Value)} (hC : Ctx P Q w0 w rows) (vs : List Value) (t : TypeId) (n : Nat) (hn : vs.length = n) (hl : n ≤ 1048576) : Ctx P Q w0 (w.alloc (.cells vs.toArray t)) ((.slice (some ⟨w.heap.size, 0, none⟩) n n, vs) :: rows) := by
  obtain ⟨S, h1, h2, h3⟩ := (hC.alloc (.cells vs.toArray t)).all
  obtain ⟨S0, g1, g2, g3⟩ := hC.all
  refine ⟨hC.okP, hC.okQ, (hC.alloc _).upd, S0, (hC.okP.star hC.okQ).frame g1 ((Upd.refl none' w).alloc _) (fun _ _ f => f), g2, fun r hr => ?_⟩
  rcases List.mem_cons.1 hr with rfl | hr
  · refine ⟨rs_new w vs t n hn hl, fun k hk => ?_, fun k hk _ j => ?_⟩
    · simp only [Value.ownBlock, Option.some.injEq] at hk
      subst hk
      exact ⟨by simp, fun hs => by have := (hC.okP.star hC.okQ).lt g1 _ hs; omega⟩
    · simp only [Value.ownBlock, Option.some.injEq] at hk
      subst hk
      exact (Blk.new w vs t).frozen j
  · exact (g3 r hr).upd ((Upd.refl none' w).alloc _) (fun _ f => f.elim) (fun _ f => .inl f)
/-- The cells of a row that is read. -/
theorem RS.cells {w : World} {a : Option Addr} {n c : Nat} {vs : List Value} (h : RS w (.slice a n c) vs) (hn : 0 < n) : ∃ g o, a = some ⟨g, o, none⟩ ∧ g < w.heap.size ∧ ∀ j, j < n → w.cell? ⟨g, o + j, none⟩ = vs[j]? := by
  obtain ⟨h1, a', cap, e, h4, h5⟩ := h
  simp only [Value.slice.injEq] at e
  obtain ⟨rfl, rfl, rfl⟩ := e
  obtain ⟨g, o, h6, h7, h8⟩ := h5 (fun e => by rw [e] at hn; simp at hn)
  exact ⟨g, o, h6, h7, h8⟩
/-- An end of a row that is read. -/
theorem Ctx.tail {P Q : Own} {w0 w : World} {rows : List (Value × List Value)} (hC : Ctx P Q w0 w rows) (i : Nat) {g o n c : Nat} {vs : List Value} (hi : rows[i]? = some (.slice (some ⟨g, o, none⟩) n c, vs)) (k : Nat) (hk : k ≤ n) : Ctx P Q w0 w ((.slice (some ⟨g, o + k, none⟩) (n - k) (c - k), vs.drop k) :: rows) := by
  obtain ⟨S, h1, h2, h3⟩ := hC.all
  refine ⟨hC.okP, hC.okQ, hC.upd, S, h1, h2, fun r hr => ?_⟩
  rcases List.mem_cons.1 hr with rfl | hr
  · obtain ⟨h4, h5, h6⟩ := h3 _ (List.mem_of_getElem? hi)
    exact ⟨RS.dropN h4 k hk, fun q hq => h5 q hq, fun q hq => h6 q hq⟩
  · exact h3 r hr
end Go.Proofs.YteombggfmeilaaaGreat
namespace Go.Proofs.YteombggfmeilaaaGreat
open Go.RowKit
def ChipP (b : Nat) (s : St) (N : Int) : Own := fun w S => ChipAt w b s S ∧ s.InvW N
theorem chipP_ok (b : Nat) (s : St) (N : Int) : (ChipP b s N).Ok := ⟨fun h u hT => ⟨h.1.upd u hT, h.2⟩, fun h => h.1.lt⟩
theorem RS.len {w : World} {a : Option Addr} {n c : Nat} {vs : List Value} (h : RS w (.slice a n c) vs) : n = vs.length ∧ n ≤ c := by
  obtain ⟨h1, a', cap, e, h4, h5⟩ := h
  simp only [Value.slice.injEq] at e
  obtain ⟨rfl, rfl, rfl⟩ := e
  exact ⟨rfl, h4⟩
theorem row_new {w w' : World} {S : Nat → Prop} {e : TypeId} {v : Value} {vs : List Value} (h : Row w' e v vs) (hl : vs.length ≤ 1048576) (hn : ∀ k, v.ownBlock = some k → w.heap.size ≤ k ∧ ¬ S k) : RowNew w w' S (v, vs) :=
  ⟨h.rs hl, fun k hk => ⟨(hn k hk).1, h.lt k hk, (hn k hk).2⟩, h.mk⟩
theorem c_status {Q : Own} {w0 w : World} {b : Nat} {s : St} {N : Int} {rows : List (Value × List Value)} (hC : Ctx (ChipP b s N) Q w0 w rows) (p q : Int) (hp : s.first = p) (hq : s.second = q) :
    Calls Tryz.prog 30 #[.pointer (some ⟨b, 0, none⟩)] w fun e w' => e = .returned (.tuple #[.int .i64 p, .int .i64 q]) ∧ Ctx (ChipP b s N) Q w0 w' rows := by
  obtain ⟨S, ⟨A, B, hA, _⟩, _⟩ := hC.all
  refine (chip_stat b s A w hA.1).mono ?_
  rintro e w' ⟨rfl, hU⟩
  rw [hp, hq]
  exact ⟨rfl, hC.frame hU⟩
theorem c_cells {Q : Own} {w0 w : World} {b : Nat} {s : St} {N : Int} {rows : List (Value × List Value)} (hC : Ctx (ChipP b s N) Q w0 w rows) (a : ByteArray) (ha : s.a = a) :
    Calls Tryz.prog 34 #[.pointer (some ⟨b, 0, none⟩)] w fun e w' => e = .returned (.string a) ∧ w = w' := by
  obtain ⟨S, ⟨A, B, hA, _⟩, _⟩ := hC.all
  rw [← ha]
  exact chip_cells b s A w hA.1
/-- A call on the chip that gives a number, or two. -/
theorem c_post {Q : Own} {w0 w : World} {b : Nat} {s : St} {N M : Int} {rows : List (Value × List Value)} (hC : Ctx (ChipP b s N) Q w0 w rows) (t : St) {f : Nat} {args : Array Value} {r : Ending} (hM : s.InvW N → t.InvW M)
    (h : ∀ S, ChipAt w b s S → s.InvW N → Calls Tryz.prog f args w fun e w' => e = r ∧ ChipPost b t S w w') :
    Calls Tryz.prog f args w fun e w' => e = r ∧ Ctx (ChipP b t M) Q w0 w' rows := by
  refine (hC.run (X := fun e news => e = r ∧ news = []) (chipP_ok b t M) (fun S hP _ _ => (h S hP.1 hP.2).mono ?_)).mono ?_
  · rintro e w' ⟨rfl, S', hA, hS, hU⟩
    exact ⟨S', [], ⟨rfl, rfl⟩, fun r hr => by simp at hr, ⟨hA, hM hP.2⟩, hS, hU⟩
  · rintro e w' ⟨news, ⟨rfl, rfl⟩, h2⟩
    exact ⟨rfl, h2⟩
theorem c_clock {Q : Own} {w0 w : World} {b : Nat} {s : St} {N : Int} {rows : List (Value × List Value)} (hC : Ctx (ChipP b s N) Q w0 w rows) (x : Int) (hx : 0 ≤ x ∧ x ≤ 15) (hN : N ≤ 1048575) (t : St) (y : Int) (ht : s.clock x = (t, y)) :
    Calls Tryz.prog 21 #[.pointer (some ⟨b, 0, none⟩), .int .i64 x] w fun e w' => e = .returned (.tuple #[.int .i64 y, .int .i64 0]) ∧ Ctx (ChipP b t (N + 1)) Q w0 w' rows := by
  have e1 : (s.clock x).1 = t := by rw [ht]
  have e2 : (s.clock x).2 = y := by rw [ht]
  refine c_post hC t (fun h => by rw [← e1]; exact clock_invW h x) (fun S hA hI => ?_)
  rw [← e1, ← e2]
  exact chip_clockW table_said b x s S w hA N hI (by omega) hx
theorem c_nextl {Q : Own} {w0 w : World} {b : Nat} {s : St} {N : Int} {rows : List (Value × List Value)} (hC : Ctx (ChipP b s N) Q w0 w rows) (xs : List Int) (m : Nat) (hm : xs.length = m) (h1 : 1 ≤ m) (h16 : m ≤ 16) (hb : ∀ x ∈ xs, 1 ≤ x ∧ x ≤ 400) :
    Calls Tryz.prog 24 #[.pointer (some ⟨b, 0, none⟩), .slice (some ⟨w.heap.size, 0, none⟩) m m] (w.alloc (.cells (ints xs).toArray 3)) fun e w' => e = .returned (.int .i64 0) ∧ Ctx (ChipP b { s with busy := xs } N) Q w0 w' rows := by
  have h := hC.lit (ints xs) 3 m (by rw [ints_len]; exact hm) (by omega)
  have hrs := h.rs 0 rfl
  have hba : xs.any badD = false := by
    rw [List.any_eq_false]
    intro x hx
    have := hb x hx
    simp only [badD, decide_eq_true_eq]
    omega
  refine (c_post h { s with busy := xs } (M := N) (fun hI => ⟨⟨hI.1.size, hI.1.job, hI.1.addr, hI.1.told, hI.1.len, hI.1.data, hI.1.now, hI.1.mode, hI.1.op, hI.1.wipes, ⟨by show xs.length ≤ 16; omega, hb⟩⟩, hI.2⟩) (fun S hA _ => chip_next b s S _ hA _ xs hrs (by rintro rfl; simp at hm; omega) (by omega) hba)).mono ?_
  rintro e w' ⟨rfl, h2⟩
  exact ⟨rfl, h2.sub fun r hr => List.mem_cons.2 (.inr hr)⟩
theorem c_select {Q : Own} {w0 w : World} {b : Nat} {s : St} {N : Int} {rows : List (Value × List Value)} (hC : Ctx (ChipP b s N) Q w0 w rows) (hsel : s.sel = false) (t : St) (ht : s.select = t) :
    Calls Tryz.prog 17 #[.pointer (some ⟨b, 0, none⟩)] w fun e w' => e = .returned (.int .i64 0) ∧ Ctx (ChipP b t N) Q w0 w' rows := by
  subst ht
  exact c_post hC s.select (fun h => select_invW h) (fun S hA _ => chip_select b s S w hA hsel)
theorem c_deselect {Q : Own} {w0 w : World} {b : Nat} {s : St} {N : Int} {rows : List (Value × List Value)} (hC : Ctx (ChipP b s N) Q w0 w rows) (hsel : s.sel = true) (hN : N ≤ 1048576) (t : St) (ht : s.deselect = t) :
    Calls Tryz.prog 19 #[.pointer (some ⟨b, 0, none⟩)] w fun e w' => e = .returned (.int .i64 0) ∧ Ctx (ChipP b t (N + 1)) Q w0 w' rows := by
  subst ht
  exact c_post hC s.deselect (fun h => deselect_invW h hsel) (fun S hA hI => chip_deselect b s S w hA N (hI.inv hsel) hN hsel)
end Go.Proofs.YteombggfmeilaaaGreat
namespace Go.Proofs.YteombggfmeilaaaGreat
open Go.RowKit
theorem Ctx.nilrow {P Q : Own} {w0 w : World} {rows : List (Value × List Value)} (hC : Ctx P Q w0 w rows) : Ctx P Q w0 w ((.slice none 0 0, ints []) :: rows) := by
  obtain ⟨S, h1, h2, h3⟩ := hC.all
  refine ⟨hC.okP, hC.okQ, hC.upd, S, h1, h2, fun r hr => ?_⟩
  rcases List.mem_cons.1 hr with rfl | hr
  · exact ⟨RS.nil w, fun k hk => by simp [Value.ownBlock] at hk, fun k hk => by simp [Value.ownBlock] at hk⟩
  · exact h3 r hr
/-- A row of the call's own that has just been laid. -/
theorem row_lit (w : World) (e : TypeId) (vs : List Value) (n : Nat) (hn : vs.length = n) (hl : n ≤ 1048576) : Row (w.alloc (.cells vs.toArray e)) e (.slice (some ⟨w.heap.size, 0, none⟩) n n) vs := by
  subst hn
  have h := World.ownsRow_lit (base := 0) (e := e) (size := 1) w vs.toArray vs.length (Nat.zero_le _) (by unfold maxLen; omega) (by simp)
  unfold Row
  simpa using h
/-- A row of the call's own has been written. -/
theorem Ctx.write {P Q : Own} {w0 w w' : World} {rows : List (Value × List Value)} {v v' : Value} {vs vs' : List Value} (hC : Ctx P Q w0 w rows) (i : Nat) (hi : rows[i]? = some (v, vs)) (hv0 : ∀ k, v.ownBlock = some k → w0.heap.size ≤ k) (hU : Upd (fun k => v.ownBlock = some k) w w') (hR : RS w' v' vs') (hv' : ∀ k, v'.ownBlock = some k → (v.ownBlock = some k ∨ w.heap.size ≤ k) ∧ k < w'.heap.size)
    (rest : List (Value × List Value)) (hr : ∀ r ∈ rest, r ∈ rows ∧ ∀ k, r.1.ownBlock = some k → v.ownBlock ≠ some k) (hz : Mk w' v') : Ctx P Q w0 w' ((v', vs') :: rest) := by
  obtain ⟨S, h1, h2, h3⟩ := hC.all
  have hv := (h3 _ (List.mem_of_getElem? hi)).2.1
  have hlt := (hC.okP.star hC.okQ).lt h1
  refine ⟨hC.okP, hC.okQ, hC.upd.trans hU (fun k h4 h5 => absurd (hv0 k h5) (by omega)), S, (hC.okP.star hC.okQ).frame h1 hU (fun k hk he => (hv k he).2 hk), h2, fun r hr' => ?_⟩
  rcases List.mem_cons.1 hr' with rfl | hr'
  · refine ⟨hR, fun k hk => ⟨(hv' k hk).2, fun hs => ?_⟩, fun k hk _ => hz k hk⟩
    rcases (hv' k hk).1 with h | h
    · exact (hv k h).2 hs
    · have := hlt k hs; omega
  · obtain ⟨h4, h5, h6⟩ := h3 r (hr r hr').1
    exact ⟨h4.upd hU (fun k _ he hk => (hr r hr').2 k he hk), fun k hk => ⟨Nat.lt_of_lt_of_le (h5 k hk).1 hU.size, (h5 k hk).2⟩, fun k hk h0 j => (hU.frozen (p := ⟨k, j, none⟩) (h5 k hk).1 (fun e => (hr r hr').2 k hk e)).trans (h6 k hk h0 j)⟩
theorem take_snoc' (zs : List Int) (f : Int → Int) (i : Nat) (h : i < zs.length) : (zs.map f).take (i + 1) = (zs.map f).take i ++ [f (zs.getD i 0)] := by
  rw [List.take_add_one]
  simp [List.getD_eq_getElem?_getD, List.getElem?_eq_getElem h]
theorem Ctx.step {P P' Q : Own} {w0 w w' : World} {rows : List (Value × List Value)} (hC : Ctx P Q w0 w rows) (hP' : P'.Ok) (h : ∀ S, P w S → ∃ S', P' w' S' ∧ (∀ k, S' k → S k ∨ w.heap.size ≤ k) ∧ Upd S w w') : Ctx P' Q w0 w' rows := by
  obtain ⟨S, ⟨A, B, hA, hB, hd, hS⟩, h2, h3⟩ := hC.all
  obtain ⟨A', hA', hs, hu⟩ := h A hA
  have h0 := hC.upd.size
  refine ⟨hP', hC.okQ, hC.upd.trans hu (fun k hk ha => by have := h2 k ((hS k).2 (.inl ha)); omega), fun k => A' k ∨ B k, ⟨A', B, hA', hC.okQ.frame hB hu (fun k hb ha => hd k ha hb), fun k ha hb => ?_, fun _ => Iff.rfl⟩, ?_, ?_⟩
  · rcases hs k ha with h1 | h1
    · exact hd k h1 hb
    · have := hC.okQ.lt hB k hb; omega
  · rintro k (h1 | h1)
    · rcases hs k h1 with h4 | h4
      · exact h2 k ((hS k).2 (.inl h4))
      · omega
    · exact h2 k ((hS k).2 (.inr h1))
  · intro r hr
    refine (h3 r hr).upd hu (fun k hk => .inl ((hS k).2 (.inl hk))) ?_
    rintro k (h6 | h6)
    · rcases hs k h6 with h7 | h7
      · exact .inl ((hS k).2 (.inl h7))
      · exact .inr h7
    · exact .inl ((hS k).2 (.inr h6))
/-- A new object in the place of none. -/
theorem Ctx.add {P R : Own} {w0 w w' : World} {rows : List (Value × List Value)} (hC : Ctx P .emp w0 w rows) (hR : R.Ok) (hu : Upd none' w w') {B : Nat → Prop} (hB : R w' B) (hn : ∀ k, B k → w.heap.size ≤ k) : Ctx P R w0 w' rows := by
  obtain ⟨S, ⟨A, E, hA, hE, hd, hS⟩, h2, h3⟩ := hC.all
  have h0 := hC.upd.size
  have hlt := hC.okP.lt hA
  refine ⟨hC.okP, hR, hC.upd.trans hu (fun _ _ f => f), fun k => A k ∨ B k, ⟨A, B, hC.okP.frame hA hu (fun _ _ f => f), hB, fun k ha hb => ?_, fun _ => Iff.rfl⟩, ?_, ?_⟩
  · have := hlt k ha; have := hn k hb; omega
  · rintro k (h1 | h1)
    · exact h2 k ((hS k).2 (.inl h1))
    · have := hn k h1; omega
  · intro r hr
    refine (h3 r hr).upd hu (fun _ f => f.elim) ?_
    rintro k (h6 | h6)
    · exact .inl ((hS k).2 (.inl h6))
    · exact .inr (hn k h6)
theorem Ctx.tl {P Q : Own} {w0 w : World} {r : Value × List Value} {rows : List (Value × List Value)} (hC : Ctx P Q w0 w (r :: rows)) : Ctx P Q w0 w rows := hC.sub fun _ h => List.mem_cons.2 (.inr h)
/-- A greater bound of a chip's counts. -/
theorem Ctx.up {Q : Own} {w0 w : World} {b : Nat} {s : St} {N M : Int} {rows : List (Value × List Value)} (hC : Ctx (ChipP b s N) Q w0 w rows) (h : N ≤ M) : Ctx (ChipP b s M) Q w0 w rows :=
  hC.step (chipP_ok b s M) (fun S hS => ⟨S, ⟨hS.1, hS.2.mono h⟩, fun _ hk => .inl hk, Upd.refl _ _⟩)
theorem Ctx.below {P Q : Own} {w0 w : World} {rows : List (Value × List Value)} (hC : Ctx P Q w0 w rows) : ∀ r ∈ rows, ∀ k, r.1.ownBlock = some k → k < w.heap.size := by
  obtain ⟨S, h1, h2, h3⟩ := hC.all
  exact fun r hr k hk => ((h3 r hr).2.1 k hk).1
theorem Ctx.write0 {P Q : Own} {w0 w w' : World} {v v' : Value} {vs vs' : List Value} {rest : List (Value × List Value)} (hC : Ctx P Q w0 w ((v, vs) :: rest)) (hv0 : ∀ k, v.ownBlock = some k → w0.heap.size ≤ k) (hU : Upd (fun k => v.ownBlock = some k) w w') (hR : RS w' v' vs') (hv' : ∀ k, v'.ownBlock = some k → (v.ownBlock = some k ∨ w.heap.size ≤ k) ∧ k < w'.heap.size)
    (hne : ∀ r ∈ rest, ∀ k, r.1.ownBlock = some k → v.ownBlock ≠ some k) (hz : Mk w' v') : Ctx P Q w0 w' ((v', vs') :: rest) :=
  hC.write 0 rfl hv0 hU hR hv' rest (fun r hr => ⟨List.mem_cons.2 (.inr hr), hne r hr⟩) hz
theorem RS.takeN {w : World} {a : Option Addr} {n c : Nat} {vs : List Value} (h : RS w (.slice a n c) vs) (k : Nat) (hk : k ≤ n) : RS w (.slice a k c) (vs.take k) := by
  obtain ⟨f1, a', cap, e, f4, f5⟩ := h
  simp only [Value.slice.injEq] at e
  obtain ⟨rfl, rfl, rfl⟩ := e
  have hl : (vs.take k).length = k := by rw [List.length_take, Nat.min_eq_left hk]
  refine ⟨by omega, a, c, by rw [hl], by omega, fun hn => ?_⟩
  obtain ⟨b, o, e2, h7, h8⟩ := f5 (by intro h; rw [h] at hn; simp at hn)
  refine ⟨b, o, e2, h7, fun j hj => ?_⟩
  rw [hl] at hj
  rw [h8 j (by omega), List.getElem?_take, if_pos hj]
/-- A beginning of a row that is read. -/
theorem Ctx.head {P Q : Own} {w0 w : World} {rows : List (Value × List Value)} (hC : Ctx P Q w0 w rows) (i : Nat) (a : Option Addr) (n c : Nat) (xs : List Int) (hi : rows[i]? = some (.slice a n c, ints xs)) (k : Nat) (hk : k ≤ n) : Ctx P Q w0 w ((.slice a k c, ints (xs.take k)) :: rows) := by
  obtain ⟨S, h1, h2, h3⟩ := hC.all
  refine ⟨hC.okP, hC.okQ, hC.upd, S, h1, h2, fun r hr => ?_⟩
  rcases List.mem_cons.1 hr with rfl | hr
  · obtain ⟨h4, h5, h6⟩ := h3 _ (List.mem_of_getElem? hi)
    refine ⟨?_, fun q hq => h5 q (by rw [show (Value.slice a n c).ownBlock = (Value.slice a k c).ownBlock from by cases a <;> rfl]; exact hq), fun q hq => h6 q (by rw [show (Value.slice a n c).ownBlock = (Value.slice a k c).ownBlock from by cases a <;> rfl]; exact hq)⟩
    have := RS.takeN h4 k hk
    unfold ints at this ⊢
    rw [List.map_take]
    exact this
  · exact h3 r hr
/-- Bytes in a block of the call's own. -/
def BufP (g : Nat) (l : List UInt8) : Own := fun w S => Buf w g l 5 ∧ ∀ k, S k ↔ k = g
theorem bufP_ok (g : Nat) (l : List UInt8) : (BufP g l).Ok := ⟨fun h u hT => ⟨h.1.upd u (hT g ((h.2 g).2 rfl)), h.2⟩, fun h k hk => by rw [(h.2 k).1 hk]; exact h.1.lt⟩
theorem Ctx.buf {P : Own} {w0 w : World} {g : Nat} {l : List UInt8} {rows : List (Value × List Value)} (hC : Ctx P (BufP g l) w0 w rows) : Buf w g l 5 := by
  obtain ⟨S, ⟨A, B, hA, hB, _⟩, _⟩ := hC.all
  exact hB.1
theorem Ctx.bufSet {P : Own} {w0 w : World} {g : Nat} {l : List UInt8} {rows : List (Value × List Value)} (hC : Ctx P (BufP g l) w0 w rows) (j : Nat) (hj : j < l.length) (c : UInt8) : Ctx P (BufP g (l.set j c)) w0 (w.setCell ⟨g, j, none⟩ (.int .u8 c.toNat)) rows := by
  refine (hC.commQ.step (bufP_ok g (l.set j c)) (fun S hS => ⟨S, ⟨hS.1.set hj c, hS.2⟩, fun k hk => .inl hk, (Upd.refl _ _).setCell _ _ (fun _ => (hS.2 g).2 rfl)⟩)).commQ
theorem Ctx.bytes {P : Own} {w0 w : World} {rows : List (Value × List Value)} (hC : Ctx P .emp w0 w rows) (s : ByteArray) : Ctx P (BufP w.heap.size s.data.toList) w0 (Lib.bytesWorld w 5 s) rows :=
  hC.add (bufP_ok _ _) (upd_bytes w 5 s) (B := fun k => k = w.heap.size) ⟨Buf.of_bytes w 5 s, fun _ => Iff.rfl⟩ (fun k hk => by omega)
theorem wpList_appRS2 {P : Program} {w : World} {ops : Array Oper} {rest : List Oper} {o : Oper} {a : Act} {Q : Exit → Act → World → Prop} (hgd : o.guard = none) (s x : Operand) (t : TypeId)
    (ho : o.op = .call { callee := .builtin .append, args := #[s, x], argTypes := #[t, t] })
    (e : TypeId) (z : Value) (bytes : Nat) (ht : P.underlying t = some (.slice e)) (hi : (P.info? e).map (fun i => (i.zero, i.size, i.bytes)) = some (some z, 1, bytes)) (hzs : z.cells.size = 1)
    (v : Value) (xs : List Value) (n : Nat) (hn : xs.length = n) (hs : a.eval s = v) (hown : Row w e v xs)
    (ao : Option Addr) (m c : Nat) (hx : a.eval x = .slice ao m c) (news : List Value) (hr : RS w (.slice ao m c) news) (hc : ao = none → c = 0) (hne0 : news = [] → ao = none) (h1 : ∀ u ∈ news, u.oneCell' = true)
    (hlen : n + m ≤ 1048576) (hbytes : (n + m) * bytes ≤ 140737488355328)
    (h : ∀ v' w', Row w' e v' (xs ++ news) → Upd (fun k => v.ownBlock = some k) w w' → (∀ k, v'.ownBlock = some k → v.ownBlock = some k ∨ w.heap.size ≤ k) → wpList P ops Q rest (a.put o.dst v') w') : wpList P ops Q (o :: rest) a w := by
  subst hn
  obtain ⟨i0, hi0, hz0, hz1, hz2⟩ := info_parts hi
  obtain ⟨h2, a', cap, e0, h4, h5⟩ := hr
  simp only [Value.slice.injEq] at e0
  obtain ⟨rfl, rfl, rfl⟩ := e0
  cases ao with
  | none =>
    have hne : news = [] := by
      rcases Classical.em (news = []) with h | h
      · exact h
      · obtain ⟨b, o, e, _⟩ := h5 h
        simp at e
    subst hne
    have hc' := hc rfl
    subst hc'
    refine wpList_append_own_none hgd s x t ho 0 e i0 1 ht hi0 v xs.length xs hs hown hx (h v w (by rw [List.append_nil]; exact hown) (Upd.refl _ w) (fun k hk => .inl hk))
  | some ad =>
    by_cases hz : news = []
    · cases hne0 hz
    · obtain ⟨b, o', e2, hb, hcell⟩ := h5 hz
      simp only [Option.some.injEq] at e2
      subst e2
      have hm : 0 < news.length := List.length_pos_iff.2 hz
      refine wpList_app hgd s x t ho e z bytes ht hi hzs v xs hs hown ⟨b, o', none⟩ news.length c news hx rfl ?_ h1 hm (by omega) (by omega) hbytes ?_
      · intro j u hu
        have hj : j < news.length := (List.getElem?_eq_some_iff.1 hu).1
        have ea : (⟨b, o', none⟩ : Addr).add j = ⟨b, o' + j, none⟩ := by unfold Addr.add; split <;> simp_all
        rw [ea, hcell j hj, hu]
      · intro g cap' w' hR hU hg hlt
        have hl : (xs ++ news).length = xs.length + news.length := List.length_append
        refine h _ w' hR hU (fun k hk => ?_)
        simp only [Value.ownBlock, Option.some.injEq] at hk
        rw [← hk]
        rcases hg with e | e
        · exact .inl e
        · exact .inr (by omega)
end Go.Proofs.YteombggfmeilaaaGreat
