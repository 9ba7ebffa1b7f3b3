/- More of what a law holds: rows that are written, objects that are made or turned without a call; bytes of the call's own. -/
import Derived.Test.YtbflnpkgbpckfaaGreatCtxK
import Derived.Laws.OwnMore
namespace Go.Proofs.YtbflnpkgbpckfaaGreat
open Go.RowKit
theorem Ctx.nilrow {P Q : Own} {w0 w : World} {rows : List (Value × List Value)} (hC : Ctx P Q w0 w rows) : Ctx P Q w0 w ((.slice none 0 0, ints []) :: rows) := by
  obtain ⟨S, h1, h2, h3⟩ := hC.all
  refine ⟨hC.okP, hC.okQ, hC.upd, S, h1, h2, fun r hr => ?_⟩
  rcases List.mem_cons.1 hr with rfl | hr
  · exact ⟨RS.nil w, fun k hk => by simp [Value.ownBlock] at hk⟩
  · exact h3 r hr
/-- A row of the call's own that has just been laid. -/
theorem row_lit (w : World) (e : TypeId) (vs : List Value) (n : Nat) (hn : vs.length = n) (hl : n ≤ 1048576) : Row (w.alloc (.cells vs.toArray e)) e (.slice (some ⟨w.heap.size, 0, none⟩) n n) vs := by
  subst hn
  have h := World.ownsRow_lit (base := 0) (e := e) (size := 1) w vs.toArray vs.length (Nat.zero_le _) (by unfold maxLen; omega) (by simp)
  unfold Row
  simpa using h
/-- A row of the call's own has been written. -/
theorem Ctx.write {P Q : Own} {w0 w w' : World} {rows : List (Value × List Value)} {v v' : Value} {vs vs' : List Value} (hC : Ctx P Q w0 w rows) (i : Nat) (hi : rows[i]? = some (v, vs)) (hv0 : ∀ k, v.ownBlock = some k → w0.heap.size ≤ k) (hU : Upd (fun k => v.ownBlock = some k) w w') (hR : RS w' v' vs') (hv' : ∀ k, v'.ownBlock = some k → (v.ownBlock = some k ∨ w.heap.size ≤ k) ∧ k < w'.heap.size)
    (rest : List (Value × List Value)) (hr : ∀ r ∈ rest, r ∈ rows ∧ ∀ k, r.1.ownBlock = some k → v.ownBlock ≠ some k) : Ctx P Q w0 w' ((v', vs') :: rest) := by
  obtain ⟨S, h1, h2, h3⟩ := hC.all
  have hv := (h3 _ (List.mem_of_getElem? hi)).2
  have hlt := (hC.okP.star hC.okQ).lt h1
  refine ⟨hC.okP, hC.okQ, hC.upd.trans hU (fun k h4 h5 => absurd (hv0 k h5) (by omega)), S, (hC.okP.star hC.okQ).frame h1 hU (fun k hk he => (hv k he).2 hk), h2, fun r hr' => ?_⟩
  rcases List.mem_cons.1 hr' with rfl | hr'
  · refine ⟨hR, fun k hk => ⟨(hv' k hk).2, fun hs => ?_⟩⟩
    rcases (hv' k hk).1 with h | h
    · exact (hv k h).2 hs
    · have := hlt k hs; omega
  · obtain ⟨h4, h5⟩ := h3 r (hr r hr').1
    exact ⟨h4.upd hU (fun k _ he hk => (hr r hr').2 k he hk), fun k hk => ⟨Nat.lt_of_lt_of_le (h5 k hk).1 hU.size, (h5 k hk).2⟩⟩
theorem take_snoc' (zs : List Int) (f : Int → Int) (i : Nat) (h : i < zs.length) : (zs.map f).take (i + 1) = (zs.map f).take i ++ [f (zs.getD i 0)] := by
  rw [List.take_add_one]
  simp [List.getD_eq_getElem?_getD, List.getElem?_eq_getElem h]
theorem Ctx.step {P P' Q : Own} {w0 w w' : World} {rows : List (Value × List Value)} (hC : Ctx P Q w0 w rows) (hP' : P'.Ok) (h : ∀ S, P w S → ∃ S', P' w' S' ∧ (∀ k, S' k → S k ∨ w.heap.size ≤ k) ∧ Upd S w w') : Ctx P' Q w0 w' rows := by
  obtain ⟨S, ⟨A, B, hA, hB, hd, hS⟩, h2, h3⟩ := hC.all
  obtain ⟨A', hA', hs, hu⟩ := h A hA
  have h0 := hC.upd.size
  refine ⟨hP', hC.okQ, hC.upd.trans hu (fun k hk ha => by have := h2 k ((hS k).2 (.inl ha)); omega), fun k => A' k ∨ B k, ⟨A', B, hA', hC.okQ.frame hB hu (fun k hb ha => hd k ha hb), fun k ha hb => ?_, fun _ => Iff.rfl⟩, ?_, ?_⟩
  · rcases hs k ha with h1 | h1
    · exact hd k h1 hb
    · have := hC.okQ.lt hB k hb; omega
  · rintro k (h1 | h1)
    · rcases hs k h1 with h4 | h4
      · exact h2 k ((hS k).2 (.inl h4))
      · omega
    · exact h2 k ((hS k).2 (.inr h1))
  · intro r hr
    refine (h3 r hr).upd hu (fun k hk => .inl ((hS k).2 (.inl hk))) ?_
    rintro k (h6 | h6)
    · rcases hs k h6 with h7 | h7
      · exact .inl ((hS k).2 (.inl h7))
      · exact .inr h7
    · exact .inl ((hS k).2 (.inr h6))
/-- A new object in the place of none. -/
theorem Ctx.add {P R : Own} {w0 w w' : World} {rows : List (Value × List Value)} (hC : Ctx P .emp w0 w rows) (hR : R.Ok) (hu : Upd none' w w') {B : Nat → Prop} (hB : R w' B) (hn : ∀ k, B k → w.heap.size ≤ k) : Ctx P R w0 w' rows := by
  obtain ⟨S, ⟨A, E, hA, hE, hd, hS⟩, h2, h3⟩ := hC.all
  have h0 := hC.upd.size
  have hlt := hC.okP.lt hA
  refine ⟨hC.okP, hR, hC.upd.trans hu (fun _ _ f => f), fun k => A k ∨ B k, ⟨A, B, hC.okP.frame hA hu (fun _ _ f => f), hB, fun k ha hb => ?_, fun _ => Iff.rfl⟩, ?_, ?_⟩
  · have := hlt k ha; have := hn k hb; omega
  · rintro k (h1 | h1)
    · exact h2 k ((hS k).2 (.inl h1))
    · have := hn k h1; omega
  · intro r hr
    refine (h3 r hr).upd hu (fun _ f => f.elim) ?_
    rintro k (h6 | h6)
    · exact .inl ((hS k).2 (.inl h6))
    · exact .inr (hn k h6)
theorem Ctx.tl {P Q : Own} {w0 w : World} {r : Value × List Value} {rows : List (Value × List Value)} (hC : Ctx P Q w0 w (r :: rows)) : Ctx P Q w0 w rows := hC.sub fun _ h => List.mem_cons.2 (.inr h)
/-- A greater bound of a chip's counts. -/
theorem Ctx.up {Q : Own} {w0 w : World} {b : Nat} {s : St} {N M : Int} {rows : List (Value × List Value)} (hC : Ctx (ChipP b s N) Q w0 w rows) (h : N ≤ M) : Ctx (ChipP b s M) Q w0 w rows :=
  hC.step (chipP_ok b s M) (fun S hS => ⟨S, ⟨hS.1, hS.2.mono h⟩, fun _ hk => .inl hk, Upd.refl _ _⟩)
theorem Ctx.below {P Q : Own} {w0 w : World} {rows : List (Value × List Value)} (hC : Ctx P Q w0 w rows) : ∀ r ∈ rows, ∀ k, r.1.ownBlock = some k → k < w.heap.size := by
  obtain ⟨S, h1, h2, h3⟩ := hC.all
  exact fun r hr k hk => ((h3 r hr).2 k hk).1
theorem Ctx.write0 {P Q : Own} {w0 w w' : World} {v v' : Value} {vs vs' : List Value} {rest : List (Value × List Value)} (hC : Ctx P Q w0 w ((v, vs) :: rest)) (hv0 : ∀ k, v.ownBlock = some k → w0.heap.size ≤ k) (hU : Upd (fun k => v.ownBlock = some k) w w') (hR : RS w' v' vs') (hv' : ∀ k, v'.ownBlock = some k → (v.ownBlock = some k ∨ w.heap.size ≤ k) ∧ k < w'.heap.size)
    (hne : ∀ r ∈ rest, ∀ k, r.1.ownBlock = some k → v.ownBlock ≠ some k) : Ctx P Q w0 w' ((v', vs') :: rest) :=
  hC.write 0 rfl hv0 hU hR hv' rest (fun r hr => ⟨List.mem_cons.2 (.inr hr), hne r hr⟩)
theorem RS.takeN {w : World} {a : Option Addr} {n c : Nat} {vs : List Value} (h : RS w (.slice a n c) vs) (k : Nat) (hk : k ≤ n) : RS w (.slice a k c) (vs.take k) := by
  obtain ⟨f1, a', cap, e, f4, f5⟩ := h
  simp only [Value.slice.injEq] at e
  obtain ⟨rfl, rfl, rfl⟩ := e
  have hl : (vs.take k).length = k := by rw [List.length_take, Nat.min_eq_left hk]
  refine ⟨by omega, a, c, by rw [hl], by omega, fun hn => ?_⟩
  obtain ⟨b, o, e2, h7, h8⟩ := f5 (by intro h; rw [h] at hn; simp at hn)
  refine ⟨b, o, e2, h7, fun j hj => ?_⟩
  rw [hl] at hj
  rw [h8 j (by omega), List.getElem?_take, if_pos hj]
/-- A beginning of a row that is read. -/
theorem Ctx.head {P Q : Own} {w0 w : World} {rows : List (Value × List Value)} (hC : Ctx P Q w0 w rows) (i : Nat) (a : Option Addr) (n c : Nat) (xs : List Int) (hi : rows[i]? = some (.slice a n c, ints xs)) (k : Nat) (hk : k ≤ n) : Ctx P Q w0 w ((.slice a k c, ints (xs.take k)) :: rows) := by
  obtain ⟨S, h1, h2, h3⟩ := hC.all
  refine ⟨hC.okP, hC.okQ, hC.upd, S, h1, h2, fun r hr => ?_⟩
  rcases List.mem_cons.1 hr with rfl | hr
  · obtain ⟨h4, h5⟩ := h3 _ (List.mem_of_getElem? hi)
    refine ⟨?_, fun q hq => h5 q (by rw [show (Value.slice a n c).ownBlock = (Value.slice a k c).ownBlock from by cases a <;> rfl]; exact hq)⟩
    have := RS.takeN h4 k hk
    unfold ints at this ⊢
    rw [List.map_take]
    exact this
  · exact h3 r hr
/-- Bytes in a block of the call's own. -/
def BufP (g : Nat) (l : List UInt8) : Own := fun w S => Buf w g l 5 ∧ ∀ k, S k ↔ k = g
theorem bufP_ok (g : Nat) (l : List UInt8) : (BufP g l).Ok := ⟨fun h u hT => ⟨h.1.upd u (hT g ((h.2 g).2 rfl)), h.2⟩, fun h k hk => by rw [(h.2 k).1 hk]; exact h.1.lt⟩
theorem Ctx.buf {P : Own} {w0 w : World} {g : Nat} {l : List UInt8} {rows : List (Value × List Value)} (hC : Ctx P (BufP g l) w0 w rows) : Buf w g l 5 := by
  obtain ⟨S, ⟨A, B, hA, hB, _⟩, _⟩ := hC.all
  exact hB.1
theorem Ctx.bufSet {P : Own} {w0 w : World} {g : Nat} {l : List UInt8} {rows : List (Value × List Value)} (hC : Ctx P (BufP g l) w0 w rows) (j : Nat) (hj : j < l.length) (c : UInt8) : Ctx P (BufP g (l.set j c)) w0 (w.setCell ⟨g, j, none⟩ (.int .u8 c.toNat)) rows := by
  refine (hC.commQ.step (bufP_ok g (l.set j c)) (fun S hS => ⟨S, ⟨hS.1.set hj c, hS.2⟩, fun k hk => .inl hk, (Upd.refl _ _).setCell _ _ (fun _ => (hS.2 g).2 rfl)⟩)).commQ
theorem Ctx.bytes {P : Own} {w0 w : World} {rows : List (Value × List Value)} (hC : Ctx P .emp w0 w rows) (s : ByteArray) : Ctx P (BufP w.heap.size s.data.toList) w0 (Lib.bytesWorld w 5 s) rows :=
  hC.add (bufP_ok _ _) (upd_bytes w 5 s) (B := fun k => k = w.heap.size) ⟨Buf.of_bytes w 5 s, fun _ => Iff.rfl⟩ (fun k hk => by omega)
theorem wpList_appRS2 {P : Program} {w : World} {ops : Array Oper} {rest : List Oper} {o : Oper} {a : Act} {Q : Exit → Act → World → Prop} (hgd : o.guard = none) (s x : Operand) (t : TypeId)
    (ho : o.op = .call { callee := .builtin .append, args := #[s, x], argTypes := #[t, t] })
    (e : TypeId) (z : Value) (bytes : Nat) (ht : P.underlying t = some (.slice e)) (hi : (P.info? e).map (fun i => (i.zero, i.size, i.bytes)) = some (some z, 1, bytes)) (hzs : z.cells.size = 1)
    (v : Value) (xs : List Value) (n : Nat) (hn : xs.length = n) (hs : a.eval s = v) (hown : Row w e v xs)
    (ao : Option Addr) (m c : Nat) (hx : a.eval x = .slice ao m c) (news : List Value) (hr : RS w (.slice ao m c) news) (hc : ao = none → c = 0) (hne0 : news = [] → ao = none) (h1 : ∀ u ∈ news, u.oneCell' = true)
    (hlen : n + m ≤ 1048576) (hbytes : (n + m) * bytes ≤ 140737488355328)
    (h : ∀ v' w', Row w' e v' (xs ++ news) → Upd (fun k => v.ownBlock = some k) w w' → (∀ k, v'.ownBlock = some k → v.ownBlock = some k ∨ w.heap.size ≤ k) → wpList P ops Q rest (a.put o.dst v') w') : wpList P ops Q (o :: rest) a w := by
  subst hn
  obtain ⟨i0, hi0, hz0, hz1, hz2⟩ := info_parts hi
  obtain ⟨h2, a', cap, e0, h4, h5⟩ := hr
  simp only [Value.slice.injEq] at e0
  obtain ⟨rfl, rfl, rfl⟩ := e0
  cases ao with
  | none =>
    have hne : news = [] := by
      rcases Classical.em (news = []) with h | h
      · exact h
      · obtain ⟨b, o, e, _⟩ := h5 h
        simp at e
    subst hne
    have hc' := hc rfl
    subst hc'
    refine wpList_append_own_none hgd s x t ho 0 e i0 1 ht hi0 v xs.length xs hs hown hx (h v w (by rw [List.append_nil]; exact hown) (Upd.refl _ w) (fun k hk => .inl hk))
  | some ad =>
    by_cases hz : news = []
    · cases hne0 hz
    · obtain ⟨b, o', e2, hb, hcell⟩ := h5 hz
      simp only [Option.some.injEq] at e2
      subst e2
      have hm : 0 < news.length := List.length_pos_iff.2 hz
      refine wpList_app hgd s x t ho e z bytes ht hi hzs v xs hs hown ⟨b, o', none⟩ news.length c news hx rfl ?_ h1 hm (by omega) (by omega) hbytes ?_
      · intro j u hu
        have hj : j < news.length := (List.getElem?_eq_some_iff.1 hu).1
        have ea : (⟨b, o', none⟩ : Addr).add j = ⟨b, o' + j, none⟩ := by unfold Addr.add; split <;> simp_all
        rw [ea, hcell j hj, hu]
      · intro g cap' w' hR hU hg hlt
        have hl : (xs ++ news).length = xs.length + news.length := List.length_append
        refine h _ w' hR hU (fun k hk => ?_)
        simp only [Value.ownBlock, Option.some.injEq] at hk
        rw [← hk]
        rcases hg with e | e
        · exact .inl e
        · exact .inr (by omega)
end Go.Proofs.YtbflnpkgbpckfaaGreat
