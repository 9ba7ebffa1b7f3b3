/- Slices of one-cell elements that the call itself has made: 'Row'; append onto them; make of a known size. -/
import Derived.Test.YtjdjdfllggpckaaGreatBase
import Derived.Deep.AppendLies
namespace Go.Proofs.YtjdjdfllggpckaaGreat
open Go.RowKit
/-- v is a slice of the call's own (element type e) that holds xs. -/
def Row (w : World) (e : TypeId) (v : Value) (xs : List Value) : Prop := w.ownsRow 0 e 1 v xs.length xs
theorem Row.nil (w : World) (e : TypeId) : Row w e (.slice none 0 0) [] := World.ownsRow_nil _ _ _ _
theorem Row.upd {S : Nat → Prop} {w w' : World} {e : TypeId} {v : Value} {xs : List Value} (h : Row w e v xs) (u : Upd S w w') (hS : ∀ k, v.ownBlock = some k → ¬ S k) : Row w' e v xs := by
  obtain ⟨h1, h2⟩ := h
  refine ⟨h1, ?_⟩
  rcases h2 with h2 | ⟨g, cap, cur, hv, hg, hh, r⟩
  · exact Or.inl h2
  · exact Or.inr ⟨g, cap, cur, hv, hg, by rw [u.block g (Array.getElem?_eq_some_iff.1 hh).1 (hS g (by rw [hv]; rfl))]; exact hh, r⟩
theorem Row.form {w : World} {e : TypeId} {v : Value} {xs : List Value} (h : Row w e v xs) :
    ∃ ao cap, v = .slice ao xs.length cap ∧ xs.length ≤ cap ∧ (ao = none → xs = [] ∧ cap = 0) ∧ (∀ ad, ao = some ad → ∃ g, ad = ⟨g, 0, none⟩ ∧ v.ownBlock = some g ∧ g < w.heap.size ∧ (∀ j, j < xs.length → w.cell? ⟨g, j, none⟩ = xs[j]?) ∧ ∀ j, w.frozen? ⟨g, j, none⟩ = false) := by
  have h0 := h
  obtain ⟨h1, h2⟩ := h
  rcases h2 with ⟨hv, hn⟩ | ⟨g, cap, cur, hv, hg, hh, r1, r2, r3, r4⟩
  · refine ⟨none, 0, by rw [hv, hn], by omega, fun _ => ⟨List.eq_nil_of_length_eq_zero hn, rfl⟩, fun ad h => by cases h⟩
  · subst hv
    refine ⟨some ⟨g, 0, none⟩, cap, rfl, r1, fun h => (by cases h), fun ad had => ?_⟩
    cases had
    refine ⟨g, rfl, rfl, (Array.getElem?_eq_some_iff.1 hh).1, fun j hj => World.ownsRow.cellAt h0 j (by omega), fun j => World.ownsRow.frozenAt h0 j⟩
theorem Row.lt {w : World} {e : TypeId} {v : Value} {xs : List Value} (h : Row w e v xs) : ∀ k, v.ownBlock = some k → k < w.heap.size := fun k hk => (World.ownsRow.lt h k hk).2
/-- 'append(out, x ..)' of at least one element, in the walk. -/
theorem wpList_app {P : Program} {w : World} {ops : Array Oper} {rest : List Oper} {o : Oper} {a : Act} {Q : Exit → Act → World → Prop} (hgd : o.guard = none) (s x : Operand) (t : TypeId)
    (ho : o.op = .call { callee := .builtin .append, args := #[s, x], argTypes := #[t, t] })
    (e : TypeId) (z : Value) (bytes : Nat) (ht : P.underlying t = some (.slice e)) (hi : (P.info? e).map (fun i => (i.zero, i.size, i.bytes)) = some (some z, 1, bytes)) (hzs : z.cells.size = 1)
    (v : Value) (xs : List Value) (hs : a.eval s = v) (hown : Row w e v xs)
    (ad : Addr) (m c : Nat) (news : List Value) (hx : a.eval x = .slice (some ad) m c) (hl : news.length = m) (hnews : ∀ j u, news[j]? = some u → w.cell? (ad.add j) = some u) (h1 : ∀ u ∈ news, u.oneCell' = true)
    (hm : 0 < m) (hlen : xs.length ≤ 17592186044416) (hlm : m ≤ 1048576) (hbytes : (xs.length + m) * bytes ≤ 140737488355328)
    (h : ∀ g cap w', Row w' e (.slice (some ⟨g, 0, none⟩) (xs.length + m) cap) (xs ++ news) → Upd (fun k => v.ownBlock = some k) w w' → (v.ownBlock = some g ∨ g = w.heap.size) → g < w'.heap.size → wpList P ops Q rest (a.put o.dst (.slice (some ⟨g, 0, none⟩) (xs.length + m) cap)) w') : wpList P ops Q (o :: rest) a w := by
  obtain ⟨i0, hi0, hz0, hz1, hz2⟩ := info_parts hi
  refine wpList_append_lies w hgd s x t ho 0 e i0 z 1 bytes ht hi0 hz0 hz1 hz2 hzs (by decide) v xs.length xs hs hown ad m c news hx (by omega) hnews h1 hm (by unfold maxLen; omega) hbytes (Nat.zero_le _) w.heap.size rfl ?_
  intro g cap w' h2 h3 h4 h5
  refine h g cap w' ?_ ((Upd.refl _ w).grown h3 (fun k hk _ => hk)) h4 h5
  unfold Row
  rw [List.length_append, hl]; exact h2
theorem Upd.of_alike {S : Nat → Prop} {a b c : World} (g : b.Alike a) (h : Upd S b c) : Upd S a c :=
  ((Upd.refl S a).alike g).trans h (fun _ _ k => k)
/-- 'append(out, u)', in the walk: u has just been laid in a block of its own. -/
theorem wpList_app1 {P : Program} {w : World} {ops : Array Oper} {rest : List Oper} {o : Oper} {a : Act} {Q : Exit → Act → World → Prop} (hgd : o.guard = none) (s x : Operand) (t : TypeId)
    (ho : o.op = .call { callee := .builtin .append, args := #[s, x], argTypes := #[t, t] })
    (e : TypeId) (z : Value) (bytes : Nat) (ht : P.underlying t = some (.slice e)) (hi : (P.info? e).map (fun i => (i.zero, i.size, i.bytes)) = some (some z, 1, bytes)) (hzs : z.cells.size = 1)
    (v : Value) (xs : List Value) (n : Nat) (hn : xs.length = n) (hs : a.eval s = v) (w0 : World) (u : Value) (hA : w.Alike (w0.alloc (.cells #[u] e))) (hown : Row w0 e v xs)
    (hx : a.eval x = .slice (some ⟨w0.heap.size, 0, none⟩) 1 1) (hu : u.oneCell' = true) (hlen : n ≤ 17592186044415) (hbytes : (n + 1) * bytes ≤ 140737488355328)
    (h : ∀ g cap w', Row w' e (.slice (some ⟨g, 0, none⟩) (n + 1) cap) (xs ++ [u]) → Upd (fun k => v.ownBlock = some k) w0 w' → (v.ownBlock = some g ∨ w0.heap.size ≤ g) → g < w'.heap.size → wpList P ops Q rest (a.put o.dst (.slice (some ⟨g, 0, none⟩) (n + 1) cap)) w') : wpList P ops Q (o :: rest) a w := by
  subst hn
  have hU : Upd none' w0 w := ((Upd.refl none' w0).alloc _).alike hA
  refine wpList_app hgd s x t ho e z bytes ht hi hzs v xs hs (hown.upd hU (fun _ _ f => f)) ⟨w0.heap.size, 0, none⟩ 1 1 [u] hx rfl ?_ ?_ (by decide) (by omega) (by decide) hbytes ?_
  · intro j u' hj
    match j, hj with
    | 0, hj =>
      simp at hj; subst hj
      have := (Blk.new w0 [u] e).alike hA
      have := this.cell 0
      simpa [Addr.add] using this
    | j + 1, hj => simp at hj
  · intro u' hu'
    simp at hu'; subst hu'; exact hu
  · intro g cap w' h1 h2 h3 h4
    refine h g cap w' h1 ((hU.mono (fun _ _ f => f.elim)).trans h2 (fun _ _ k => k)) ?_ h4
    rcases h3 with h3 | h3
    · exact .inl h3
    · exact .inr (by rw [h3]; exact hU.size)
/-- 'append(out, src...)' onto a slice of the call's own whose blocks begin at base; src may be empty. -/
theorem wpList_appS {P : Program} {w : World} {ops : Array Oper} {rest : List Oper} {o : Oper} {a : Act} {Q : Exit → Act → World → Prop} (hgd : o.guard = none) (s x : Operand) (t : TypeId)
    (ho : o.op = .call { callee := .builtin .append, args := #[s, x], argTypes := #[t, t] })
    (e : TypeId) (z : Value) (bytes : Nat) (ht : P.underlying t = some (.slice e)) (hi : (P.info? e).map (fun i => (i.zero, i.size, i.bytes)) = some (some z, 1, bytes)) (hzs : z.cells.size = 1)
    (base : Nat) (v : Value) (n : Nat) (xs : List Value) (hs : a.eval s = v) (hown : w.ownsRow base e 1 v n xs)
    (ao : Option Addr) (ad : Addr) (m c : Nat) (news : List Value) (hx : a.eval x = .slice ao m c) (hao : ao = some ad) (hl : news.length = m) (hnews : ∀ j u, news[j]? = some u → w.cell? (ad.add j) = some u) (h1 : ∀ u ∈ news, u.oneCell' = true)
    (hlen : n + m ≤ 17592186044416) (hbytes : (n + m) * bytes ≤ 140737488355328) (hbase : base ≤ w.heap.size)
    (h : ∀ v' w', w'.ownsRow base e 1 v' (n + m) (xs ++ news) → Upd (fun k => v.ownBlock = some k) w w' → wpList P ops Q rest (a.put o.dst v') w') : wpList P ops Q (o :: rest) a w := by
  obtain ⟨i0, hi0, hz0, hz1, hz2⟩ := info_parts hi
  subst hao
  refine wpList_append_own w hgd s x t ho base e i0 z 1 bytes ht hi0 hz0 hz1 hz2 hzs (by decide) v n xs hs hown ad m c news hx (by omega) hnews h1 (by unfold maxLen; omega) hbytes hbase ?_
  intro v' w' h2 h3 _
  exact h v' w' h2 ((Upd.refl _ w).grown h3 (fun k hk _ => hk))
theorem Row.of_own {w : World} {base : Nat} {e : TypeId} {v : Value} {n : Nat} {xs : List Value} (h : w.ownsRow base e 1 v n xs) : Row w e v xs ∧ ∀ k, v.ownBlock = some k → base ≤ k := by
  refine ⟨?_, fun k hk => (World.ownsRow.lt h k hk).1⟩
  have hn := h.1
  obtain ⟨h1, h2⟩ := h
  have hx : xs.length = n := by omega
  subst hx
  refine ⟨by omega, ?_⟩
  rcases h2 with h2 | ⟨g, cap, cur, hv, hg, r⟩
  · exact .inl h2
  · exact .inr ⟨g, cap, cur, hv, Nat.zero_le _, r⟩
theorem own_empty (w : World) (e : TypeId) : (w.alloc (.cells #[] e)).ownsRow w.heap.size e 1 (.slice (some ⟨w.heap.size, 0, none⟩) 0 0) 0 [] :=
  World.ownsRow_made w #[] 0 (Nat.le_refl _) (by unfold maxLen; omega) (by simp)
end Go.Proofs.YtjdjdfllggpckaaGreat
