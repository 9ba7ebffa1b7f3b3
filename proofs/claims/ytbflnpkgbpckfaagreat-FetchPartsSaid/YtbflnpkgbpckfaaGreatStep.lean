/- 'append' of one element at a step of a region that draws its order. -/
import Derived.Test.YtbflnpkgbpckfaaGreatLow
import Derived.Deep.RegionHeld3
namespace Go.Proofs.YtbflnpkgbpckfaaGreat
open Go.RowKit
theorem step_app1 {P : Program} {w : World} {ops : Array Oper} {o : Oper} {a : Act} {K : Act → World → Prop} {Q : Exit → Act → World → Prop} {E : Prop} (hgd : o.guard = none) (s x : Operand) (t : TypeId)
    (ho : o.op = .call { callee := .builtin .append, args := #[s, x], argTypes := #[t, t] })
    (e : TypeId) (z : Value) (bytes : Nat) (ht : P.underlying t = some (.slice e)) (hi : (P.info? e).map (fun i => (i.zero, i.size, i.bytes)) = some (some z, 1, bytes)) (hzs : z.cells.size = 1)
    (v : Value) (xs : List Value) (n : Nat) (hn : xs.length = n) (hs : a.eval s = v) (w0 : World) (u : Value) (hA : w.Alike (w0.alloc (.cells #[u] e))) (hown : Row w0 e v xs)
    (hx : a.eval x = .slice (some ⟨w0.heap.size, 0, none⟩) 1 1) (hu : u.oneCell' = true) (hlen : n ≤ 17592186044415) (hbytes : (n + 1) * bytes ≤ 140737488355328)
    (h : ∀ g cap w', Row w' e (.slice (some ⟨g, 0, none⟩) (n + 1) cap) (xs ++ [u]) → Upd (fun k => v.ownBlock = some k) w0 w' → (v.ownBlock = some g ∨ w0.heap.size ≤ g) → g < w'.heap.size → K (a.put o.dst (.slice (some ⟨g, 0, none⟩) (n + 1) cap)) w') :
    if Region.wanted o (yielded ops a.tmps) = true then Oper.wp P o a w K Q else E := by
  subst hn
  obtain ⟨i0, hi0, hz0, hz1, hz2⟩ := info_parts hi
  have hU : Upd none' w0 w := ((Upd.refl none' w0).alloc _).alike hA
  refine step_append_lies w hgd s x t ho 0 e i0 z 1 bytes ht hi0 hz0 hz1 hz2 hzs (by decide) v xs.length xs hs (hown.upd hU (fun _ _ f => f)) ⟨w0.heap.size, 0, none⟩ 1 1 [u] hx rfl ?_ ?_ (by decide) (by unfold maxLen; omega) hbytes (Nat.zero_le _) w.heap.size rfl ?_
  · intro j u' hj
    match j, hj with
    | 0, hj =>
      simp at hj; subst hj
      have := (Blk.new w0 [u] e).alike hA
      have := this.cell 0
      simpa [Addr.add] using this
    | j + 1, hj => simp at hj
  · intro u' hu'
    simp at hu'; subst hu'; exact hu
  · intro g cap w' h2 h3 h4 h5
    refine h g cap w' ?_ ((hU.mono (fun _ _ f => f.elim)).trans ((Upd.refl _ w).grown h3 (fun k hk _ => hk)) (fun _ _ k => k)) ?_ h5
    · unfold Row
      rw [List.length_append]; exact h2
    · rcases h4 with h4 | h4
      · exact .inl h4
      · exact .inr (by rw [h4]; exact hU.size)
end Go.Proofs.YtbflnpkgbpckfaaGreat
