/- A cache is put into a variable's block; what is found, by two tests. -/
import Derived.Test.YtdlhhlebbnefkaaLineQ
namespace Go.Proofs.Ytdlhhlebbnefkaa
open Go.RowKit
theorem u8_wrap_byte (c : UInt8) : IntKind.u8.wrap (c.toNat : Int) = (c.toNat : Int) := by
  have h : IntKind.u8.wrap (c.toNat : Int) = (c.toNat : Int) % 256 := by first | exact IntKind.wrap_u8 _ | rfl
  rw [h]; have := c.toNat_lt; omega
theorem put_cache {W : World} {oc : Nat} {x0 x1 x2 : Value} {a1 a2 : Option Addr} {c1 c2 : Nat} {xs : List Int} {ts : List ByteArray} {nx : Int} (hB : Blk W oc [x0, x1, x2] 42) (hC : CR W a1 c1 a2 c2 xs ts)
    (n1 : ∀ k, (Value.slice a1 2 c1).ownBlock = some k → k ≠ oc) (n2 : ∀ k, (Value.slice a2 2 c2).ownBlock = some k → k ≠ oc) :
    Blk (((W.setCell ⟨oc, 0, none⟩ (.slice a1 2 c1)).setCell ⟨oc, 1, none⟩ (.slice a2 2 c2)).setCell ⟨oc, 2, none⟩ (.int .i64 nx)) oc [.slice a1 2 c1, .slice a2 2 c2, .int .i64 nx] 42 ∧
      CR (((W.setCell ⟨oc, 0, none⟩ (.slice a1 2 c1)).setCell ⟨oc, 1, none⟩ (.slice a2 2 c2)).setCell ⟨oc, 2, none⟩ (.int .i64 nx)) a1 c1 a2 c2 xs ts ∧
      Upd (fun k => k = oc) W (((W.setCell ⟨oc, 0, none⟩ (.slice a1 2 c1)).setCell ⟨oc, 1, none⟩ (.slice a2 2 c2)).setCell ⟨oc, 2, none⟩ (.int .i64 nx)) := by
  have hu : Upd (fun k => k = oc) W (((W.setCell ⟨oc, 0, none⟩ (.slice a1 2 c1)).setCell ⟨oc, 1, none⟩ (.slice a2 2 c2)).setCell ⟨oc, 2, none⟩ (.int .i64 nx)) :=
    (((Upd.refl (fun k => k = oc) W).setCell ⟨oc, 0, none⟩ _ (fun _ => rfl)).setCell ⟨oc, 1, none⟩ _ (fun _ => rfl)).setCell ⟨oc, 2, none⟩ _ (fun _ => rfl)
  exact ⟨((hB.set 0 _).set 1 _).set 2 _, hC.updS hu n1 n2, hu⟩
theorem find_cases {x y nx jj : Int} {t u : ByteArray} (hm : mayB [x, y] [t, u] nx = true) (h0 : 0 ≤ jj) (h1 : jj % 16 = 0) : ∃ v, findV [x, y] [t, u] nx jj = (v, (x == jj) || (y == jj)) := by
  rw [find2 hm h0, show jj - jj % 16 = jj by omega]
  by_cases hx : x = jj
  · rw [if_pos hx]; exact ⟨_, by simp [hx]; rfl⟩
  · by_cases hy : y = jj
    · rw [if_neg hx, if_pos hy]; exact ⟨_, by simp [hy]; rfl⟩
    · rw [if_neg hx, if_neg hy]; exact ⟨0, by simp [hx, hy]⟩
theorem low_of (ot : Int) : ∃ jj : Int, ot % 256 * 16 = jj ∧ wrap64 (ot % 256 * 16) = jj ∧ 0 ≤ jj ∧ jj < 4096 ∧ jj % 16 = 0 ∧ wrap64 (ot % 256) = ot % 256 := by
  refine ⟨_, rfl, IntWalk.wrap64_in _ (by omega), by omega, by omega, by omega, IntWalk.wrap64_in _ (by omega)⟩
theorem cr_none1 {w : World} {a1 a2 : Option Addr} {c1 c2 : Nat} {xs : List Int} {ts : List ByteArray} (h : CR w a1 c1 a2 c2 xs ts) : a1 = none → c1 = 0 := by
  intro e
  obtain ⟨_, a, cap, e1, _, h5⟩ := h.r1
  obtain ⟨b, o, h6, _⟩ := h5 (by intro hn; have h2 := h.l1; simp [ints] at hn; simp [hn] at h2)
  simp only [Value.slice.injEq] at e1
  rw [e1.1, h6] at e
  cases e
theorem cr_none2 {w : World} {a1 a2 : Option Addr} {c1 c2 : Nat} {xs : List Int} {ts : List ByteArray} (h : CR w a1 c1 a2 c2 xs ts) : a2 = none → c2 = 0 := by
  intro e
  obtain ⟨_, a, cap, e1, _, h5⟩ := h.r2
  obtain ⟨b, o, h6, _⟩ := h5 (by intro hn; have h2 := h.l2; simp [strs] at hn; simp [hn] at h2)
  simp only [Value.slice.injEq] at e1
  rw [e1.1, h6] at e
  cases e
theorem RS.lt {w : World} {a : Option Addr} {n c : Nat} {vs : List Value} (h : RS w (.slice a n c) vs) (hn : vs ≠ []) : ∀ k, (Value.slice a n c).ownBlock = some k → k < w.heap.size := by
  obtain ⟨_, a', cap, e, _, h5⟩ := h
  obtain ⟨b, o, h6, h7, _⟩ := h5 hn
  simp only [Value.slice.injEq] at e
  obtain ⟨rfl, _, _⟩ := e
  subst h6
  intro k hk
  simp [Value.ownBlock] at hk
  omega
end Go.Proofs.Ytdlhhlebbnefkaa
