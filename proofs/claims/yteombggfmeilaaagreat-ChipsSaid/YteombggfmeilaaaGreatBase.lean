/- The frame that all contracts of this seat use: 'Upd S w w'': of the blocks that were there only those in S may have turned. -/
import Derived.WalkKit
import Derived.ProofKit
import Derived.Lib.Hide
import Derived.Deep.QuietTactic
import Derived.BigQuiet
import Derived.StillTailTactics
import Derived.Deep.DeepFit
import Derived.Deep.DeepMust
import Derived.Deep.LoopGhost
import Derived.Deep.RegionWith
import Derived.Deep.DeepCutAuto
import Derived.WalkSpells
import Derived.WalkLawsBesides
namespace Go.Proofs.YteombggfmeilaaaGreat
open Go.RowKit
structure Upd (S : Nat → Prop) (w w' : World) : Prop where
  os : w'.os = w.os
  output : w'.output = w.output
  size : w.heap.size ≤ w'.heap.size
  block : ∀ k, k < w.heap.size → ¬ S k → w'.heap[k]? = w.heap[k]?
def none' : Nat → Prop := fun _ => False
theorem Upd.refl (S : Nat → Prop) (w : World) : Upd S w w := ⟨rfl, rfl, Nat.le_refl _, fun _ _ _ => rfl⟩
theorem Upd.trans {S T : Nat → Prop} {a b c : World} (h : Upd S a b) (g : Upd T b c) (hT : ∀ k, k < a.heap.size → T k → S k) : Upd S a c :=
  ⟨g.os.trans h.os, g.output.trans h.output, Nat.le_trans h.size g.size, fun k hk hn =>
    (g.block k (Nat.lt_of_lt_of_le hk h.size) (fun t => hn (hT k hk t))).trans (h.block k hk hn)⟩
theorem Upd.mono {S T : Nat → Prop} {a b : World} (h : Upd S a b) (hT : ∀ k, k < a.heap.size → S k → T k) : Upd T a b :=
  ⟨h.os, h.output, h.size, fun k hk hn => h.block k hk (fun s => hn (hT k hk s))⟩
theorem Upd.drew {S : Nat → Prop} {a b : World} (h : Upd S a b) : Upd S a b.drew := ⟨h.os, h.output, h.size, h.block⟩
theorem Upd.drewN {S : Nat → Prop} {a b : World} (h : Upd S a b) (n : Nat) : Upd S a (b.drewN n) := by
  induction n with
  | zero => exact h
  | succ n ih => exact ⟨ih.os, ih.output, ih.size, ih.block⟩
theorem Upd.alloc {S : Nat → Prop} {a b : World} (h : Upd S a b) (o : Obj) : Upd S a (b.alloc o) :=
  h.trans (T := none') ⟨rfl, rfl, by simp, fun k hk _ => Below.heap_alloc _ _ _ hk⟩ (fun _ _ f => f.elim)
theorem Upd.setCell {S : Nat → Prop} {a b : World} (h : Upd S a b) (p : Addr) (u : Value) (hp : p.block < a.heap.size → S p.block) : Upd S a (b.setCell p u) :=
  h.trans (T := fun k => k = p.block) ⟨rfl, rfl, by simp [World.setCell], fun k _ hn => Below.heap_setCell _ _ _ _ hn⟩ (fun k hk e => by subst e; exact hp hk)
theorem Upd.alike {S : Nat → Prop} {a b c : World} (h : Upd S a b) (g : c.Alike b) : Upd S a c := by
  obtain ⟨g1, g2, g3⟩ := g
  exact ⟨g2.trans h.os, g3.trans h.output, by rw [g1]; exact h.size, fun k hk hn => by rw [g1]; exact h.block k hk hn⟩
theorem Upd.grown {S : Nat → Prop} {a b c : World} {row : Option Nat} (h : Upd S a b) (g : b.grownBy c row) (hr : ∀ k, row = some k → k < a.heap.size → S k) : Upd S a c :=
  h.trans (T := fun k => row = some k) ⟨g.os, g.output, g.size, fun k hk hn => g.block k hk (fun e => hn e.symm)⟩ (fun k hk e => hr k e hk)
theorem Upd.below {S : Nat → Prop} {a b c : World} {B : Nat} (h : Upd S a b) (g : Below B b c) (hB : ∀ k, k < a.heap.size → B ≤ k → S k) : Upd S a c :=
  h.trans (T := fun k => B ≤ k) ⟨g.os, g.output, g.size, fun k hk hn => g.block k (by omega)⟩ (fun k hk e => hB k hk e)
theorem Upd.cell {S : Nat → Prop} {a b : World} (h : Upd S a b) {p : Addr} (hp : p.block < a.heap.size) (hn : ¬ S p.block) : b.cell? p = a.cell? p :=
  World.cell?_of_block (h.block _ hp hn)
theorem Upd.frozen {S : Nat → Prop} {a b : World} (h : Upd S a b) {p : Addr} (hp : p.block < a.heap.size) (hn : ¬ S p.block) : b.frozen? p = a.frozen? p :=
  World.frozen?_of_block (h.block _ hp hn)
theorem Upd.keptBut {W w' : World} (h : Upd none' W w') (may : MemPlace → Prop) : W.keptBut w' may := by
  refine ⟨h.os, h.output, fun i hi => ?_⟩
  rw [h.block i hi (fun f => f)]
  split <;> simp_all
theorem Upd.same {W w' : World} (h : Upd none' W w') {p : MemPlace} (hp : p.block < W.heap.size) : W.sameAt w' p := by
  cases p with
  | cell b o => exact World.cell?_of_block (w := W) (h.block b hp (fun f => f))
  | map b => exact h.block b hp (fun f => f)
theorem Alike.cell {a b : World} (h : b.Alike a) (p : Addr) : b.cell? p = a.cell? p := by simp [World.cell?, h.1]
theorem Alike.frozen {a b : World} (h : b.Alike a) (p : Addr) : b.frozen? p = a.frozen? p := by simp [World.frozen?, h.1]
theorem Alike.size {a b : World} (h : b.Alike a) : b.heap.size = a.heap.size := by rw [h.1]
theorem Upd.trod {H : Type} {enc : TypeId × Value → H} {P : Program} {t : TypeId} (hl : laidOutB P = true) (hr : P.readableRec t = true) (hrow : t < P.types.size) {W W' : World} {v : Value} {d : DataW H} {ps : List MemPlace}
    (h : DataW.Trod enc P W 0 (fun _ => true) true t v d ps) (hb : Upd none' W W') (hlt : ∀ x ∈ ps, x.block < W.heap.size) :
    DataW.Trod enc P W' 0 (fun b => decide (b < W.heap.size)) true t v d ps :=
  WideElems.Trod_stays hl hr hrow h (fun x hx => hb.same (hlt x hx)) (fun x hx => by simpa using hlt x hx)
/-- v is a slice that came in, and reads as xs. -/
def IntsR (w : World) (v : Value) (xs : List Int) : Prop :=
  xs.length * 8 ≤ 140737488351232 ∧ (∀ x ∈ xs, -9223372036854775808 ≤ x ∧ x ≤ 9223372036854775807) ∧ ∃ a cap, v = .slice a xs.length cap ∧ xs.length ≤ cap ∧
    (xs ≠ [] → ∃ b o, a = some ⟨b, o, none⟩ ∧ b < w.heap.size ∧ ∀ j, j < xs.length → w.cell? ⟨b, o + j, none⟩ = some (.int .i64 (xs.getD j 0)))
theorem IntsR.upd {S : Nat → Prop} {w w' : World} {v : Value} {xs : List Int} (h : IntsR w v xs) (u : Upd S w w') (hS : ∀ k, k < w.heap.size → ¬ S k) : IntsR w' v xs := by
  obtain ⟨h1, h2, a, cap, h3, h4, h5⟩ := h
  refine ⟨h1, h2, a, cap, h3, h4, fun hn => ?_⟩
  obtain ⟨b, o, h6, h7, h8⟩ := h5 hn
  exact ⟨b, o, h6, Nat.lt_of_lt_of_le h7 u.size, fun j hj => by rw [u.cell (p := ⟨b, o + j, none⟩) h7 (hS b h7)]; exact h8 j hj⟩
/-- Block b of w holds the cells cs. -/
def Blk (w : World) (b : Nat) (cs : List Value) (t : TypeId) : Prop := w.heap[b]? = some (.cells cs.toArray t (0, 0))
theorem Blk.lt {w : World} {b : Nat} {cs : List Value} {t : TypeId} (h : Blk w b cs t) : b < w.heap.size := (Array.getElem?_eq_some_iff.1 h).1
theorem Blk.cell {w : World} {b : Nat} {cs : List Value} {t : TypeId} (h : Blk w b cs t) (i : Nat) : w.cell? ⟨b, i, none⟩ = cs[i]? := by
  rw [cell_of_row w b i _ t (0, 0) h]; simp
theorem Blk.frozen {w : World} {b : Nat} {cs : List Value} {t : TypeId} (h : Blk w b cs t) (i : Nat) : w.frozen? ⟨b, i, none⟩ = false := by
  unfold Blk at h; simp [World.frozen?, h]
theorem Blk.upd {S : Nat → Prop} {w w' : World} {b : Nat} {cs : List Value} {t : TypeId} (h : Blk w b cs t) (u : Upd S w w') (hb : ¬ S b) : Blk w' b cs t :=
  (u.block b h.lt hb).trans h
theorem Blk.alike {w w' : World} {b : Nat} {cs : List Value} {t : TypeId} (h : Blk w b cs t) (u : w'.Alike w) : Blk w' b cs t := by
  unfold Blk at h ⊢; rw [u.1]; exact h
theorem Blk.set {w : World} {b : Nat} {cs : List Value} {t : TypeId} (h : Blk w b cs t) (i : Nat) (v : Value) : Blk (w.setCell ⟨b, i, none⟩ v) b (cs.set i v) t := by
  unfold Blk at h ⊢
  simp only [World.setCell, Array.getElem?_modify]
  simp [h]
theorem Blk.set_ne {w : World} {b c : Nat} {cs : List Value} {t : TypeId} (h : Blk w b cs t) (i : Nat) (v : Value) (hc : b ≠ c) : Blk (w.setCell ⟨c, i, none⟩ v) b cs t := by
  unfold Blk at h ⊢
  rw [Below.heap_setCell _ _ _ _ hc]; exact h
theorem Blk.alloc {w : World} {b : Nat} {cs : List Value} {t : TypeId} (h : Blk w b cs t) (o : Obj) : Blk (w.alloc o) b cs t := by
  have := h.lt
  unfold Blk at h ⊢
  rw [Below.heap_alloc _ _ _ this]; exact h
theorem Blk.new (w : World) (cs : List Value) (t : TypeId) : Blk (w.alloc (.cells cs.toArray t)) w.heap.size cs t := by
  unfold Blk; exact heap_alloc_new w _
theorem Blk.drew {w : World} {b : Nat} {cs : List Value} {t : TypeId} (h : Blk w b cs t) : Blk w.drew b cs t := h
end Go.Proofs.YteombggfmeilaaaGreat
