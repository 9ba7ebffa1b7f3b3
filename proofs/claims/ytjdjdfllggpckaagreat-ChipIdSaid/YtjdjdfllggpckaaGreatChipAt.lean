/- A chip in memory, whole; the walks over Clock and over a clock of a command. -/
import Derived.Test.YtjdjdfllggpckaaGreatChipWC
import Derived.Test.YtjdjdfllggpckaaGreatChipJ
import Derived.Test.YtjdjdfllggpckaaGreatChipW7
import Derived.Test.YtjdjdfllggpckaaGreatRs
namespace Go.Proofs.YtjdjdfllggpckaaGreat
open Go.RowKit
/-- The blocks that a chip owns. -/
def chipSet (b : Nat) (jv bv dv : Value) : Nat → Prop := fun k => k = b ∨ jv = .pointer (some ⟨k, 0, none⟩) ∨ bv.ownBlock = some k ∨ dv.ownBlock = some k
structure ChipV (w : World) (b : Nat) (s : St) (jv bv dv : Value) : Prop where
  cb : CB w b s jv bv dv
  job : JobV w jv s.job
  busy : RS w bv (ints s.busy)
  busyLt : ∀ k, bv.ownBlock = some k → k < w.heap.size
  data : Row w 3 dv (ints s.data)
  sj : ∀ k, jv = .pointer (some ⟨k, 0, none⟩) → k ≠ b
  sb : ∀ k, bv.ownBlock = some k → k ≠ b ∧ jv ≠ .pointer (some ⟨k, 0, none⟩)
  sd : ∀ k, dv.ownBlock = some k → k ≠ b ∧ jv ≠ .pointer (some ⟨k, 0, none⟩) ∧ bv.ownBlock ≠ some k
/-- Block b is a chip in the state s; it owns S. -/
def ChipAt (w : World) (b : Nat) (s : St) (S : Nat → Prop) : Prop := ∃ jv bv dv, ChipV w b s jv bv dv ∧ S = chipSet b jv bv dv
theorem JobV.lt {w : World} {jv : Value} {j : Option Job} (h : JobV w jv j) : ∀ k, jv = .pointer (some ⟨k, 0, none⟩) → k < w.heap.size := by
  intro k hk
  cases j with
  | none => rw [show jv = .pointer none from h] at hk; cases hk
  | some j =>
    obtain ⟨g, h1, h2⟩ := h
    rw [h1] at hk
    simp only [Value.pointer.injEq, Option.some.injEq, Addr.mk.injEq, and_true] at hk
    rw [← hk]
    exact h2.lt
theorem ChipV.jb {w : World} {b : Nat} {s : St} {jv bv dv : Value} (h : ChipV w b s jv bv dv) : jv ≠ .pointer (some ⟨b, 0, none⟩) := fun e => h.sj b e rfl
theorem ChipAt.lt {w : World} {b : Nat} {s : St} {S : Nat → Prop} (h : ChipAt w b s S) : ∀ k, S k → k < w.heap.size := by
  obtain ⟨jv, bv, dv, hv, rfl⟩ := h
  rintro k (rfl | hk | hk | hk)
  · exact hv.cb.lt
  · exact hv.job.lt k hk
  · exact hv.busyLt k hk
  · exact hv.data.lt k hk
theorem ChipAt.upd {w w' : World} {b : Nat} {s : St} {S T : Nat → Prop} (h : ChipAt w b s S) (u : Upd T w w') (hT : ∀ k, S k → ¬ T k) : ChipAt w' b s S := by
  obtain ⟨jv, bv, dv, hv, rfl⟩ := h
  exact ⟨jv, bv, dv, ⟨hv.cb.upd u (hT b (.inl rfl)), hv.job.upd u (fun g hg => hT g (.inr (.inl hg))), hv.busy.upd u (fun k _ hk => hT k (.inr (.inr (.inl hk)))), fun k hk => Nat.lt_of_lt_of_le (hv.busyLt k hk) u.size,
    hv.data.upd u (fun k hk => hT k (.inr (.inr (.inr hk)))), hv.sj, hv.sb, hv.sd⟩, rfl⟩
theorem chip_clockIn (ht : TableSaid) (b : Nat) (x : Int) (s : St) (jv bv dv : Value) (w : World) (hv : ChipV w b s jv bv dv) (N : Int) (hI : s.Inv N) (hN : N ≤ 1048576) :
    Calls Tryz.prog 45 #[.pointer (some ⟨b, 0, none⟩), .int .i64 x] w (ClockPost b s jv bv dv w x) := by
  obtain ⟨c, hc⟩ := hI.op
  obtain ⟨o1, o2, o3, o4, o5, o6⟩ := op_facts c
  rw [← hc] at o1 o2 o3 o4 o5 o6
  have ha : s.op.mode = true → s.op.addr = 1 ∨ s.op.addr = 4 := fun h => .inr (o1 h)
  have hda : s.op.inn = true → s.op.data ≠ 0 → s.op.data = 1 ∨ s.op.data = 4 := fun h _ => .inl (o2 h)
  have hdb : ∀ k, dv.ownBlock = some k → k ≠ b := fun k hk => (hv.sd k hk).1
  have hlen := hI.len
  have htold := hI.told
  rcases hI.part with ⟨hs, l1, l2, g0, gl⟩ | hs | ⟨hs, g0, hk⟩ | ⟨hs, ha4, l1, l2, g0, gl⟩ | ⟨hs, l1, l2⟩ | ⟨hs, hi, hd, l1, l2, g0, gl⟩ | ⟨hs, hi, hk⟩ | hs
  · exact clock0 b x s jv bv dv w hv.cb hv.job hv.jb hv.data hdb hs ⟨l1, l2⟩ g0 gl
  · exact clock1 b x s jv bv dv w hv.cb hv.data hdb hs
  · have : s.got + 1 ≤ 16777216 := by
      rcases hk with ⟨_, _, _, gl⟩ | ⟨_, _, _, gl⟩
      · exact got2 g0 gl
      · exact got16 g0 gl
    exact clock2 b x s jv bv dv w hv.cb hv.data hdb ha hda hs (by omega) (by omega) (by omega)
  · have := got16 g0 gl
    exact clock3 b x s jv bv dv w hv.cb hv.data hdb ha hda hs (by omega) (by omega) (by omega)
  · exact clock4 b x s jv bv dv w hv.cb hv.data hdb ha hda hs (by omega)
  · have := got2 g0 gl
    exact clock5 b x s jv bv dv w hv.cb hv.data hdb ha hda hs (.inl hd) (by omega) (by omega) (by omega)
  · exact clock6 ht b x s jv bv dv w hv.cb hv.data hdb hv.job hI.size (by omega) hI.addr (by omega) hI.now hs
  · exact clock7 b x s jv bv dv w hv.cb hv.data hdb hs
end Go.Proofs.YtjdjdfllggpckaaGreat
