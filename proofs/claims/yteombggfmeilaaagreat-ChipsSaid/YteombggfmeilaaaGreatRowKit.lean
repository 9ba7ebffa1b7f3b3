/- What the rows of this seat share: the program's two closed facts; a slice of numbers that came in, as 'IntsR'. -/
import Derived.Test.YteombggfmeilaaaGreatProg
import Derived.Test.YteombggfmeilaaaGreatBase
import Derived.OpenShut
import Derived.ShutString
import Derived.ChangeOld
import Derived.SizedLaws
namespace Go.Proofs.YteombggfmeilaaaGreat
open Go.ChangeShapes Go.WideShapes Go.ChangeAt Go.RowKit
theorem rowOwn : ownKnob Tryz.prog.godebug = none := by kernel_rfl
theorem rowLaid : laidOutB Tryz.prog = true := by kernel_rfl
theorem addr_of_cell {w : World} {a : Addr} {v : Value} (h : w.cell? a = some v) : a = ⟨a.block, a.off, none⟩ := by
  unfold World.cell? at h
  obtain ⟨b, o, sp⟩ := a
  cases sp with
  | none => rfl
  | some x => simp at h; split at h <;> simp at h
theorem intsR_of_trod {H : Type} {enc : TypeId × Value → H} {P : Program} {t e : TypeId} (hu : P.underlying t = some (.slice e)) (he : P.underlying e = some (.int .i64)) (hc : P.cellsOf e = 1) (hb : P.bytesOf e = 8) {W : World}
    {a0 : Option Addr} {len cap : Nat} {d : DataW H} {ps : List MemPlace} (h : DataW.Trod enc P W 0 (fun _ => true) true t (.slice a0 len cap) d ps) (hlt : ∀ x ∈ ps, x.block < W.heap.size)
    {ts : List TypeId} {ds : List (DataW H)} (hs : (DataW.weightsEach P ts ds).all (· ≤ reachBytes) = true) {j : Nat} (ht : ts[j]? = some t) (hd : ds[j]? = some d) : ∃ xs, IntsR W (.slice a0 len cap) xs := by
  obtain ⟨fuel, hf⟩ := h
  rcases open_ints hu he hc hf with ⟨hcs, _⟩ | ⟨x, l, c, zs, hcs, _, hl, hm, hz, hx, hcell, hwz⟩
  · simp [Value.cells] at hcs
    obtain ⟨rfl, rfl, rfl⟩ := hcs
    exact ⟨[], by simp, by simp, none, 0, rfl, by simp, fun h => absurd rfl h⟩
  · simp [Value.cells] at hcs
    obtain ⟨rfl, rfl, rfl⟩ := hcs
    simp only [Prod.mk.injEq] at hx
    obtain ⟨rfl, rfl⟩ := hx
    have hz' : zs.length = cap := by simpa using hz
    have hreach := sized_slice hs ht hd hu
    rw [hb] at hreach
    simp only [lits, List.length_map, List.length_take, List.length_drop, reachBytes] at hreach
    have hlen : (zs.take len).length = len := by simp; omega
    refine ⟨zs.take len, by rw [hlen]; omega, fun y hy => ?_, some x, cap, by rw [hlen], by omega, fun hn => ?_⟩
    · have := hwz y (List.mem_of_mem_take hy)
      simpa [Lit.wf, IntKind.min, IntKind.max, IntKind.signed, IntKind.bits] using this
    · have hpos : 0 < len := by
        cases len with
        | zero => simp at hn
        | succ n => omega
      have h0 := hcell 0 (by omega)
      rw [show x.add 0 = x from by simp [Addr.add]] at h0
      have hx := addr_of_cell h0
      refine ⟨x.block, x.off, congrArg some hx, World.block_lt_of_cell? W x h0, fun i hi => ?_⟩
      rw [hlen] at hi
      have hi' := hcell i (by omega)
      have ea : x.add i = ⟨x.block, x.off + i, none⟩ := by
        obtain ⟨xb, xo, sp⟩ := x
        simp only [Addr.mk.injEq, true_and] at hx
        subst hx
        unfold Addr.add; split
        · subst i; rfl
        · rfl
      rw [ea] at hi'
      rw [hi']
      simp [List.getD_eq_getElem?_getD, hi]
end Go.Proofs.YteombggfmeilaaaGreat
