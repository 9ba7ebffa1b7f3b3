/- Slices of numbers within what came in; a struct of five fields, opened. -/
import Derived.Test.YteombggfmeilaaaGreatRowKit
import Derived.Test.YteombggfmeilaaaGreatCtxW
import Derived.Deep.Slices
import Derived.Lib.SmallJoins
namespace Go.Proofs.YteombggfmeilaaaGreat
open Go.ChangeShapes Go.WideShapes Go.ChangeAt Go.RowKit Go.Deep
theorem weightsAll_mem2 {H : Type} {P : Program} {e : TypeId} {d : DataW H} : ∀ {l : List (DataW H)}, d ∈ l → ∀ n ∈ d.weights P e, n ∈ DataW.weightsAll P e l := by
  intro l
  induction l with
  | nil => intro h; cases h
  | cons x l ih =>
    intro h n hn
    unfold DataW.weightsAll
    rw [List.mem_append]
    rcases List.mem_cons.1 h with rfl | h
    · exact .inl hn
    · exact .inr (ih h n hn)
theorem i64_wf {n : Int} (h : (Lit.int .i64 n).wf = true) : i64B n := by
  have : -9223372036854775808 ≤ n ∧ n ≤ 9223372036854775807 := by simpa [Lit.wf, IntKind.min, IntKind.max, IntKind.signed, IntKind.bits] using h
  exact this
/-- A slice of numbers within what came in. -/
theorem rs_of_trod2 {H : Type} {enc : TypeId × Value → H} {W : World} {fuel : Nat} {v : Value} {y : DataW H × List MemPlace} (h : DataW.trod enc Tryz.prog W 0 (fun _ => true) true fuel 33 [v] = some y) (hs : ∀ n ∈ y.1.weights Tryz.prog 33, n ≤ reachBytes) :
    ∃ xs : List Int, (∃ a c, v = .slice a xs.length c ∧ xs.length ≤ c ∧ (a = none → c = 0)) ∧ xs.length * 8 ≤ 140737488351232 ∧ (xs = [] ∨ (RS W v (ints xs) ∧ ∀ k, v.ownBlock = some k → k < W.heap.size)) := by
  rcases open_ints (k := .i64) Tryz.underlying33 Tryz.underlying3 (by kernel_rfl) h with ⟨hcs, _⟩ | ⟨x, l, c, zs, hcs, _, hl, hm, hz, hx, hcell, hwz⟩
  · simp only [List.cons.injEq, and_true] at hcs
    subst hcs
    exact ⟨[], ⟨none, 0, rfl, Nat.le_refl _, fun _ => rfl⟩, by decide, .inl rfl⟩
  · simp only [List.cons.injEq, and_true] at hcs
    subst hcs
    have hz' : zs.length = c := by simpa using hz
    have hw := hs ((l + (c - l)) * 8) (by
      rw [hx]
      unfold DataW.weights
      rw [Tryz.underlying33]
      dsimp only
      refine List.mem_cons.2 (.inl ?_)
      rw [show Tryz.prog.bytesOf 3 = 8 from by kernel_rfl]
      simp [lits]
      omega)
    have hlen : (zs.take l).length = l := by simp; omega
    have hil : (ints (zs.take l)).length = l := by rw [ints_len, hlen]
    have hreach : reachBytes = 140737488351232 := by decide
    refine ⟨zs.take l, ⟨some x, c, by rw [hlen], by rw [hlen]; exact hl, fun e => by cases e⟩, by rw [hlen]; omega, ?_⟩
    by_cases hpos : 0 < l
    · right
      have h0 := hcell 0 (by omega)
      rw [show x.add 0 = x from by simp [Addr.add]] at h0
      have hx1 := addr_of_cell h0
      have hblk := World.block_lt_of_cell? W x h0
      refine ⟨⟨by rw [hil]; omega, some x, c, by rw [hil], by rw [hil]; exact hl, fun hn => ⟨x.block, x.off, congrArg some hx1, hblk, fun i hi => ?_⟩⟩, fun k hk => ?_⟩
      · rw [hil] at hi
        have hi' := hcell i (by omega)
        have ea : x.add i = ⟨x.block, x.off + i, none⟩ := by
          rw [hx1]; exact add_plain _ _ _
        rw [ea] at hi'
        rw [hi', ints_at _ _ (by omega)]
        simp [List.getD_eq_getElem?_getD, hi]
      · simp only [Value.ownBlock, Option.some.injEq] at hk
        rw [← hk]; exact hblk
    · left
      obtain rfl : l = 0 := by omega
      exact List.take_zero
/-- A slice of numbers that came in; nil has no room. -/
theorem intsN_of_trod {H : Type} {enc : TypeId × Value → H} {P : Program} {t e : TypeId} (hu : P.underlying t = some (.slice e)) (he : P.underlying e = some (.int .i64)) (hc : P.cellsOf e = 1) (hb : P.bytesOf e = 8) {W : World}
    {a0 : Option Addr} {len cap : Nat} {d : DataW H} {ps : List MemPlace} (h : DataW.Trod enc P W 0 (fun _ => true) true t (.slice a0 len cap) d ps) (hlt : ∀ x ∈ ps, x.block < W.heap.size)
    {ts : List TypeId} {ds : List (DataW H)} (hs : (DataW.weightsEach P ts ds).all (· ≤ reachBytes) = true) {j : Nat} (ht : ts[j]? = some t) (hd : ds[j]? = some d) : ∃ xs, IntsR W (.slice a0 len cap) xs ∧ (a0 = none → cap = 0) := by
  obtain ⟨xs, hx⟩ := intsR_of_trod hu he hc hb h hlt hs ht hd
  refine ⟨xs, hx, fun hn => ?_⟩
  obtain ⟨fuel, hf⟩ := h
  rcases open_ints hu he hc hf with ⟨hcs, _⟩ | ⟨x, l, c, zs, hcs, _⟩
  · simp only [Value.cells, List.cons.injEq, and_true, Value.slice.injEq] at hcs
    exact hcs.2.2
  · simp only [Value.cells, List.cons.injEq, and_true, Value.slice.injEq] at hcs
    rw [hn] at hcs
    cases hcs.1
theorem choose_lt2 {α : Type} [Inhabited α] {n : Nat} {p : Nat → α → Prop} (h : ∀ i, i < n → ∃ x, p i x) : ∃ q : Nat → α, ∀ i, i < n → p i (q i) := by
  classical
  refine ⟨fun i => if hi : i < n then Classical.choose (h i hi) else default, fun i hi => ?_⟩
  dsimp only
  rw [dif_pos hi]
  exact Classical.choose_spec (h i hi)
theorem trod_struct5 {H : Type} {enc : TypeId × Value → H} {P : Program} {w : World} {base : Nat} {spare : Nat → Bool} {held : Bool} {t : TypeId} {f0 f1 f2 f3 f4 : Field} {fuel : Nat} {cs : List Value} {x : DataW H × List MemPlace} (ht : P.underlying t = some (.struct #[f0, f1, f2, f3, f4])) (h : DataW.trod enc P w base spare held fuel t cs = some x) :
    ∃ y0 y1 y2 y3 y4 n, x = (.agg [y0.1, y1.1, y2.1, y3.1, y4.1], y0.2 ++ (y1.2 ++ (y2.2 ++ (y3.2 ++ y4.2)))) ∧ cs.length = P.cellsOf t ∧ DataW.trod enc P w base spare held n f0.type ((cs.drop f0.offset).take (P.cellsOf f0.type)) = some y0 ∧
      DataW.trod enc P w base spare held n f1.type ((cs.drop f1.offset).take (P.cellsOf f1.type)) = some y1 ∧ DataW.trod enc P w base spare held n f2.type ((cs.drop f2.offset).take (P.cellsOf f2.type)) = some y2 ∧
      DataW.trod enc P w base spare held n f3.type ((cs.drop f3.offset).take (P.cellsOf f3.type)) = some y3 ∧ DataW.trod enc P w base spare held n f4.type ((cs.drop f4.offset).take (P.cellsOf f4.type)) = some y4 := by
  obtain ⟨xs, n, _, rfl, hl, hlen, hf⟩ := DataW.trod_struct ht h
  match xs, hlen with
  | [y0, y1, y2, y3, y4], _ => exact ⟨y0, y1, y2, y3, y4, n, by simp, hl, by simpa using hf 0 f0 rfl, by simpa using hf 1 f1 rfl, by simpa using hf 2 f2 rfl, by simpa using hf 3 f3 rfl, by simpa using hf 4 f4 rfl⟩
end Go.Proofs.YteombggfmeilaaaGreat
