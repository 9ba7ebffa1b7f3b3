/- Phases that came in, opened. -/
import Derived.Test.YtbflnpkgbpckfaaGreatRowKit
import Derived.Test.YtbflnpkgbpckfaaGreatCtxW
import Derived.Deep.Slices
import Derived.Lib.SmallJoins
namespace Go.Proofs.YtbflnpkgbpckfaaGreat
open Go.ChangeShapes Go.WideShapes Go.ChangeAt Go.RowKit Go.Deep
theorem weightsAll_mem {H : Type} {P : Program} {e : TypeId} {d : DataW H} : ∀ {l : List (DataW H)}, d ∈ l → ∀ n ∈ d.weights P e, n ∈ DataW.weightsAll P e l := by
  intro l
  induction l with
  | nil => intro h; cases h
  | cons x l ih =>
    intro h n hn
    unfold DataW.weightsAll
    rw [List.mem_append]
    rcases List.mem_cons.1 h with rfl | h
    · exact .inl hn
    · exact .inr (ih h n hn)
/-- A slice of numbers within what came in. -/
theorem rs_of_trod {H : Type} {enc : TypeId × Value → H} {W : World} {fuel : Nat} {v : Value} {y : DataW H × List MemPlace} (h : DataW.trod enc Tryz.prog W 0 (fun _ => true) true fuel 31 [v] = some y) (hs : ∀ n ∈ y.1.weights Tryz.prog 31, n ≤ reachBytes) :
    ∃ xs : List Int, (∃ a c, v = .slice a xs.length c ∧ xs.length ≤ c) ∧ xs.length * 8 ≤ 140737488351232 ∧ (xs = [] ∨ (RS W v (ints xs) ∧ ∀ k, v.ownBlock = some k → k < W.heap.size)) := by
  rcases open_ints (k := .i64) Tryz.underlying31 Tryz.underlying3 (by kernel_rfl) h with ⟨hcs, _⟩ | ⟨x, l, c, zs, hcs, _, hl, hm, hz, hx, hcell, hwz⟩
  · simp only [List.cons.injEq, and_true] at hcs
    subst hcs
    exact ⟨[], ⟨none, 0, rfl, Nat.le_refl _⟩, by decide, .inl rfl⟩
  · simp only [List.cons.injEq, and_true] at hcs
    subst hcs
    have hz' : zs.length = c := by simpa using hz
    have hw := hs ((l + (c - l)) * 8) (by
      rw [hx]
      unfold DataW.weights
      rw [Tryz.underlying31]
      dsimp only
      refine List.mem_cons.2 (.inl ?_)
      rw [show Tryz.prog.bytesOf 3 = 8 from by kernel_rfl]
      simp [lits]
      omega)
    have hlen : (zs.take l).length = l := by simp; omega
    have hil : (ints (zs.take l)).length = l := by rw [ints_len, hlen]
    have hreach : reachBytes = 140737488351232 := by decide
    refine ⟨zs.take l, ⟨some x, c, by rw [hlen], by rw [hlen]; exact hl⟩, by rw [hlen]; omega, ?_⟩
    by_cases hpos : 0 < l
    · right
      have h0 := hcell 0 (by omega)
      rw [show x.add 0 = x from by simp [Addr.add]] at h0
      have hx1 := addr_of_cell h0
      have hblk := World.block_lt_of_cell? W x h0
      refine ⟨⟨by rw [hil]; omega, some x, c, by rw [hil], by rw [hil]; exact hl, fun hn => ⟨x.block, x.off, congrArg some hx1, hblk, fun i hi => ?_⟩⟩, fun k hk => ?_⟩
      · rw [hil] at hi
        have hi' := hcell i (by omega)
        have ea : x.add i = ⟨x.block, x.off + i, none⟩ := by
          rw [hx1]; exact add_plain _ _ _
        rw [ea] at hi'
        rw [hi', ints_at _ _ (by omega)]
        simp [List.getD_eq_getElem?_getD, hi]
      · simp only [Value.ownBlock, Option.some.injEq] at hk
        rw [← hk]; exact hblk
    · left
      obtain rfl : l = 0 := by omega
      exact List.take_zero
instance : Inhabited (Ph × Value) := ⟨(⟨0, [], 0, 0⟩, .slice none 0 0)⟩
theorem list4 {α : Type} {l : List α} (h : l.length = 4) : ∃ a b c d, l = [a, b, c, d] := by
  match l, h with
  | [a, b, c, d], _ => exact ⟨a, b, c, d, rfl⟩
/-- Phases that came in. -/
theorem phs_of_trod {H : Type} {enc : TypeId × Value → H} {W : World} {a0 : Option Addr} {len cap : Nat} {d : DataW H} {ps : List MemPlace} (h : DataW.Trod enc Tryz.prog W 0 (fun _ => true) true 22 (.slice a0 len cap) d ps)
    {ts : List TypeId} {ds : List (DataW H)} (hs : (DataW.weightsEach Tryz.prog ts ds).all (· ≤ reachBytes) = true) {j : Nat} (ht : ts[j]? = some 22) (hd : ds[j]? = some d) :
    ∃ (L : List (Ph × Value)) (rows : List (Value × List Value)), (∀ r ∈ rows, RS W r.1 r.2 ∧ ∀ k, r.1.ownBlock = some k → k < W.heap.size) ∧ PhsV rows (.slice a0 len cap) L := by
  obtain ⟨fuel, hf⟩ := h
  have hreach : reachBytes = 140737488351232 := by decide
  have hwt : ∀ n ∈ d.weights Tryz.prog 22, n ≤ 140737488351232 := fun n hn => by
    have := List.all_eq_true.1 hs n (DataW.weights_mem_each ht hd n hn)
    rw [hreach] at this
    simpa using this
  have ce : Tryz.prog.cellsOf 37 = 4 := by kernel_rfl
  rcases open_slice Tryz.underlying22 hf with ⟨hcs, hx⟩ | ⟨a, l, c, m, n, D, Pl, hcs, hb, hl, hm, hmm, hx, each⟩
  · simp only [Value.cells, List.cons.injEq, and_true, Value.slice.injEq] at hcs
    obtain ⟨rfl, rfl, rfl⟩ := hcs
    exact ⟨[], [], fun r hr => (by cases hr), none, 0, rfl, Nat.le_refl _, fun _ => rfl, Nat.zero_le _, .inl rfl, fun x hx => (by cases hx)⟩
  · simp only [Value.cells, List.cons.injEq, and_true, Value.slice.injEq] at hcs
    obtain ⟨rfl, rfl, rfl⟩ := hcs
    simp only [Prod.mk.injEq] at hx
    have hmm' : m = cap := by simpa using hmm
    subst hmm'
    have hlen : len ≤ 2932031007318 := by
      have := hwt ((len + (m - len)) * 48) (by
        rw [hx.1]
        unfold DataW.weights
        rw [Tryz.underlying22]
        dsimp only
        refine List.mem_cons.2 (.inl ?_)
        rw [show Tryz.prog.bytesOf 37 = 48 from by kernel_rfl]
        simp)
      omega
    have key : ∀ i, i < len → ∃ q : Ph × Value, W.cell? (a.add (i * 4)) = some (.int .i64 q.1.lanes) ∧ W.cell? (a.add (i * 4 + 1)) = some q.2 ∧ W.cell? (a.add (i * 4 + 2)) = some (.int .i64 q.1.clocks) ∧ W.cell? (a.add (i * 4 + 3)) = some (.int .i64 q.1.read) ∧ (∃ a c, q.2 = .slice a q.1.bytes.length c ∧ q.1.bytes.length ≤ c) ∧ q.1.bytes.length * 8 ≤ 140737488351232 ∧ (q.1.bytes = [] ∨ (RS W q.2 (ints q.1.bytes) ∧ ∀ k, q.2.ownBlock = some k → k < W.heap.size)) := by
      intro i hi
      obtain ⟨cs', h1, h2⟩ := each i (by omega)
      rw [ce] at h1
      obtain ⟨_, hl4, hcell⟩ := World.cells?_some h1
      obtain ⟨y0, y1, y2, y3, k, hxy, _, g0, g1, g2, g3⟩ := Go.Joins.trod_struct4 Tryz.underlying37 h2
      obtain ⟨v0, v1, v2, v3, rfl⟩ := list4 hl4
      · have e0 := hcell 0 (by omega)
        have e1 := hcell 1 (by omega)
        have e2 := hcell 2 (by omega)
        have e3 := hcell 3 (by omega)
        rw [add_add] at e0 e1 e2 e3
        dsimp only at g0 g1 g2 g3
        rw [show Tryz.prog.cellsOf 3 = 1 from by kernel_rfl] at g0 g2 g3
        rw [show Tryz.prog.cellsOf 31 = 1 from by kernel_rfl] at g1
        obtain ⟨n0, c0, _, _⟩ := DataW.trod_int (k := .i64) Tryz.underlying3 g0
        obtain ⟨n2, c2, _, _⟩ := DataW.trod_int (k := .i64) Tryz.underlying3 g2
        obtain ⟨n3, c3, _, _⟩ := DataW.trod_int (k := .i64) Tryz.underlying3 g3
        simp only [List.drop_zero, List.drop_succ_cons, List.take_succ_cons, List.take_zero, List.cons.injEq, and_true] at c0 c2 c3
        subst c0
        subst c2
        subst c3
        have g1' : DataW.trod enc Tryz.prog W 0 (fun _ => true) true k 31 [v1] = some y1 := g1
        obtain ⟨xs, q1, q2, q3⟩ := rs_of_trod g1' (by
          intro z hz
          rw [hreach]
          refine hwt z ?_
          rw [hx.1]
          unfold DataW.weights
          rw [Tryz.underlying22]
          dsimp only
          refine List.mem_cons.2 (.inr (List.mem_append.2 (.inl (weightsAll_mem (d := D i) (List.mem_map.2 ⟨i, List.mem_range.2 hi, rfl⟩) z ?_))))
          simp only [Prod.mk.injEq] at hxy
          rw [hxy.1]
          unfold DataW.weights
          rw [Tryz.underlying37]
          dsimp only
          exact DataW.weights_mem_each (j := 1) rfl rfl z hz)
        exact ⟨(⟨n0, xs, n2, n3⟩, v1), e0, e1, e2, e3, q1, q2, q3⟩
    obtain ⟨q, hq⟩ := choose_lt key
    have hLlen : ((List.range len).map q).length = len := by rw [List.length_map, List.length_range]
    have hat : ∀ i, i < len → ((List.range len).map q)[i]? = some (q i) := fun i hi => by rw [List.getElem?_map, List.getElem?_range hi]; rfl
    refine ⟨(List.range len).map q, (if len = 0 then [] else [(.slice (some a) (4 * len) (4 * len), ((List.range len).map q).flatMap phCells)]) ++ (((List.range len).map q).filter (fun x => decide (x.1.bytes ≠ []))).map (fun x => (x.2, ints x.1.bytes)), ?_, some a, m, by rw [hLlen], by rw [hLlen]; exact hl, fun h => (by cases h), by rw [hLlen]; omega, ?_, ?_⟩
    · intro r hr
      rcases List.mem_append.1 hr with hr | hr
      · by_cases h0 : len = 0
        · rw [if_pos h0] at hr; cases hr
        · rw [if_neg h0, List.mem_singleton] at hr
          subst hr
          have f0 := (hq 0 (by omega)).1
          rw [show a.add (0 * 4) = a from by simp [Addr.add]] at f0
          have ha := addr_of_cell f0
          have hblk := World.block_lt_of_cell? W a f0
          refine ⟨⟨by rw [flat4_len, hLlen]; omega, some a, 4 * len, by rw [flat4_len, hLlen], by rw [flat4_len, hLlen]; exact Nat.le_refl _, fun _ => ⟨a.block, a.off, congrArg some ha, hblk, fun j hj => ?_⟩⟩, fun k hk => ?_⟩
          · rw [flat4_len, hLlen] at hj
            have hi : j / 4 < len := by omega
            have hjj : j = 4 * (j / 4) + j % 4 := by omega
            have hm4 : j % 4 < 4 := by omega
            have hcells := hq (j / 4) hi
            have hfl := flat4_at ((List.range len).map q) (j / 4) (j % 4) hm4 (by rw [hLlen]; exact hi)
            rw [← hjj] at hfl
            rw [hfl, List.getElem_map, List.getElem_range]
            have hadd : ∀ t, a.add t = ⟨a.block, a.off + t, none⟩ := fun t => by rw [ha]; exact add_plain _ _ _
            obtain ⟨z0, z1, z2, z3, -⟩ := hcells
            rw [hadd] at z0 z1 z2 z3
            rcases (show j % 4 = 0 ∨ j % 4 = 1 ∨ j % 4 = 2 ∨ j % 4 = 3 by omega) with e | e | e | e
            · rw [e]; rw [show a.off + j = a.off + j / 4 * 4 by omega]; exact z0
            · rw [e]; rw [show a.off + j = a.off + (j / 4 * 4 + 1) by omega]; exact z1
            · rw [e]; rw [show a.off + j = a.off + (j / 4 * 4 + 2) by omega]; exact z2
            · rw [e]; rw [show a.off + j = a.off + (j / 4 * 4 + 3) by omega]; exact z3
          · simp only [Value.ownBlock, Option.some.injEq] at hk
            rw [← hk]; exact hblk
      · obtain ⟨x, hx1, rfl⟩ := List.mem_map.1 hr
        obtain ⟨hx2, hx3⟩ := List.mem_filter.1 hx1
        obtain ⟨i, hi, rfl⟩ := List.mem_map.1 hx2
        have hne : (q i).1.bytes ≠ [] := of_decide_eq_true hx3
        exact (hq i (List.mem_range.1 hi)).2.2.2.2.2.2.resolve_left hne
    · rw [hLlen]
      by_cases h0 : len = 0
      · left; rw [h0]; rfl
      · right
        rw [if_neg h0]
        exact List.mem_append.2 (.inl (List.mem_singleton.2 rfl))
    · intro x hx
      obtain ⟨i, hi, rfl⟩ := List.mem_map.1 hx
      obtain ⟨-, -, -, -, r1, r2, r3⟩ := hq i (List.mem_range.1 hi)
      refine ⟨r1, r2, ?_⟩
      by_cases hne : (q i).1.bytes = []
      · exact .inl hne
      · exact .inr (List.mem_append.2 (.inr (List.mem_map.2 ⟨q i, List.mem_filter.2 ⟨hx, decide_eq_true hne⟩, rfl⟩)))
end Go.Proofs.YtbflnpkgbpckfaaGreat
