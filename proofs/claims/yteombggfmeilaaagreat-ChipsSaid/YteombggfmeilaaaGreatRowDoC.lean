/- Acts that came in, opened. -/
import Derived.Test.YteombggfmeilaaaGreatRowDo
import Derived.Test.YteombggfmeilaaaGreatCtxDoC
import Derived.Deep.Strs
namespace Go.Proofs.YteombggfmeilaaaGreat
open Go.ChangeShapes Go.WideShapes Go.ChangeAt Go.RowKit Go.Deep
instance : Inhabited (DoC × Value) := ⟨(⟨0, [], ByteArray.empty⟩, .slice none 0 0)⟩
theorem listDoC {α : Type} {l : List α} (h : l.length = 3) : ∃ v0 v1 v2, l = [v0, v1, v2] := by
  match l, h with
  | [v0, v1, v2], _ => exact ⟨v0, v1, v2, rfl⟩
theorem trodDoC {H : Type} {enc : TypeId × Value → H} {W : World} {a0 : Option Addr} {len cap : Nat} {d : DataW H} {ps : List MemPlace} (h : DataW.Trod enc Tryz.prog W 0 (fun _ => true) true 22 (.slice a0 len cap) d ps)
    {ts : List TypeId} {ds : List (DataW H)} (hs : (DataW.weightsEach Tryz.prog ts ds).all (· ≤ reachBytes) = true) {j : Nat} (ht : ts[j]? = some 22) (hd : ds[j]? = some d) :
    ∃ (L : List (DoC × Value)) (rows : List (Value × List Value)), (∀ r ∈ rows, RS W r.1 r.2 ∧ ∀ k, r.1.ownBlock = some k → k < W.heap.size) ∧ VDoC rows (.slice a0 len cap) L := by
  obtain ⟨fuel, hf⟩ := h
  have hreach : reachBytes = 140737488351232 := by decide
  have hwt : ∀ n ∈ d.weights Tryz.prog 22, n ≤ 140737488351232 := fun n hn => by
    have := List.all_eq_true.1 hs n (DataW.weights_mem_each ht hd n hn)
    rw [hreach] at this
    simpa using this
  have ce : Tryz.prog.cellsOf 35 = 3 := by kernel_rfl
  rcases open_slice Tryz.underlying22 hf with ⟨hcs, hx⟩ | ⟨a, l, c, m, n, D, Pl, hcs, hb, hl, hm, hmm, hx, each⟩
  · simp only [Value.cells, List.cons.injEq, and_true, Value.slice.injEq] at hcs
    obtain ⟨rfl, rfl, rfl⟩ := hcs
    exact ⟨[], [], fun r hr => (by cases hr), none, 0, rfl, Nat.le_refl _, fun _ => rfl, Nat.zero_le _, .inl rfl, fun x hx => (by cases hx)⟩
  · simp only [Value.cells, List.cons.injEq, and_true, Value.slice.injEq] at hcs
    obtain ⟨rfl, rfl, rfl⟩ := hcs
    simp only [Prod.mk.injEq] at hx
    have hmm' : m = cap := by simpa using hmm
    subst hmm'
    have hlen : len * 48 ≤ 140737488351232 := by
      have := hwt ((len + (m - len)) * 48) (by
        rw [hx.1]
        unfold DataW.weights
        rw [Tryz.underlying22]
        dsimp only
        refine List.mem_cons.2 (.inl ?_)
        rw [show Tryz.prog.bytesOf 35 = 48 from by kernel_rfl]
        simp)
      omega
    have key : ∀ i, i < len → ∃ q : DoC × Value, W.cell? (a.add (i * 3)) = some (.int .i64 q.1.f0) ∧ W.cell? (a.add (i * 3 + 1)) = some (q.2) ∧ W.cell? (a.add (i * 3 + 2)) = some (.string q.1.f2) ∧ (∃ a c, q.2 = .slice a q.1.f1.length c ∧ q.1.f1.length ≤ c ∧ (a = none → c = 0)) ∧ q.1.f1.length * 8 ≤ 140737488351232 ∧ (q.1.f1 = [] ∨ (RS W q.2 (ints q.1.f1) ∧ ∀ k, q.2.ownBlock = some k → k < W.heap.size)) ∧ i64B q.1.f0 ∧ q.1.f2.size ≤ 9223372036854775807 := by
      intro i hi
      obtain ⟨cs', h1, h2⟩ := each i (by omega)
      rw [ce] at h1
      obtain ⟨_, hl4, hcell⟩ := World.cells?_some h1
      obtain ⟨y0, y1, y2, k, hxy, _, g0, g1, g2⟩ := trod_struct3 Tryz.underlying35 h2
      obtain ⟨v0, v1, v2, rfl⟩ := listDoC hl4
      have e0 := hcell 0 (by omega)
      have e1 := hcell 1 (by omega)
      have e2 := hcell 2 (by omega)
      rw [add_add] at e0 e1 e2
      dsimp only at g0 g1 g2
      rw [show Tryz.prog.cellsOf 3 = 1 from by kernel_rfl] at g0
      rw [show Tryz.prog.cellsOf 33 = 1 from by kernel_rfl] at g1
      rw [show Tryz.prog.cellsOf 9 = 1 from by kernel_rfl] at g2
      obtain ⟨n0, c0, _, w0⟩ := DataW.trod_int (k := .i64) Tryz.underlying3 g0
      obtain ⟨n2, c2, _, w2⟩ := DataW.trod_string Tryz.underlying9 g2
      simp only [List.drop_zero, List.drop_succ_cons, List.take_succ_cons, List.take_zero, List.cons.injEq, and_true] at c0 c2
      subst c0
      subst c2
      have gi' : DataW.trod enc Tryz.prog W 0 (fun _ => true) true k 33 [v1] = some y1 := g1
      obtain ⟨xs, q1, q2, q3⟩ := rs_of_trod2 gi' (by
        intro z hz
        rw [hreach]
        refine hwt z ?_
        rw [hx.1]
        unfold DataW.weights
        rw [Tryz.underlying22]
        dsimp only
        refine List.mem_cons.2 (.inr (List.mem_append.2 (.inl (weightsAll_mem2 (d := D i) (List.mem_map.2 ⟨i, List.mem_range.2 hi, rfl⟩) z ?_))))
        simp only [Prod.mk.injEq] at hxy
        rw [hxy.1]
        unfold DataW.weights
        rw [Tryz.underlying35]
        dsimp only
        exact DataW.weights_mem_each (j := 1) rfl rfl z hz)
      have b0 : i64B n0 := i64_wf w0
      have b2 : n2.size ≤ 9223372036854775807 := by have h := w2; unfold maxLen at h; omega
      exact ⟨(⟨n0, xs, n2⟩, v1), e0, e1, e2, q1, q2, q3, b0, b2⟩
    obtain ⟨q, hq⟩ := choose_lt2 key
    have hLlen : ((List.range len).map q).length = len := by rw [List.length_map, List.length_range]
    refine ⟨(List.range len).map q, (if len = 0 then [] else [(.slice (some a) (3 * len) (3 * len), ((List.range len).map q).flatMap cellsDoC)]) ++ (((List.range len).map q).filter (fun x => decide (x.1.f1 ≠ []))).map (fun x => (x.2, ints x.1.f1)), ?_, some a, m, by rw [hLlen], by rw [hLlen]; exact hl, fun h => (by cases h), by rw [hLlen]; omega, ?_, ?_⟩
    · intro r hr
      rcases List.mem_append.1 hr with hr | hr
      · by_cases h0 : len = 0
        · rw [if_pos h0] at hr; cases hr
        · rw [if_neg h0, List.mem_singleton] at hr
          subst hr
          have f0 := (hq 0 (by omega)).1
          rw [show a.add (0 * 3) = a from by simp [Addr.add]] at f0
          have ha := addr_of_cell f0
          have hblk := World.block_lt_of_cell? W a f0
          refine ⟨⟨by rw [flatDoC_len, hLlen]; omega, some a, 3 * len, by rw [flatDoC_len, hLlen], by rw [flatDoC_len, hLlen]; exact Nat.le_refl _, fun _ => ⟨a.block, a.off, congrArg some ha, hblk, fun j hj => ?_⟩⟩, fun k hk => ?_⟩
          · rw [flatDoC_len, hLlen] at hj
            have hi : j / 3 < len := by omega
            have hjj : j = 3 * (j / 3) + j % 3 := by omega
            have hm4 : j % 3 < 3 := by omega
            have hcells := hq (j / 3) hi
            have hfl := flatDoC_at ((List.range len).map q) (j / 3) (j % 3) hm4 (by rw [hLlen]; exact hi)
            rw [← hjj] at hfl
            rw [hfl, List.getElem_map, List.getElem_range]
            have hadd : ∀ t, a.add t = ⟨a.block, a.off + t, none⟩ := fun t => by rw [ha]; exact add_plain _ _ _
            obtain ⟨z0, z1, z2, -⟩ := hcells
            rw [hadd] at z0 z1 z2
            rcases (show j % 3 = 0 ∨ j % 3 = 1 ∨ j % 3 = 2 by omega) with e | e | e
            · rw [e]; rw [show a.off + j = a.off + (j / 3 * 3) by omega]; exact z0
            · rw [e]; rw [show a.off + j = a.off + (j / 3 * 3 + 1) by omega]; exact z1
            · rw [e]; rw [show a.off + j = a.off + (j / 3 * 3 + 2) by omega]; exact z2
          · simp only [Value.ownBlock, Option.some.injEq] at hk
            rw [← hk]; exact hblk
      · obtain ⟨x, hx1, rfl⟩ := List.mem_map.1 hr
        obtain ⟨hx2, hx3⟩ := List.mem_filter.1 hx1
        obtain ⟨i, hi, rfl⟩ := List.mem_map.1 hx2
        have hne : (q i).1.f1 ≠ [] := of_decide_eq_true hx3
        obtain ⟨-, -, -, r1, r2, r3, r4⟩ := hq i (List.mem_range.1 hi)
        exact r3.resolve_left hne
    · rw [hLlen]
      by_cases h0 : len = 0
      · left; rw [h0]; rfl
      · right
        rw [if_neg h0]
        exact List.mem_append.2 (.inl (List.mem_singleton.2 rfl))
    · intro x hx
      obtain ⟨i, hi, rfl⟩ := List.mem_map.1 hx
      obtain ⟨-, -, -, r1, r2, r3, r4⟩ := hq i (List.mem_range.1 hi)
      refine ⟨r1, r2, ?_, r4⟩
      by_cases hne : (q i).1.f1 = []
      · exact .inl hne
      · exact .inr (List.mem_append.2 (.inr (List.mem_map.2 ⟨q i, List.mem_filter.2 ⟨hx, decide_eq_true hne⟩, rfl⟩)))
end Go.Proofs.YteombggfmeilaaaGreat
