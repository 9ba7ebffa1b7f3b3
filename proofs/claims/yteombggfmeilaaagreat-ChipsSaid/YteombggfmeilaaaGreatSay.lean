/- Clocks in a row: the walk over say. -/
import Derived.Test.YteombggfmeilaaaGreatSayP
import Derived.Test.YteombggfmeilaaaGreatTable
namespace Go.Proofs.YteombggfmeilaaaGreat
open Go.RowKit
set_option maxRecDepth 100000 in
set_option maxHeartbeats 2000000 in
theorem law_say (b : Nat) (s : St) (S : Nat → Prop) (w : World) (hA : ChipAt w b s S) (N : Int) (hI : s.InvW N) (v0 : Value) (xs : List Int) (hr : RS w v0 (ints xs)) (hv0 : ∀ k, v0.ownBlock = some k → ¬ S k) (hN : N + xs.length ≤ 1048575) (hsel : s.sel = false) (hx : ∀ x ∈ xs, 0 ≤ x ∧ x ≤ 15) :
    Calls Tryz.prog 114 #[.pointer (some ⟨b, 0, none⟩), v0] w fun e w' => ∃ v' S', e = .returned v' ∧ Row w' 3 v' (ints (s.said xs).2) ∧ (∀ k, v'.ownBlock = some k → w.heap.size ≤ k ∧ ¬ S' k) ∧ ChipAt w' b (s.said xs).1 S' ∧ (∀ k, S' k → S k ∨ w.heap.size ≤ k) ∧ Upd S w w' := by
  have hpos : 0 ≤ N := by have := hI.1.told; omega
  have hslt := hA.lt
  have HR := Lib.hid hr
  obtain ⟨h1, a0, cap0, rfl, h4, h5⟩ := hr
  rw [ints_len] at h1 h4 h5
  have hI1 := select_invW hI
  have hs1 := select_sel s
  have hsd : s.said xs = ((runC s.select xs).1.deselect, (runC s.select xs).2) := rfl
  rw [hsd]
  obtain ⟨t, ht⟩ : ∃ t, s.select = t := ⟨_, rfl⟩
  have hcs := chip_select b s S w hA hsel
  rw [ht] at hcs hI1 hs1 ⊢
  rw [ints_len]
  clear hsd ht
  go_enter Tryz.func114, Tryz.ntmps114
  go_wp2_with (go_at_call 17; refine hcs.mono ?_; rintro e w1 ⟨rfl, S1, hA1, hS1, hU1⟩)
  go_loopw [5, 6] (fun ov iv wr => ∃ (i : Nat) (S' : Nat → Prop), i ≤ xs.length ∧ iv = .int .i64 i ∧ Row wr 3 ov (ints (runC t (xs.take i)).2) ∧ (∀ k, ov.ownBlock = some k → w.heap.size ≤ k ∧ ¬ S' k) ∧ ChipAt wr b (runC t (xs.take i)).1 S' ∧ (∀ k, S' k → S k ∨ w.heap.size ≤ k) ∧ Upd S w wr) (fun _ iv _ => xs.length - (intOf iv).toNat)
  case atStart => exact ⟨0, S1, by omega, rfl, by rw [List.take_zero]; exact Row.nil _ _, fun k hk => (by simp [Value.ownBlock] at hk), by rw [List.take_zero]; exact hA1, hS1, hU1⟩
  case round =>
    clear hA1 hS1 hU1 hcs hA
    obtain ⟨i, S', hi, rfl, hrow, hown, hAt, hS', hU⟩ := hrel
    obtain ⟨oa, oc, rfl, -⟩ := hrow.form
    by_cases hlt : i < xs.length
    · obtain ⟨bb, oo, rfl, hbb, hcc⟩ := h5 (by intro h; simp [ints] at h; simp [h] at hlt)
      obtain ⟨x, hxi⟩ : ∃ x, xs.getD i 0 = x := ⟨_, rfl⟩
      have hcell : wr.cell? ⟨bb, oo + i, none⟩ = some (.int .i64 x) := by
        rw [hU.cell (p := ⟨bb, oo + i, none⟩) hbb (hv0 bb rfl), hcc i hlt, ints_at _ _ hlt, hxi]
      have hmem : x ∈ xs := by rw [← hxi, List.getD_eq_getElem?_getD, List.getElem?_eq_getElem hlt]; exact List.getElem_mem hlt
      have htk : xs.take (i + 1) = xs.take i ++ [x] := by
        rw [List.take_add_one, ← hxi]
        simp [List.getD_eq_getElem?_getD, List.getElem?_eq_getElem hlt]
      have hsn := runC_snoc t (xs.take i) x
      rw [← htk] at hsn
      have hinv := runC_inv hI1 (xs.take i)
      rw [List.length_take, Nat.min_eq_left hi] at hinv
      have hc := chip_clockW table_said b x _ S' wr hAt _ hinv (by omega) (hx x hmem)
      have hln := runC_len t (xs.take i)
      rw [List.length_take, Nat.min_eq_left hi] at hln
      generalize runC t (xs.take i) = p at *
      have hol : (ints p.2).length = i := by rw [ints_len, hln]
      rw [hol]
      have HROW := Lib.hid hrow
      have HOWN := Lib.hid hown
      have HC := Lib.hid hc
      have HSN := Lib.hid hsn
      have HSS := Lib.hid hS'
      have HU := Lib.hid hU
      have HLT := Lib.hid hAt.lt
      clear hcc hmem htk hinv hc hrow hown hsn hS' hU hAt hln hx hI1 HR hxi
      rw [hol] at HROW
      go_upto_region 7 with (go_at_call 21; refine HC.out.mono ?_; rintro e w2 ⟨rfl, S2, hA2, hS2, hU2⟩)
      have hrow2 := HROW.out.upd hU2 (fun k hk => (HOWN.out k (by rw [hol]; exact hk)).2)
      have HROW2 := Lib.hid hrow2
      clear hrow2
      go_wp2_with (at_builtin; go_must (refine wpList_app1 rfl _ _ 33 rfl 3 (.int .i64 0) 8 Tryz.underlying33 info_int rfl _ (ints p.2) i hol rfl w2 (.int .i64 (p.1.clock x).2) ⟨rfl, rfl, rfl⟩ HROW2.out rfl rfl (by omega) (by omega) ?_); intro g cap w3 hR3 hU3 hg3 hgs3)
      refine ⟨?rel, ?measure⟩
      case rel =>
        have hs2 := hU2.size
        have hus := HU.out.size
        have hS2' : ∀ k, S2 k → S k ∨ w.heap.size ≤ k := fun k hk => by
          rcases hS2 k hk with e | e
          · exact HSS.out k e
          · exact .inr (by omega)
        have hnot : ∀ k, (Value.slice oa i oc).ownBlock = some k → ¬ S2 k := fun k hk e => by
          rcases hS2 k e with e' | e'
          · exact (HOWN.out k (by rw [hol]; exact hk)).2 e'
          · have := HROW.out.lt k hk; omega
        have hgo : w.heap.size ≤ g ∧ ¬ S2 g := by
          rcases hg3 with e | e
          · exact ⟨(HOWN.out g (by rw [hol]; exact e)).1, hnot g e⟩
          · exact ⟨by omega, fun e' => by have := hA2.lt g e'; omega⟩
        refine ⟨i + 1, S2, by omega, by go_num, ?_, ?_, ?_, hS2', ?_⟩
        · rw [HSN.out]
          dsimp only
          rw [ints_app]
          exact hR3
        · intro k hk
          simp [Value.ownBlock] at hk
          rw [← hk]
          exact hgo
        · rw [HSN.out]
          exact hA2.upd hU3 (fun k hk e => hnot k e hk)
        · refine (HU.out.trans hU2 (fun k h1 h2 => ?_)).trans hU3 (fun k h1 h2 => ?_)
          · rcases HSS.out k h2 with e | e
            · exact e
            · omega
          · have := (HOWN.out k (by rw [hol]; exact h2)).1
            omega
      case measure => simp [intOf]; omega
    · have hieq : i = xs.length := by omega
      subst hieq
      have hol : (ints (runC t (List.take xs.length xs)).2).length = xs.length := by rw [List.take_length, ints_len, runC_len]
      rw [hol] at hrow hown ⊢
      rw [List.take_length] at hrow hAt
      have hinv := runC_inv hI1 xs
      have hsl : (runC t xs).1.sel = true := by rw [runC_sel, hs1]
      have HD := Lib.hid (chip_deselect b _ S' wr hAt _ (hinv.inv hsl) (by omega) hsl)
      have hus := hU.size
      have HROW := Lib.hid hrow
      have HOWN := Lib.hid hown
      have HU := Lib.hid hU
      have HSS := Lib.hid hS'
      clear hinv hsl hrow hown hU hS' hAt hx hI1 HR h5 hv0
      go_wp2_with (go_at_call 19; refine HD.out.mono ?_; rintro e w2 ⟨rfl, S2, hA2, hS2, hU2⟩)
      go_ret
      have hlt2 := HROW.out.lt
      refine ⟨.slice oa xs.length oc, S2, rfl, HROW.out.upd hU2 (fun k hk => (HOWN.out k hk).2), fun k hk => ⟨(HOWN.out k hk).1, fun e => ?_⟩, hA2, fun k hk => ?_, HU.out.trans hU2 (fun k h1 h2 => ?_)⟩
      · rcases hS2 k e with e' | e'
        · exact (HOWN.out k hk).2 e'
        · have := hlt2 k hk; omega
      · rcases hS2 k hk with e | e
        · exact HSS.out k e
        · exact .inr (by omega)
      · rcases HSS.out k h2 with e | e
        · exact e
        · omega
end Go.Proofs.YteombggfmeilaaaGreat
