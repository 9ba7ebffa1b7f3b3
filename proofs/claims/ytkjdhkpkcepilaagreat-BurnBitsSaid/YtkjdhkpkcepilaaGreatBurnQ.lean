/- burn.Burn, of a text that may be burned. -/
import Derived.Test.YtkjdhkpkcepilaaGreatBurnP
namespace Go.Proofs.YtkjdhkpkcepilaaGreat
open Go.RowKit
set_option maxRecDepth 100000 in
set_option maxHeartbeats 8000000 in
theorem rdy_burn {Q : Own} {c : Cor} {b k fo fi : Nat} {n q : Int} {w0 w : World} {rows : List (Value × List Value)} (h : Rdy Q c b k fo fi n q w0 w rows) (hc : c.Rest) (fa : ByteArray) (hca : c.a = fa) (hsz : fa.size = 4096) (a : Nat) (t : ByteArray) (h1 : 1 ≤ t.size) (hl : t.size ≤ 512) (ha : a + t.size ≤ 4096) (hi : 2048 ≤ a) (hn0 : 0 ≤ n) (hn : n + 14400 ≤ 1048575) :
    Calls Tryz.prog 29 #[.pointer (some ⟨k, 0, none⟩), .int .i64 (a : Int), .string t] w fun e w' => e = .returned (.int .i64 0) ∧ ∃ c' q', c'.Rest ∧ c'.a = burnA fa a t.data.toList ∧ c'.quad = c.quad ∧ (c.busy = [] → c'.busy = []) ∧ Rdy Q c' b k fo fi (n + 14400) q' w0 w' rows := by
  have hm := pages_ok a t.size hl ha
  have him := image_at (a : Int)
  rw [decide_eq_false (by omega : ¬ (0 ≤ (a : Int) ∧ (a : Int) < 2048))] at him
  have hne := str_nonempty t h1
  obtain ⟨L, hL⟩ : ∃ L, pagesL a t.size = L := ⟨_, rfl⟩
  obtain ⟨M, hM⟩ : ∃ M, L.length = M := ⟨_, rfl⟩
  have hML : M ≤ 17 := by
    have := (pagesL_len t.size a).2
    rw [hL, hM] at this
    omega
  rw [hL] at hm
  have hlm : (ints (natI L)).length = M := by rw [ints_len, natI_len, hM]
  obtain ⟨m, hmm⟩ : ∃ m, t.size = m := ⟨_, rfl⟩
  have hml : t.data.toList.length = m := hmm
  rw [hmm] at hm h1 hl ha
  have HH := Lib.hid (And.intro h (And.intro hc (And.intro hca (And.intro hsz (And.intro hL (And.intro hM hml))))))
  clear h hc hca hsz hL hM hml
  go_enter Tryz.func29, Tryz.ntmps29
  go_wp2_with (first | (go_at_call 59; refine (him _).mono ?_; rintro e w2 ⟨rfl, rfl⟩) | (go_at_call 30; refine (hm _).mono ?_; rintro e w1 ⟨v, rfl, hrow, hown, hU⟩; obtain ⟨oa, oc, rfl, -⟩ := hrow.form; rw [hlm] at hrow hown))
  have HR1 := Lib.hid (HH.out.1.row (r := (.slice oa M oc, ints (natI L))) hU (hrow.rs (by rw [hlm]; omega)) (fun g hg => ⟨hown g hg, hrow.lt g hg⟩))
  clear hm him hrow hown
  go_loopw [1, 2, 34] (fun av sv iv wr => ∃ (j p : Nat) (u : ByteArray) (c' : Cor) (q' : Int), j ≤ M ∧ p + u.size = m ∧ av = .int .i64 ((a + p : Nat) : Int) ∧ sv = .string u ∧ iv = .int .i64 (j : Int) ∧ Hid (L.drop j = pagesL (a + p) u.size ∧ u.data.toList = t.data.toList.drop p ∧ c'.Rest ∧ c'.a = burnA fa a (t.data.toList.take p) ∧ c'.quad = c.quad ∧ (c.busy = [] → c'.busy = []) ∧ Rdy Q c' b k fo fi (n + 800 * (j : Int)) q' w0 wr ((.slice oa M oc, ints (natI L)) :: rows))) (fun _ _ iv _ => M - (intOf iv).toNat)
  case atStart =>
    refine ⟨0, 0, t, c, q, Nat.zero_le _, by omega, rfl, rfl, rfl, Lib.hid ⟨?_, rfl, HH.out.2.1, ?_, rfl, id, ?_⟩⟩
    · rw [List.drop_zero]
      exact HH.out.2.2.2.2.1.symm
    · rw [List.take_zero, burnA_nil]
      exact HH.out.2.2.1
    · rw [show n + 800 * ((0 : Nat) : Int) = n by omega]
      exact HR1.out
  case round =>
    obtain ⟨j, p, u, c', q', hj, hpu, rfl, rfl, rfl, hH⟩ := hrel
    obtain ⟨hD, hu, hcr, hca', hcq, hcb, hR⟩ := hH.out
    rename World => W2
    obtain ⟨x, hx⟩ : ∃ x, a + p = x := ⟨_, rfl⟩
    rw [hx] at hD ⊢
    by_cases hlt : j < M
    · have hu0 : 0 < u.size := by
        by_cases h0 : u.size = 0
        · rw [h0, pagesL_zero] at hD
          have := congrArg List.length hD
          rw [List.length_drop, HH.out.2.2.2.2.2.1] at this
          simp at this
          omega
        · omega
      obtain ⟨z, hz⟩ : ∃ z, min u.size (32 - x % 32) = z := ⟨_, rfl⟩
      rw [pagesL_step x u.size hu0, hz] at hD
      have hgj : L.getD j 0 = z := by
        have := congrArg (fun l => l.getD 0 0) hD
        simpa [List.getD_eq_getElem?_getD] using this
      have hdj : L.drop (j + 1) = pagesL (x + z) (u.size - z) := by
        have := congrArg List.tail hD
        simpa using this
      obtain ⟨gx, ox, e1, hgx, hcc⟩ := (hR.rs List.mem_cons_self).cells (by omega)
      subst e1
      have hcell := hcc j hlt
      rw [ints_at _ _ (by rw [natI_len, HH.out.2.2.2.2.2.1]; exact hlt), show (natI L).getD j 0 = (z : Int) from by
        rw [← hgj]
        unfold natI
        rw [List.getD_eq_getElem?_getD, List.getElem?_map, List.getElem?_eq_getElem (show j < L.length by rw [HH.out.2.2.2.2.2.1]; exact hlt), List.getD_eq_getElem?_getD, List.getElem?_eq_getElem (show j < L.length by rw [HH.out.2.2.2.2.2.1]; exact hlt)]
        rfl] at hcell
      have hz1 : 1 ≤ z ∧ z ≤ u.size ∧ x % 32 + z ≤ 32 := by omega
      have hes : (u.extract 0 z).size = z := by rw [ByteArray.size_extract]; omega
      have het : (u.extract 0 z).data.toList = (t.data.toList.drop p).take z := by
        rw [ByteArray.data_extract, Array.toList_extract, List.extract_eq_take_drop, Nat.sub_zero, List.drop_zero, hu]
      have hes2 : (u.extract z u.size).size = u.size - z := by rw [ByteArray.size_extract]; omega
      have het2 : (u.extract z u.size).data.toList = t.data.toList.drop (p + z) := by
        rw [ByteArray.data_extract, Array.toList_extract, List.extract_eq_take_drop, List.take_of_length_le (by rw [List.length_drop]; exact Nat.le_refl _), hu, List.drop_drop]
      have hpg := rdy_page hR hcr (by rw [hca', burnA_size]; exact HH.out.2.2.2.1) x (by omega) (u.extract 0 z) (by omega) (by omega) (by omega)
      have hba : (c'.burned x (u.extract 0 z).data.toList).a = burnA fa a (t.data.toList.take (p + z)) := by
        show burnA c'.a x _ = _
        rw [hca', het, ← hx]
        have := burnA_parts fa a p (t.data.toList.take (p + z)) (by rw [List.length_take, HH.out.2.2.2.2.2.2]; omega)
        rw [List.take_take, Nat.min_eq_left (by omega), List.drop_take, Nat.add_sub_cancel_left] at this
        exact this
      have HPG := Lib.hid hpg
      have HNX := Lib.hid (And.intro hdj (And.intro het2 (And.intro (hcr.burned x (u.extract 0 z).data.toList) (And.intro hba (And.intro hcq (show c.busy = [] → (c'.burned x (u.extract 0 z).data.toList).busy = [] from fun h => by
        show c'.busy.tail = []
        rw [hcb h]
        rfl))))))
      have HX := Lib.hid (And.intro hx hpu)
      have hw1 : IntKind.i64.wrap ((x : Int) + (z : Int)) = ((x + z : Nat) : Int) := by rw [IntWalk.i64_in _ (by omega)]; omega
      have hzu : (z : Int) ≤ (u.size : Int) := by omega
      have hub : u.size < 9223372036854775807 := by omega
      clear hpg hba het het2 hes hdj hgj hD hu hcr hca' hcq hcb hR hcc hgx hz hH hpu hx HR1
      go_wp2_with (go_at_call 60; refine HPG.out.mono ?_; rintro e w3 ⟨rfl, q2, hR3⟩)
      refine ⟨?rel, ?measure⟩
      case rel =>
        refine ⟨j + 1, p + z, u.extract z u.size, _, q2, by omega, by rw [hes2]; have := HX.out.2; omega, by have := HX.out.1; go_num, rfl, by go_num, Lib.hid ⟨?_, HNX.out.2.1, HNX.out.2.2.1, HNX.out.2.2.2.1, HNX.out.2.2.2.2.1, HNX.out.2.2.2.2.2, ?_⟩⟩
        · rw [hes2, HNX.out.1, ← HX.out.1, Nat.add_assoc]
        · rw [show n + 800 * ((j + 1 : Nat) : Int) = n + 800 * (j : Int) + 800 by omega]
          exact hR3
      case measure => simp [intOf]; omega
    · obtain rfl : j = M := by omega
      have hu0 : u.size = 0 := by
        rw [← HH.out.2.2.2.2.2.1, List.drop_length] at hD
        by_cases h0 : u.size = 0
        · exact h0
        · rw [pagesL_step x u.size (by omega)] at hD
          cases hD
      have hp : p = m := by omega
      have hfin : c'.a = burnA fa a t.data.toList := by
        rw [hca', List.take_of_length_le (by rw [HH.out.2.2.2.2.2.2]; omega)]
      have HF := Lib.hid (And.intro hcr (And.intro hfin (And.intro hcq (And.intro hcb (hR.most (m := n + 14400) (by omega) hn)))))
      clear hD hu hcr hca' hcq hcb hR hfin
      go_wp2
      go_ret
      obtain ⟨k1, k2, k3, k4, k5⟩ := HF.out
      exact ⟨rfl, c', q', k1, k2, k3, k4, k5.rowsub fun r hr => List.mem_cons_of_mem _ hr⟩
/-- Any text that may be burned there. -/
theorem rdy_burns {Q : Own} {c : Cor} {b k fo fi : Nat} {n q : Int} {w0 w : World} {rows : List (Value × List Value)} (h : Rdy Q c b k fo fi n q w0 w rows) (hc : c.Rest) (fa : ByteArray) (hca : c.a = fa) (hsz : fa.size = 4096) (a : Nat) (t : ByteArray) (hl : t.size ≤ 512) (ha : a + t.size ≤ 4096) (hi : 2048 ≤ a ∨ t.size = 0) (hn0 : 0 ≤ n) (hn : n + 14400 ≤ 1048575) :
    Calls Tryz.prog 29 #[.pointer (some ⟨k, 0, none⟩), .int .i64 (a : Int), .string t] w fun e w' => e = .returned (.int .i64 0) ∧ ∃ c' q', c'.Rest ∧ c'.a = burnA fa a t.data.toList ∧ c'.quad = c.quad ∧ (c.busy = [] → c'.busy = []) ∧ Rdy Q c' b k fo fi (n + 14400) q' w0 w' rows := by
  by_cases h0 : t.size = 0
  · have ht0 : t = ⟨#[]⟩ := by
      obtain ⟨d⟩ := t
      simp only [ByteArray.size] at h0
      rw [Array.eq_empty_of_size_eq_zero h0]
    subst ht0
    refine (burn_empty k a (by omega) w).mono ?_
    rintro e w' ⟨rfl, hU⟩
    exact ⟨rfl, c, q, hc, by rw [hca]; exact (burnA_nil _ _).symm, rfl, id, (h.fr hU).most (by omega) hn⟩
  · exact rdy_burn h hc fa hca hsz a t (by omega) hl ha (by omega) hn0 hn
end Go.Proofs.YtkjdhkpkcepilaaGreat
