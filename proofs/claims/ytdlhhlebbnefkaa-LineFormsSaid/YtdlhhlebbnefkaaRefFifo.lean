/- The document's queue (lichenref1.Fifo): what its two methods do. -/
import Derived.Test.YtdlhhlebbnefkaaRow
import Derived.Test.YtdlhhlebbnefkaaProg
namespace Go.Proofs.Ytdlhhlebbnefkaa
open Go.RowKit
theorem info_int : (Try.prog.info? 3).map (fun i => (i.zero, i.size, i.bytes)) = some (some (.int .i64 0), 1, 8) := by kernel_rfl
def ints (xs : List Int) : List Value := xs.map (Value.int .i64)
/-- Block r is a queue that holds xs; o: the block of its slice. -/
def RefFifoAt (w : World) (r : Nat) (S : Nat → Prop) (xs : List Int) : Prop :=
  ∃ v, Blk w r [v] 27 ∧ Row w 3 v (ints xs) ∧ v.ownBlock ≠ some r ∧ (S = fun k => k = r ∨ v.ownBlock = some k)
theorem ints_one (xs : List Int) : ∀ u ∈ ints xs, u.oneCell' = true := ints_oneCell .i64 xs
theorem ref_push_ok (r : Nat) (S : Nat → Prop) (x : Int) (xs : List Int) (w : World) (h : RefFifoAt w r S xs) (hl : xs.length < 16) :
    Calls Try.prog 16 #[.pointer (some ⟨r, 0, none⟩), .int .i64 x] w fun e w' =>
      e = .returned (.int .i64 0) ∧ Upd S w w' ∧ ∃ S', RefFifoAt w' r S' (xs ++ [x]) ∧ ∀ k, S' k → S k ∨ w.heap.size ≤ k := by
  obtain ⟨v, hB, hR, hne, rfl⟩ := h
  have hc0 := hB.cell 0
  simp only [List.getElem?_cons_zero] at hc0
  have hf0 := hB.frozen 0
  have hlen : (ints xs).length = xs.length := by simp [ints]
  have hform := hR.form
  rw [hlen] at hform
  obtain ⟨ao, cap, rfl, hcap, hnil, hsome⟩ := hform
  have hR' := Lib.hid hR
  have HL := Lib.hid hlen
  clear hsome hnil hR hlen
  go_enter Try.func16, Try.ntmps16
  go_wp2_with (at_builtin; go_must (refine wpList_app1 rfl _ _ 22 rfl 3 (.int .i64 0) 8 Try.underlying22 info_int rfl _ (ints xs) xs.length HL.out rfl w (.int .i64 x) ⟨rfl, rfl, rfl⟩ hR'.out rfl rfl (by omega) (by omega) ?_); intro g cap' w1 hR1 hU1 hg1 hgs1; have hb1 := hB.upd hU1 hne; have hc1 := hb1.cell 0; have hf1 := hb1.frozen 0; simp only [List.getElem?_cons_zero] at hc1)
  go_ret
  have hU2 : Upd (fun k => k = r ∨ (Value.slice ao xs.length cap).ownBlock = some k) w (w1.setCell ⟨r, 0, none⟩ (.slice (some ⟨g, 0, none⟩) (xs.length + 1) cap')) :=
    (hU1.mono (fun _ _ k => .inr k)).setCell ⟨r, 0, none⟩ _ (fun _ => .inl rfl)
  have hgr : g ≠ r := by
    rcases hg1 with h | h
    · intro e; subst e; exact hne h
    · have := hB.lt; omega
  refine ⟨rfl, hU2, _, ⟨_, hb1.set 0 _, ?_, ?_, rfl⟩, ?_⟩
  · refine (Row.upd (S := fun k => k = r) ?_ ((Upd.refl _ w1).setCell ⟨r, 0, none⟩ _ (fun _ => rfl)) (fun k hk => ?_))
    · simpa [ints] using hR1
    · simp [Value.ownBlock] at hk; omega
  · simpa [Value.ownBlock] using hgr
  · rintro k (h | h)
    · exact .inl (.inl h)
    · simp [Value.ownBlock] at h; subst h
      rcases hg1 with h | h
      · exact .inl (.inr h)
      · exact .inr h
theorem ref_push_no (r : Nat) (S : Nat → Prop) (x : Int) (xs : List Int) (w : World) (h : RefFifoAt w r S xs) (hl : 16 ≤ xs.length) :
    Calls Try.prog 16 #[.pointer (some ⟨r, 0, none⟩), .int .i64 x] w fun e w' => e = .returned (.int .i64 801) ∧ w = w' := by
  obtain ⟨v, hB, hR, hne, rfl⟩ := h
  have hc0 := hB.cell 0
  simp only [List.getElem?_cons_zero] at hc0
  have hlen : (ints xs).length = xs.length := by simp [ints]
  have hform := hR.form
  rw [hlen] at hform
  obtain ⟨ao, cap, rfl, hcap, hnil, hsome⟩ := hform
  clear hsome hnil hR hlen
  go_enter Try.func16, Try.ntmps16
  go_wp2
  go_ret
  exact ⟨rfl, rfl⟩
theorem ref_pop_no (r : Nat) (S : Nat → Prop) (w : World) (h : RefFifoAt w r S []) :
    Calls Try.prog 13 #[.pointer (some ⟨r, 0, none⟩)] w fun e w' => e = .returned (.tuple #[.int .i64 0, .int .i64 800]) ∧ w = w' := by
  obtain ⟨v, hB, hR, hne, rfl⟩ := h
  have hc0 := hB.cell 0
  simp only [List.getElem?_cons_zero] at hc0
  obtain ⟨ao, cap, rfl, hcap, hnil, hsome⟩ := hR.form
  clear hsome hnil hR
  simp only [ints, List.map_nil, List.length_nil] at hc0
  go_enter Try.func13, Try.ntmps13
  go_wp2
  go_ret2
  exact ⟨rfl, rfl⟩
theorem ref_pop_ok (r : Nat) (S : Nat → Prop) (x : Int) (xs : List Int) (w : World) (h : RefFifoAt w r S (x :: xs)) (hl : xs.length < 16) :
    Calls Try.prog 13 #[.pointer (some ⟨r, 0, none⟩)] w fun e w' =>
      e = .returned (.tuple #[.int .i64 x, .int .i64 0]) ∧ Upd S w w' ∧ ∃ S', RefFifoAt w' r S' xs ∧ ∀ k, S' k → S k ∨ w.heap.size ≤ k := by
  obtain ⟨v, hB, hR, hne, rfl⟩ := h
  have hc0 := hB.cell 0
  simp only [List.getElem?_cons_zero] at hc0
  have hf0 := hB.frozen 0
  have hlen : (ints (x :: xs)).length = xs.length + 1 := by simp [ints]
  have hform := hR.form
  rw [hlen] at hform
  obtain ⟨ao, cap, rfl, hcap, hnil, hsome⟩ := hform
  cases ao with
  | none => exact absurd (hnil rfl).1 (by simp [ints])
  | some ad =>
    obtain ⟨g, rfl, hog, hgs, hcg, hfg⟩ := hsome ad rfl
    have hx0 : w.cell? ⟨g, 0, none⟩ = some (.int .i64 x) := by rw [hcg 0 (by omega)]; simp [ints]
    have hR' := Lib.hid hR
    have HL := Lib.hid hlen
    have HC := Lib.hid hcg
    have hrs := hB.lt
    clear hnil hR hlen hcg hsome hfg hog
    have hsrc : ∀ ad : Addr, (if cap = 1 then some (⟨g, 0, none⟩ : Addr) else some ⟨g, 1, none⟩) = some ad → ∀ j u, (ints xs)[j]? = some u → (w.alloc (.cells #[] 3)).cell? (ad.add j) = some u := by
      intro ad had j u hu
      have hj : j < xs.length := by
        have := (List.getElem?_eq_some_iff.1 hu).1
        simpa [ints] using this
      have hc1 : cap ≠ 1 := by omega
      rw [if_neg hc1] at had
      cases had
      have ea : (⟨g, 1, none⟩ : Addr).add j = ⟨g, 1 + j, none⟩ := by unfold Addr.add; split <;> simp_all
      rw [ea, World.cell?_alloc_lt _ _ _ hgs, HC.out (1 + j) (by have := HL.out; omega)]
      simpa [ints, Nat.add_comm 1 j] using hu
    have HS := Lib.hid hsrc
    clear hsrc
    obtain ⟨ad, had⟩ : ∃ ad : Addr, (if cap = 1 then some (⟨g, 0, none⟩ : Addr) else some ⟨g, 1, none⟩) = some ad := by split <;> exact ⟨_, rfl⟩
    have HA := Lib.hid had
    clear had
    go_enter Try.func13, Try.ntmps13
    go_wp2_with (at_builtin; go_must (refine wpList_appS rfl _ _ 22 rfl 3 (.int .i64 0) 8 Try.underlying22 info_int rfl w.heap.size _ 0 [] rfl (own_empty w 3) _ ad xs.length _ (ints xs) rfl HA.out (by simp [ints]) (HS.out ad HA.out) (ints_one xs) (by omega) (by omega) (by simp) ?_))
    all_goals (intro v' w1 hO1 hU1)
    all_goals
      have hU1' : Upd none' w w1 := ((Upd.refl none' w).alloc _).trans hU1 (fun k h1 h2 => by simp [Value.ownBlock] at h2; omega)
      have hb1 := hB.upd hU1' (fun f => f)
      have hc1 := hb1.cell 0
      have hf1 := hb1.frozen 0
      simp only [List.getElem?_cons_zero] at hc1
      obtain ⟨hR1, hbase⟩ := Row.of_own hO1
      obtain ⟨ao', cap', rfl, _⟩ := hR1.form
      go_wp2
      go_ret2
      have hU2 : Upd (fun k => k = r) w (w1.setCell ⟨r, 0, none⟩ (.slice ao' (ints xs).length cap')) := (hU1'.mono (fun _ _ f => f.elim)).setCell ⟨r, 0, none⟩ _ (fun _ => rfl)
      have hne1 : (Value.slice ao' (ints xs).length cap').ownBlock ≠ some r := fun h => by have := hbase r h; omega
      refine ⟨rfl, hU2.mono (fun _ _ k => .inl k), _, ⟨_, hb1.set 0 _, ?_, hne1, rfl⟩, ?_⟩
      · exact hR1.upd (S := fun k => k = r) ((Upd.refl _ w1).setCell ⟨r, 0, none⟩ _ (fun _ => rfl)) (fun k hk e => by subst e; exact hne1 hk)
      · rintro k (h | h)
        · exact .inl (.inl h)
        · exact .inr (hbase k h)
end Go.Proofs.Ytdlhhlebbnefkaa
