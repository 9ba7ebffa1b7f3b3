/- The walks over New, Next. -/
import Derived.Test.YtjdjdfllggpckaaGreatChipWN
import Derived.Laws.AppendOwnNone
import Derived.Lib.SliceRun
namespace Go.Proofs.YtjdjdfllggpckaaGreat
open Go.RowKit
set_option maxHeartbeats 1000000 in
theorem chip_new (a : ByteArray) (w : World) (ha : a.size = 4096) :
    Calls Tryz.prog 30 #[.string a] w fun e w' => ∃ b S, e = .returned (.tuple #[.pointer (some ⟨b, 0, none⟩), .int .i64 0]) ∧ ChipAt w' b (St.new a) S ∧ (∀ k, S k → w.heap.size ≤ k) ∧ Upd none' w w' := by
  have hm := cell_may a w ha
  go_enter Tryz.func30, Tryz.ntmps30
  go_wp2_with fail
  refine hm.mono ?_
  rintro e w1 ⟨rfl, hw1⟩
  go_wp2
  go_ret2
  have hB := Blk.new w ((St.new a).list (.pointer none) (.slice none 0 0) (.slice none 0 0)) 89
  refine ⟨w.heap.size, _, rfl, ⟨.pointer none, .slice none 0 0, .slice none 0 0, ⟨hB, rfl, RS.nil _, fun k hk => (by simp [Value.ownBlock] at hk), Row.nil _ _, fun k hk => (by cases hk), fun k hk => (by simp [Value.ownBlock] at hk), fun k hk => (by simp [Value.ownBlock] at hk)⟩, rfl⟩, ?_, (Upd.refl none' w).alloc _⟩
  rintro k (e | e | e | e)
  · omega
  · cases e
  · simp [Value.ownBlock] at e
  · simp [Value.ownBlock] at e
theorem cell_may_no (s : ByteArray) (w : World) (hs : ¬ s.size = 4096) :
    Calls Tryz.prog 57 #[.string s] w fun e w' => e = .returned (.bool false) ∧ w' = w := by
  have hb : ((s.size : Int) == 4096) = false := by simp; omega
  go_enter Tryz.func57, Tryz.ntmps57
  go_wp2
  go_ret
  exact ⟨rfl, rfl⟩
theorem chip_new_no (a : ByteArray) (w : World) (ha : ¬ a.size = 4096) :
    Calls Tryz.prog 30 #[.string a] w fun e w' => e = .returned (.tuple #[.pointer none, .int .i64 600]) ∧ w = w' := by
  have hm := cell_may_no a w ha
  go_enter Tryz.func30, Tryz.ntmps30
  go_wp2_with fail
  refine hm.mono ?_
  rintro e w1 ⟨rfl, hw1⟩
  go_wp2
  go_ret2
  exact ⟨rfl, rfl⟩
def badD (x : Int) : Bool := decide (x < 1 ∨ 400 < x)
theorem next_bad (x : Int) (w : World) :
    Calls Tryz.prog 41 #[.int .i64 x] w fun e w' => e = .returned (.bool (badD x)) ∧ w = w' := by
  by_cases h1 : x < 1
  · go_enter Tryz.func41, Tryz.ntmps41
    go_wp2
    go_ret
    exact ⟨by rw [show badD x = true from decide_eq_true (.inl h1)]; rfl, rfl⟩
  · by_cases h2 : 400 < x
    · go_enter Tryz.func41, Tryz.ntmps41
      go_wp2
      go_ret
      exact ⟨by rw [show badD x = true from decide_eq_true (.inr h2)]; rfl, rfl⟩
    · go_enter Tryz.func41, Tryz.ntmps41
      go_wp2
      go_ret
      exact ⟨by rw [show badD x = false from decide_eq_false (by omega)]; rfl, rfl⟩
def cloV : Value := .func (.func 41) #[] #[]
set_option maxHeartbeats 1000000 in
theorem index_func (w : World) (v : Value) (xs : List Int) (h : RS w v (ints xs)) :
    Calls Tryz.prog 68 #[v, cloV] w fun e w' => (∃ r : Int, e = .returned (.int .i64 r) ∧ (xs.any badD = true → 0 ≤ r) ∧ (xs.any badD = false → r = -1)) ∧ w = w' := by
  obtain ⟨h1, a, cap, rfl, h4, h5⟩ := h
  rw [ints_len] at h1 h4 h5 ⊢
  unfold cloV
  go_enter Tryz.func68, Tryz.ntmps68
  go_wp2_with fail
  go_loopw [8] (fun iv wr => ∃ i : Nat, i ≤ xs.length ∧ iv = .int .i64 i ∧ Hid (w = wr) ∧ ∀ j, j < i → badD (xs.getD j 0) = false) (fun iv _ => xs.length - (intOf iv).toNat)
  case atStart => exact ⟨0, by omega, rfl, Lib.hid rfl, fun j hj => by omega⟩
  case round =>
    obtain ⟨i, hi, rfl, hw, hno⟩ := hrel
    by_cases hlt : i < xs.length
    · obtain ⟨bb, oo, rfl, hbb, hcc⟩ := h5 (by intro h; simp [ints] at h; simp [h] at hlt)
      have hcell : wr.cell? ⟨bb, oo + i, none⟩ = some (.int .i64 (xs.getD i 0)) := by
        rw [← hw.out, hcc i hlt, ints_at _ _ hlt]
      clear hcc
      obtain ⟨y, hy⟩ : ∃ y, xs.getD i 0 = y := ⟨_, rfl⟩
      rw [hy] at hcell
      have HY := Lib.hid hy
      clear hy
      have hmem : y ∈ xs := by rw [← HY.out, List.getD_eq_getElem?_getD, List.getElem?_eq_getElem hlt]; exact List.getElem_mem hlt
      cases hb : badD y with
      | true =>
        have hany : xs.any badD = true := List.any_eq_true.2 ⟨y, hmem, hb⟩
        have HA := Lib.hid hany
        have hnb := hb ▸ next_bad y wr
        clear hany hmem
        go_wp2_with (go_at_call 41; refine hnb.mono ?_; rintro e w' ⟨rfl, rfl⟩)
        go_ret
        exact ⟨⟨_, rfl, fun _ => by omega, fun e => by rw [HA.out] at e; cases e⟩, hw.out⟩
      | false =>
        have hnb := hb ▸ next_bad y wr
        clear hmem
        go_wp2_with (go_at_call 41; refine hnb.mono ?_; rintro e w' ⟨rfl, rfl⟩)
        refine ⟨?rel, ?measure⟩
        case rel => exact ⟨i + 1, by omega, by go_num, hw, fun j hj => by
          rcases Nat.lt_succ_iff_lt_or_eq.1 hj with h | h
          · exact hno j h
          · subst h; rw [HY.out]; exact hb⟩
        case measure => simp [intOf]; omega
    · have hieq : i = xs.length := by omega
      subst hieq
      go_wp2
      go_ret
      refine ⟨⟨_, rfl, fun e => ?_, fun _ => rfl⟩, hw.out⟩
      obtain ⟨y, hy, hb⟩ := List.any_eq_true.1 e
      obtain ⟨j, hj, rfl⟩ := List.getElem_of_mem hy
      have := hno j hj
      rw [List.getD_eq_getElem?_getD, List.getElem?_eq_getElem hj] at this
      simp only [Option.getD_some] at this
      rw [hb] at this
      cases this
theorem contains_func (w : World) (v : Value) (xs : List Int) (h : RS w v (ints xs)) :
    Calls Tryz.prog 42 #[v, cloV] w fun e w' => e = .returned (.bool (xs.any badD)) ∧ w = w' := by
  have hi := index_func w v xs h
  obtain ⟨_, a, cap, rfl, -⟩ := h
  unfold cloV at hi ⊢
  go_enter Tryz.func42, Tryz.ntmps42
  go_wp2_with fail
  refine hi.mono ?_
  rintro e w1 ⟨⟨r, rfl, hr1, hr2⟩, rfl⟩
  cases hb : xs.any badD with
  | true =>
    have := hr1 hb
    clear hr1 hr2
    go_wp2
    go_ret
    exact ⟨by rw [hb]; rfl, rfl⟩
  | false =>
    have := hr2 hb
    subst this
    clear hr1 hr2
    go_wp2
    go_ret
    exact ⟨by rw [hb]; rfl, rfl⟩
theorem cells_add {w : World} {b o n : Nat} {vs : List Value} (hb : b < w.heap.size) (ob : Obj) (hn : vs.length = n) (hc : ∀ j, j < n → w.cell? ⟨b, o + j, none⟩ = vs[j]?) : ∀ j u, vs[j]? = some u → (w.alloc ob).cell? ((⟨b, o, none⟩ : Addr).add j) = some u := by
  intro j u hu
  have hj : j < n := by rw [← hn]; exact (List.getElem?_eq_some_iff.1 hu).1
  have ea : (⟨b, o, none⟩ : Addr).add j = ⟨b, o + j, none⟩ := by unfold Addr.add; split <;> simp_all
  rw [ea, World.cell?_alloc_lt _ _ _ hb, hc j hj]
  exact hu
theorem clone_ints (w : World) (v : Value) (xs : List Int) (h : RS w v (ints xs)) (hn : xs ≠ []) (hl : xs.length ≤ 4096) :
    Calls Tryz.prog 43 #[v] w fun e w' => ∃ v', e = .returned v' ∧ Row w' 3 v' (ints xs) ∧ (∀ k, v'.ownBlock = some k → w.heap.size ≤ k) ∧ Upd none' w w' := by
  obtain ⟨h1, a, cap, rfl, h4, h5⟩ := h
  have hlen : (ints xs).length = xs.length := by simp [ints]
  obtain ⟨b, o, rfl, hb, hc⟩ := h5 (by simpa [ints] using hn)
  rw [hlen] at h1 h4 hc ⊢
  have HC := Lib.hid (cells_add hb (.cells #[] 3) hlen hc)
  clear h5 hc
  have hnil : ∀ W, (binOp .eql 27 (.slice (some ⟨b, o, none⟩) xs.length cap) (.slice none 0 0)).run Tryz.prog W = .ok (.bool false) W := fun W => Lib.run_eql_slice_nil W _ _ _ _ _ _ _ Tryz.underlying27
  go_enter Tryz.func43, Tryz.ntmps43
  go_wp2_with (at_builtin; go_must (refine wpList_appS rfl _ _ 27 rfl 3 (.int .i64 0) 8 Tryz.underlying27 info_int rfl w.heap.size (.slice (some ⟨w.heap.size, 0, none⟩) 0 0) 0 [] rfl (own_empty w 3) _ ⟨b, o, none⟩ xs.length _ (ints xs) rfl rfl (by simp [ints]) HC.out (ints_one xs) (by omega) (by omega) (by simp) ?_); intro v' w1 hO1 hU1)
  have hU1' : Upd none' w w1 := ((Upd.refl none' w).alloc _).trans hU1 (fun k h1 h2 => by simp [Value.ownBlock] at h2; omega)
  obtain ⟨hR1, hbase⟩ := Row.of_own hO1
  go_ret
  exact ⟨_, rfl, hR1, hbase, hU1'⟩
set_option maxHeartbeats 1000000 in
theorem chip_next (b : Nat) (s : St) (S : Nat → Prop) (w : World) (hA : ChipAt w b s S) (v : Value) (xs : List Int) (h : RS w v (ints xs)) (hne : xs ≠ []) (hl : xs.length ≤ 16) (hbad : xs.any badD = false) :
    Calls Tryz.prog 18 #[.pointer (some ⟨b, 0, none⟩), v] w fun e w' => e = .returned (.int .i64 0) ∧ ChipPost b { s with busy := xs } S w w' := by
  have hc := contains_func w v xs h
  rw [hbad] at hc
  have hcl := clone_ints w v xs h hne (by omega)
  obtain ⟨jv, bv, dv, hv, rfl⟩ := hA
  have c19 := hv.cb.cell 19
  have f19 := hv.cb.frozen 19
  simp only [St.list, List.getElem?_cons_succ, List.getElem?_cons_zero] at c19
  have HV := Lib.hid hv
  have hlt := hv.cb.lt
  obtain ⟨_, a, cap, rfl, -⟩ := h
  rw [ints_len] at hc hcl ⊢
  unfold cloV at hc
  clear hv
  go_enter Tryz.func18, Tryz.ntmps18
  go_wp2_with (first | (go_at_call 42; refine hc.mono ?_; rintro e w' ⟨rfl, rfl⟩) | (go_at_call 43; refine hcl.mono ?_; rintro e w1 ⟨v', rfl, hR, hf, hU⟩; obtain ⟨va, na, rfl, -⟩ := hR.form; have hv1 := ChipV.upd0 HV.out hU; have d19 := hv1.cb.cell 19; have g19 := hv1.cb.frozen 19; simp only [St.list, List.getElem?_cons_succ, List.getElem?_cons_zero] at d19; have HV1 := Lib.hid hv1))
  go_ret
  have hUs := (Upd.refl (fun k => k = b) w1).setCell ⟨b, 19, none⟩ (.slice va (ints xs).length na) (fun _ => rfl)
  have hv1 := HV1.out
  have hown : ∀ k, (Value.slice va (ints xs).length na).ownBlock = some k → k ≠ b ∧ jv ≠ .pointer (some ⟨k, 0, none⟩) ∧ dv.ownBlock ≠ some k := by
    intro k hk
    have h1 := hf k hk
    refine ⟨by omega, fun e => ?_, fun e => ?_⟩
    · have := HV.out.job.lt k e; omega
    · have := HV.out.data.lt k e; omega
  have hR2 := hR.upd hUs (fun k hk => (hown k hk).1)
  refine ⟨rfl, chipSet b jv (.slice va (ints xs).length na) dv, ⟨jv, _, dv, ⟨hv1.cb.set 19 _, hv1.job.upd hUs (fun k hk => hv1.sj k hk), hR2.rs (by rw [ints_len]; omega), fun k hk => hR2.lt k hk, hv1.data.upd hUs (fun k hk => (hv1.sd k hk).1), hv1.sj, fun k hk => ⟨(hown k hk).1, (hown k hk).2.1⟩, fun k hk => ⟨(hv1.sd k hk).1, (hv1.sd k hk).2.1, fun e => (hown k e).2.2 hk⟩⟩, rfl⟩, ?_, ?_⟩
  · rintro k (e | e | e | e)
    · exact .inl (.inl e)
    · exact .inl (.inr (.inl e))
    · exact .inr (hf k e)
    · exact .inl (.inr (.inr (.inr e)))
  · exact (hU.mono (fun _ _ f => f.elim)).trans (hUs.mono (T := chipSet b jv bv dv) (fun k _ e => .inl e)) (fun _ _ e => e)
theorem chip_next_no (b : Nat) (w : World) (v : Value) (xs : List Int) (h : RS w v (ints xs)) (hl : xs.length ≤ 16) (hbad : xs.any badD = true) :
    Calls Tryz.prog 18 #[.pointer (some ⟨b, 0, none⟩), v] w fun e w' => e = .returned (.int .i64 600) ∧ w = w' := by
  have hc := contains_func w v xs h
  rw [hbad] at hc
  obtain ⟨_, a, cap, rfl, -⟩ := h
  rw [ints_len] at hc ⊢
  unfold cloV at hc
  go_enter Tryz.func18, Tryz.ntmps18
  go_wp2_with (go_at_call 42; refine hc.mono ?_; rintro e w' ⟨rfl, rfl⟩)
  go_ret
  exact ⟨rfl, rfl⟩
end Go.Proofs.YtjdjdfllggpckaaGreat
