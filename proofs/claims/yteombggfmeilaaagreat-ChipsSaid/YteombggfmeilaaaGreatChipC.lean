/- The walks over known. · The walk over begins. · The walks over (*job).cells and pass. · The walk over Status. · The walk over byteAt. · The walk over says. -/
import Derived.Test.YteombggfmeilaaaGreatChipB
import Derived.Test.YteombggfmeilaaaGreatOpOf
import Derived.Test.YteombggfmeilaaaGreatChipA
import Derived.Test.YteombggfmeilaaaGreatChipM
import Derived.Test.YteombggfmeilaaaGreatLow
import Derived.Deep.RegionHeld3
namespace Go.Proofs.YteombggfmeilaaaGreat
open Go.RowKit
theorem JobV.upd {S : Nat → Prop} {w w' : World} {jv : Value} {j : Option Job} (h : JobV w jv j) (u : Upd S w w') (hS : ∀ g, jv = .pointer (some ⟨g, 0, none⟩) → ¬ S g) : JobV w' jv j := by
  cases j with
  | none => exact h
  | some j => obtain ⟨g, h1, h2⟩ := h; exact ⟨g, h1, h2.upd u (hS g h1)⟩
set_option maxHeartbeats 1000000 in
theorem chip_known_yes (b : Nat) (c : Int) (hc : opIs c = true) (s : St) (jv bv dv : Value) (w : World) (h : CB w b s jv bv dv) (hj : JobV w jv s.job) :
    Calls Tryz.prog 150 #[.pointer (some ⟨b, 0, none⟩), .int .i64 c] w fun e w' =>
      e = .returned (.tuple #[.agg (opOf c).cells, .bool (s.takes (opOf c).byte)]) ∧ Upd none' w w' := by
  go_enter Tryz.func150, Tryz.ntmps150
  go_wp2_with fail
  refine (op_of c hc _).mono ?_
  rintro e w1 ⟨rfl, hU1⟩
  simp only [POp.cells]
  go_wp2_with fail
  have hz0 := (Blk.new w [.int .i64 0, .int .i64 0, .bool false, .int .i64 0, .int .i64 0, .bool false] 52).upd hU1 (fun f => f)
  have hlt0 := hz0.lt
  have hUw : Upd none' w w1 := ((Upd.refl none' w).alloc _).trans hU1 (fun _ _ f => f)
  have hq := Blk.new w1 [.int .i64 (opOf c).byte, .int .i64 (opOf c).addr, .bool (opOf c).mode, .int .i64 (opOf c).dummy, .int .i64 (opOf c).data, .bool (opOf c).inn] 52
  have hU2 : Upd none' w (w1.alloc (.cells #[.int .i64 (opOf c).byte, .int .i64 (opOf c).addr, .bool (opOf c).mode, .int .i64 (opOf c).dummy, .int .i64 (opOf c).data, .bool (opOf c).inn] 52)) := hUw.alloc _
  have hz := hz0.alloc (.cells #[.int .i64 (opOf c).byte, .int .i64 (opOf c).addr, .bool (opOf c).mode, .int .i64 (opOf c).dummy, .int .i64 (opOf c).data, .bool (opOf c).inn] 52)
  have hne : w1.heap.size ≠ w.heap.size := by omega
  generalize w1.alloc (.cells #[.int .i64 (opOf c).byte, .int .i64 (opOf c).addr, .bool (opOf c).mode, .int .i64 (opOf c).dummy, .int .i64 (opOf c).data, .bool (opOf c).inn] 52) = W2 at *
  generalize w1.heap.size = q at *
  have hrlt := h.lt
  obtain ⟨r, hr⟩ : ∃ r, r = w.heap.size := ⟨_, rfl⟩
  have hge : w.heap.size ≤ r := by omega
  have hbr : b ≠ r := by omega
  rw [← hr] at hz hne ⊢
  have hC2 : CB W2 b s jv bv dv := h.upd hU2 (fun f => f)
  have hj2 := hj.upd hU2 (fun _ _ f => f)
  have q0 := hq.cell 0
  have q1 := hq.cell 1
  have q2 := hq.cell 2
  have q3 := hq.cell 3
  have q4 := hq.cell 4
  have q5 := hq.cell 5
  have z0 := hz.cell 0
  have z1 := hz.cell 1
  have z2 := hz.cell 2
  have z3 := hz.cell 3
  have z4 := hz.cell 4
  have z5 := hz.cell 5
  have y0 := hz.frozen 0
  have y1 := hz.frozen 1
  have y2 := hz.frozen 2
  have y3 := hz.frozen 3
  have y4 := hz.frozen 4
  have y5 := hz.frozen 5
  simp only [List.getElem?_cons_succ, List.getElem?_cons_zero] at q0 q1 q2 q3 q4 q5 z0 z1 z2 z3 z4 z5
  clear hr hU1 hz0 hlt0 hrlt
  have hU3 := Upd.setCell hU2 ⟨r, 0, none⟩ (.int .i64 (opOf c).byte) (fun hk => absurd hk (by simp; omega))
  have hU4 := Upd.setCell hU3 ⟨r, 1, none⟩ (.int .i64 (opOf c).addr) (fun hk => absurd hk (by simp; omega))
  have hU5 := Upd.setCell hU4 ⟨r, 2, none⟩ (.bool (opOf c).mode) (fun hk => absurd hk (by simp; omega))
  have hU6 := Upd.setCell hU5 ⟨r, 3, none⟩ (.int .i64 (opOf c).dummy) (fun hk => absurd hk (by simp; omega))
  have hU7 := Upd.setCell hU6 ⟨r, 4, none⟩ (.int .i64 (opOf c).data) (fun hk => absurd hk (by simp; omega))
  have hU8 := (Upd.setCell hU7 ⟨r, 5, none⟩ (.bool (opOf c).inn) (fun hk => absurd hk (by simp; omega))).drew
  have HU8 := Lib.hid hU8
  clear hU3 hU4 hU5 hU6 hU7 hU8
  go_region_with (go_at_call 189; refine (chip_takes b q (opOf c).byte s jv bv dv _ ?_ ?_ ?_).mono ?_; exact hC2; exact hj2; exact q0; rintro e w' ⟨rfl, rfl⟩)
  all_goals go_wp2
  all_goals
    refine bodyPost_ret (v := .tuple #[.agg (opOf c).cells, .bool (s.takes (opOf c).byte)]) ?_ rfl ⟨rfl, HU8.out⟩
    simp [results, Tryz.results150, go_sem, POp.cells, Act.put, z0, z1, z2, z3, z4, z5]
set_option maxHeartbeats 1000000 in
theorem chip_known_no (b : Nat) (c : Int) (hc : opIs c = false) (s : St) (jv bv dv : Value) (w : World) (h : CB w b s jv bv dv) (hj : JobV w jv s.job) :
    Calls Tryz.prog 150 #[.pointer (some ⟨b, 0, none⟩), .int .i64 c] w fun e w' =>
      e = .returned (.tuple #[.agg op0.cells, .bool false]) ∧ Upd none' w w' := by
  go_enter Tryz.func150, Tryz.ntmps150
  go_wp2_with fail
  refine (op_of_no c hc _).mono ?_
  rintro e w1 ⟨rfl, hU1⟩
  simp only [POp.cells, op0]
  go_wp2_with fail
  have hz0 := (Blk.new w [.int .i64 0, .int .i64 0, .bool false, .int .i64 0, .int .i64 0, .bool false] 52).upd hU1 (fun f => f)
  have hlt0 := hz0.lt
  have hUw : Upd none' w w1 := ((Upd.refl none' w).alloc _).trans hU1 (fun _ _ f => f)
  have hq := Blk.new w1 [.int .i64 0, .int .i64 0, .bool false, .int .i64 0, .int .i64 0, .bool false] 52
  have hU2 : Upd none' w (w1.alloc (.cells #[.int .i64 0, .int .i64 0, .bool false, .int .i64 0, .int .i64 0, .bool false] 52)) := hUw.alloc _
  have hz := hz0.alloc (.cells #[.int .i64 0, .int .i64 0, .bool false, .int .i64 0, .int .i64 0, .bool false] 52)
  have hne : w1.heap.size ≠ w.heap.size := by omega
  generalize w1.alloc (.cells #[.int .i64 0, .int .i64 0, .bool false, .int .i64 0, .int .i64 0, .bool false] 52) = W2 at *
  generalize w1.heap.size = q at *
  have hrlt := h.lt
  obtain ⟨r, hr⟩ : ∃ r, r = w.heap.size := ⟨_, rfl⟩
  have hge : w.heap.size ≤ r := by omega
  have hbr : b ≠ r := by omega
  rw [← hr] at hz hne ⊢
  have hC2 : CB W2 b s jv bv dv := h.upd hU2 (fun f => f)
  have hj2 := hj.upd hU2 (fun _ _ f => f)
  have q0 := hq.cell 0
  have q1 := hq.cell 1
  have q2 := hq.cell 2
  have q3 := hq.cell 3
  have q4 := hq.cell 4
  have q5 := hq.cell 5
  have z0 := hz.cell 0
  have z1 := hz.cell 1
  have z2 := hz.cell 2
  have z3 := hz.cell 3
  have z4 := hz.cell 4
  have z5 := hz.cell 5
  have y0 := hz.frozen 0
  have y1 := hz.frozen 1
  have y2 := hz.frozen 2
  have y3 := hz.frozen 3
  have y4 := hz.frozen 4
  have y5 := hz.frozen 5
  simp only [List.getElem?_cons_succ, List.getElem?_cons_zero] at q0 q1 q2 q3 q4 q5 z0 z1 z2 z3 z4 z5
  clear hr hU1 hz0 hlt0 hrlt
  have hU3 := Upd.setCell hU2 ⟨r, 0, none⟩ (.int .i64 0) (fun hk => absurd hk (by simp; omega))
  have hU4 := Upd.setCell hU3 ⟨r, 1, none⟩ (.int .i64 0) (fun hk => absurd hk (by simp; omega))
  have hU5 := Upd.setCell hU4 ⟨r, 2, none⟩ (.bool false) (fun hk => absurd hk (by simp; omega))
  have hU6 := Upd.setCell hU5 ⟨r, 3, none⟩ (.int .i64 0) (fun hk => absurd hk (by simp; omega))
  have hU7 := Upd.setCell hU6 ⟨r, 4, none⟩ (.int .i64 0) (fun hk => absurd hk (by simp; omega))
  have hU8 := (Upd.setCell hU7 ⟨r, 5, none⟩ (.bool false) (fun hk => absurd hk (by simp; omega))).drew
  have HU8 := Lib.hid hU8
  clear hU3 hU4 hU5 hU6 hU7 hU8
  go_region
  all_goals go_wp2
  all_goals
    refine bodyPost_ret (v := .tuple #[.agg op0.cells, .bool false]) ?_ rfl ⟨rfl, HU8.out⟩
    simp [results, Tryz.results150, go_sem, POp.cells, op0, z0, z1, z2, z3, z4, z5]
end Go.Proofs.YteombggfmeilaaaGreat
namespace Go.Proofs.YteombggfmeilaaaGreat
open Go.RowKit
theorem opOf_form (c : Int) : ((opOf c).mode = true → (opOf c).addr = 1 ∨ (opOf c).addr = 4) ∧ ((opOf c).inn = true → (opOf c).data ≠ 0 → (opOf c).data = 1 ∨ (opOf c).data = 4) ∧ (0 < (opOf c).addr → (opOf c).addr = 1 ∨ (opOf c).addr = 4) ∧ 0 ≤ (opOf c).addr := by
  unfold opOf
  repeat' split
  all_goals simp [op0]
theorem cb_op {w : World} {b : Nat} {s : St} {jv bv dv : Value} (h : CB w b s jv bv dv) (o : POp) :
    CB ((((((w.setCell ⟨b, 20, none⟩ (.int .i64 o.byte)).setCell ⟨b, 21, none⟩ (.int .i64 o.addr)).setCell ⟨b, 22, none⟩ (.bool o.mode)).setCell ⟨b, 23, none⟩ (.int .i64 o.dummy)).setCell ⟨b, 24, none⟩ (.int .i64 o.data)).setCell ⟨b, 25, none⟩ (.bool o.inn)) b { s with op := o } jv bv dv :=
  (((((h.set 20 (.int .i64 o.byte)).set 21 (.int .i64 o.addr)).set 22 (.bool o.mode)).set 23 (.int .i64 o.dummy)).set 24 (.int .i64 o.data)).set 25 (.bool o.inn)
theorem upd_op {S : Nat → Prop} {a w : World} {b : Nat} (h : Upd S a w) (hb : S b) (o : POp) :
    Upd S a ((((((w.setCell ⟨b, 20, none⟩ (.int .i64 o.byte)).setCell ⟨b, 21, none⟩ (.int .i64 o.addr)).setCell ⟨b, 22, none⟩ (.bool o.mode)).setCell ⟨b, 23, none⟩ (.int .i64 o.dummy)).setCell ⟨b, 24, none⟩ (.int .i64 o.data)).setCell ⟨b, 25, none⟩ (.bool o.inn)) :=
  (((((h.setCell ⟨b, 20, none⟩ _ (fun _ => hb)).setCell ⟨b, 21, none⟩ _ (fun _ => hb)).setCell ⟨b, 22, none⟩ _ (fun _ => hb)).setCell ⟨b, 23, none⟩ _ (fun _ => hb)).setCell ⟨b, 24, none⟩ _ (fun _ => hb)).setCell ⟨b, 25, none⟩ _ (fun _ => hb)
set_option maxHeartbeats 1000000 in
theorem chip_begins (b : Nat) (c : Int) (s : St) (jv bv dv : Value) (w : World) (h : CB w b s jv bv dv) (hj : JobV w jv s.job) :
    Calls Tryz.prog 93 #[.pointer (some ⟨b, 0, none⟩), .int .i64 c] w fun e w' =>
      e = .returned (.tuple #[]) ∧ CB w' b (s.begins c) jv bv dv ∧ Upd (fun k => k = b) w w' := by
  by_cases hc : opIs c = true
  · obtain ⟨hof1, hof2, hof3, hof4⟩ := opOf_form c
    have hfin : (s.takes (opOf c).byte = false → s.begins c = { s with op := opOf c }.enter 1 0) ∧ (s.takes (opOf c).byte = true → 0 < (opOf c).addr → s.begins c = { s with op := opOf c }.enter 2 (24 / (opOf c).addr)) ∧ (s.takes (opOf c).byte = true → ¬ 0 < (opOf c).addr → s.begins c = { s with op := opOf c }.behind) := by
      refine ⟨fun h1 => ?_, fun h1 h2 => ?_, fun h1 h2 => ?_⟩
      · simp [St.begins, St.known, hc, h1]
      · simp [St.begins, St.known, hc, h1, h2]
      · simp only [St.begins, St.known, hc, h1, if_neg h2]; simp
    obtain ⟨hfin1, hfin2, hfin3⟩ := hfin
    cases htk : s.takes (opOf c).byte with
    | false =>
      have HF := Lib.hid (hfin1 htk)
      clear hfin1 hfin2 hfin3 hof1 hof2 hof3
      go_enter Tryz.func93, Tryz.ntmps93
      go_wp2_with fail
      refine (chip_known_yes b c hc s jv bv dv _ h hj).mono ?_
      rintro e w1 ⟨rfl, hU1⟩
      simp only [POp.cells]
      rw [htk]
      have hC1 : CB w1 b s jv bv dv := h.upd hU1 (fun f => f)
      have hC2 := hC1.alloc (.cells #[.int .i64 (opOf c).byte, .int .i64 (opOf c).addr, .bool (opOf c).mode, .int .i64 (opOf c).dummy, .int .i64 (opOf c).data, .bool (opOf c).inn] 52)
      have hlt := hC1.lt
      have f20 := hC1.frozen 20
      have f21 := hC1.frozen 21
      have f22 := hC1.frozen 22
      have f23 := hC1.frozen 23
      have f24 := hC1.frozen 24
      have f25 := hC1.frozen 25
      have c20 := hC1.cell 20
      have c21 := hC1.cell 21
      have c22 := hC1.cell 22
      have c23 := hC1.cell 23
      have c24 := hC1.cell 24
      have c25 := hC1.cell 25
      simp only [St.list, List.getElem?_cons_succ, List.getElem?_cons_zero] at c20 c21 c22 c23 c24 c25
      go_wp2_with fail
      refine (cmd_enter b { s with op := (opOf c) } jv bv dv _ _ _ ?_).mono ?_
      exact (cb_op hC1 (opOf c)).alloc _
      rintro e w3 ⟨rfl, hB3, hU3⟩
      go_wp2
      go_end0
      exact ⟨rfl, HF.out ▸ hB3, (((upd_op ((Upd.refl (fun k => k = b) w).trans hU1 (fun _ _ f => f.elim)) rfl (opOf c)).alloc _).trans hU3 (fun _ _ k => k))⟩
    | true =>
      by_cases had : 0 < (opOf c).addr
      · have HF := Lib.hid (hfin2 htk had)
        have hcase := hof3 had
        clear hfin1 hfin2 hfin3 hof1 hof2 hof3
        clear hcase
        go_enter Tryz.func93, Tryz.ntmps93
        go_wp2_with fail
        refine (chip_known_yes b c hc s jv bv dv _ h hj).mono ?_
        rintro e w1 ⟨rfl, hU1⟩
        simp only [POp.cells]
        rw [htk]
        have hC1 : CB w1 b s jv bv dv := h.upd hU1 (fun f => f)
        have hC2 := hC1.alloc (.cells #[.int .i64 (opOf c).byte, .int .i64 (opOf c).addr, .bool (opOf c).mode, .int .i64 (opOf c).dummy, .int .i64 (opOf c).data, .bool (opOf c).inn] 52)
        have hlt := hC1.lt
        have f20 := hC1.frozen 20
        have f21 := hC1.frozen 21
        have f22 := hC1.frozen 22
        have f23 := hC1.frozen 23
        have f24 := hC1.frozen 24
        have f25 := hC1.frozen 25
        have c20 := hC1.cell 20
        have c21 := hC1.cell 21
        have c22 := hC1.cell 22
        have c23 := hC1.cell 23
        have c24 := hC1.cell 24
        have c25 := hC1.cell 25
        simp only [St.list, List.getElem?_cons_succ, List.getElem?_cons_zero] at c20 c21 c22 c23 c24 c25
        go_wp2_with fail
        refine (cmd_enter b { s with op := opOf c } jv bv dv _ _ _ ?_).mono ?_
        exact (cb_op hC1 (opOf c)).alloc _
        rintro e w3 ⟨rfl, hB3, hU3⟩
        go_wp2
        go_end0
        exact ⟨rfl, HF.out ▸ hB3, (((upd_op ((Upd.refl (fun k => k = b) w).trans hU1 (fun _ _ f => f.elim)) rfl (opOf c)).alloc _).trans hU3 (fun _ _ k => k))⟩
      · have HF := Lib.hid (hfin3 htk had)
        clear hfin1 hfin2 hfin3 hof3
        have H1 := Lib.hid hof1
        have H2 := Lib.hid hof2
        clear hof1 hof2
        go_enter Tryz.func93, Tryz.ntmps93
        go_wp2_with fail
        refine (chip_known_yes b c hc s jv bv dv _ h hj).mono ?_
        rintro e w1 ⟨rfl, hU1⟩
        simp only [POp.cells]
        rw [htk]
        have hC1 : CB w1 b s jv bv dv := h.upd hU1 (fun f => f)
        have hC2 := hC1.alloc (.cells #[.int .i64 (opOf c).byte, .int .i64 (opOf c).addr, .bool (opOf c).mode, .int .i64 (opOf c).dummy, .int .i64 (opOf c).data, .bool (opOf c).inn] 52)
        have hlt := hC1.lt
        have f20 := hC1.frozen 20
        have f21 := hC1.frozen 21
        have f22 := hC1.frozen 22
        have f23 := hC1.frozen 23
        have f24 := hC1.frozen 24
        have f25 := hC1.frozen 25
        have c20 := hC1.cell 20
        have c21 := hC1.cell 21
        have c22 := hC1.cell 22
        have c23 := hC1.cell 23
        have c24 := hC1.cell 24
        have c25 := hC1.cell 25
        simp only [St.list, List.getElem?_cons_succ, List.getElem?_cons_zero] at c20 c21 c22 c23 c24 c25
        go_wp2_with fail
        refine (cmd_behind b { s with op := opOf c } jv bv dv _ ?_ H1.out H2.out).mono ?_
        exact (cb_op hC1 (opOf c)).alloc _
        rintro e w3 ⟨rfl, hB3, hU3⟩
        go_wp2
        go_end0
        exact ⟨rfl, HF.out ▸ hB3, (((upd_op ((Upd.refl (fun k => k = b) w).trans hU1 (fun _ _ f => f.elim)) rfl (opOf c)).alloc _).trans hU3 (fun _ _ k => k))⟩
  · have hc' : opIs c = false := by simpa using hc
    have hop : opOf c = op0 := by
      have h2 := hc'
      simp only [opIs, decide_eq_false_iff_not, not_or] at h2
      simp [opOf, h2]
    have hfin : s.begins c = { s with op := op0 }.enter 1 0 := by simp [St.begins, St.known, hc', hop]
    have HF := Lib.hid hfin
    clear hfin hc hop
    go_enter Tryz.func93, Tryz.ntmps93
    go_wp2_with fail
    refine (chip_known_no b c hc' s jv bv dv _ h hj).mono ?_
    rintro e w1 ⟨rfl, hU1⟩
    simp only [POp.cells, op0]
    have hC1 : CB w1 b s jv bv dv := h.upd hU1 (fun f => f)
    have hC2 := hC1.alloc (.cells #[.int .i64 0, .int .i64 0, .bool false, .int .i64 0, .int .i64 0, .bool false] 52)
    have hlt := hC1.lt
    have f20 := hC1.frozen 20
    have f21 := hC1.frozen 21
    have f22 := hC1.frozen 22
    have f23 := hC1.frozen 23
    have f24 := hC1.frozen 24
    have f25 := hC1.frozen 25
    have c20 := hC1.cell 20
    have c21 := hC1.cell 21
    have c22 := hC1.cell 22
    have c23 := hC1.cell 23
    have c24 := hC1.cell 24
    have c25 := hC1.cell 25
    simp only [St.list, List.getElem?_cons_succ, List.getElem?_cons_zero] at c20 c21 c22 c23 c24 c25
    go_wp2_with fail
    refine (cmd_enter b { s with op := op0 } jv bv dv _ _ _ ?_).mono ?_
    exact (cb_op hC1 op0).alloc _
    rintro e w3 ⟨rfl, hB3, hU3⟩
    go_wp2
    go_end0
    exact ⟨rfl, HF.out ▸ hB3, (((upd_op ((Upd.refl (fun k => k = b) w).trans hU1 (fun _ _ f => f.elim)) rfl op0).alloc _).trans hU3 (fun _ _ k => k))⟩
end Go.Proofs.YteombggfmeilaaaGreat
namespace Go.Proofs.YteombggfmeilaaaGreat
open Go.RowKit
def jobCells (j : Job) : List Value := [.int .i64 j.sector, .int .i64 j.page, .string j.data, .int .i64 j.left, .bool j.susp]
theorem job_cells (g : Nat) (j : Job) (a mask : ByteArray) (w : World) (hB : Blk w g (jobCells j) 152) (hj1 : j.Form) (ha : a.size = 4096) (hs : mask.size ≤ 9223372036854775807) :
    Calls Tryz.prog 106 #[.pointer (some ⟨g, 0, none⟩), .string a, .string mask] w fun e w' =>
      e = .returned (.string (j.cells a mask)) ∧ Upd none' w w' := by
  have c0 := hB.cell 0
  have c1 := hB.cell 1
  have c2 := hB.cell 2
  simp only [jobCells, List.getElem?_cons_succ, List.getElem?_cons_zero] at c0 c1 c2
  rcases hj1 with ⟨h1, h2, h3, h4⟩ | ⟨h1, h2⟩
  · obtain ⟨pg, hpg⟩ := Int.eq_ofNat_of_zero_le h2
    have hfin : j.cells a mask = progCut a pg j.data mask := by rw [Job.cells, if_pos h1, hpg]; rfl
    have HF := Lib.hid hfin
    rw [h1] at c0
    rw [hpg] at c1
    have HP := Lib.hid hpg
    have H4 := Lib.hid h4
    have h5 : pg + 32 ≤ 4096 := by omega
    clear hfin h1 hpg h4 h2 h3
    go_enter Tryz.func106, Tryz.ntmps106
    go_wp2_with fail
    go_region_with (go_at_call 164; refine (cell_program a pg j.data mask _ ha (by rw [H4.out]; exact h5) hs).mono ?_; rintro e w' ⟨rfl, hU1⟩)
    all_goals go_wp2
    all_goals go_ret
    all_goals exact ⟨by rw [HF.out]; rfl, ((Upd.refl none' w).drew).trans hU1 (fun _ _ f => f)⟩
  · obtain ⟨se, hse⟩ := Int.eq_ofNat_of_zero_le h1
    have hfin : j.cells a mask = eraseCut a se mask := by rw [Job.cells, if_neg (by omega), hse]; rfl
    have HF := Lib.hid hfin
    rw [hse] at c0
    have HS := Lib.hid hse
    have h5 : se < 8 := by omega
    have hne : ((se : Int) == -1) = false := by rw [beq_eq_false_iff_ne]; omega
    clear hfin h1 h2 hse
    go_enter Tryz.func106, Tryz.ntmps106
    go_wp2_with (go_at_call 165; refine (cell_erase a se mask _ ha h5 hs).mono ?_; rintro e w' ⟨rfl, hU1⟩)
    go_ret
    exact ⟨by rw [HF.out]; rfl, hU1⟩
theorem all255_le : (⟨#[255]⟩ : ByteArray).size ≤ 9223372036854775807 := by decide
theorem turned_size (a : ByteArray) (lo n : Nat) (turn : Nat → UInt8 → UInt8) : (turned a lo n turn).size = a.size := by
  unfold turned
  show Array.size _ = Array.size _
  simp
theorem Job.cells_size (j : Job) (a mask : ByteArray) : (j.cells a mask).size = a.size := by
  unfold Job.cells progCut eraseCut
  split <;> exact turned_size _ _ _ _
set_option maxHeartbeats 1000000 in
theorem chip_pass (b : Nat) (s : St) (jv bv dv : Value) (w : World) (h : CB w b s jv bv dv) (hj : JobV w jv s.job) (hok : ∀ j, s.job = some j → j.Ok) (ha : s.a.size = 4096) (hjb : jv ≠ .pointer (some ⟨b, 0, none⟩)) :
    Calls Tryz.prog 97 #[.pointer (some ⟨b, 0, none⟩)] w fun e w' =>
      e = .returned (.tuple #[]) ∧ ∃ jv', CB w' b s.pass jv' bv dv ∧ JobV w' jv' s.pass.job ∧ (jv' = jv ∨ jv' = .pointer none) ∧ Upd (fun k => k = b ∨ jv = .pointer (some ⟨k, 0, none⟩)) w w' := by
  have c0 := h.cell 0
  have c16 := h.cell 16
  have c18 := h.cell 18
  have f0 := h.frozen 0
  have f16 := h.frozen 16
  have f18 := h.frozen 18
  simp only [St.list, List.getElem?_cons_succ, List.getElem?_cons_zero] at c0 c16 c18
  have hw := chip_works b s jv bv dv w h hj
  by_cases hwk : s.works = true
  · cases hs : s.job with
    | none => simp [St.works, hs] at hwk
    | some j =>
      rw [hs] at hj
      obtain ⟨g, rfl, hB⟩ := hj
      have hsu : j.susp = false := by simpa [St.works, hs] using hwk
      have hjok := hok j hs
      obtain ⟨hj1, hj2, hj3⟩ := hjok
      have hgb : g ≠ b := fun e => hjb (by rw [e])
      have d3 := hB.cell 3
      have e3 := hB.frozen 3
      simp only [List.getElem?_cons_succ, List.getElem?_cons_zero] at d3
      rw [hwk] at hw
      by_cases hl : j.left - 1 ≤ 0
      · have hfin : s.pass = { s with a := j.cells s.a all255, job := none, en := false } := by simp [St.pass, hs, hsu, hl]
        have HF := Lib.hid hfin
        have HW := Lib.hid hw
        have hB1 : Blk (w.setCell ⟨g, 3, none⟩ (.int .i64 (j.left - 1))) g (jobCells { j with left := j.left - 1 }) 152 := hB.set 3 (.int .i64 (j.left - 1))
        have hC1 : CB (w.setCell ⟨g, 3, none⟩ (.int .i64 (j.left - 1))) b s (.pointer (some ⟨g, 0, none⟩)) bv dv := h.set_ne 3 _ (Ne.symm hgb)
        clear hfin hw hs hsu hwk
        go_enter Tryz.func97, Tryz.ntmps97
        go_wp2_with (go_at_call 110; refine HW.out.mono ?_; rintro e w' ⟨rfl, hw'⟩; obtain rfl := hw'.symm)
        have hUb : Upd (fun k => k = b ∨ Value.pointer (some ⟨g, 0, none⟩) = Value.pointer (some ⟨k, 0, none⟩)) w (w.setCell ⟨g, 3, none⟩ (.int .i64 (j.left - 1))) := (Upd.refl _ w).setCell ⟨g, 3, none⟩ _ (fun _ => .inr rfl)
        generalize w.setCell ⟨g, 3, none⟩ (.int .i64 (j.left - 1)) = w2 at *
        have a0 := hC1.cell 0
        have a16 := hC1.cell 16
        have a18 := hC1.cell 18
        have z0 := hC1.frozen 0
        have z16 := hC1.frozen 16
        have z18 := hC1.frozen 18
        simp only [St.list, List.getElem?_cons_succ, List.getElem?_cons_zero] at a0 a16 a18
        have ha' := Lib.hid ha
        clear ha c0 c16 c18 f0 f16 f18 d3 e3
        go_region_with (go_at_call 106; go_must (refine (job_cells g { j with left := j.left - 1 } s.a ⟨#[255]⟩ _ ?_ hj1 ha'.out all255_le).mono ?_; exact hB1.drew; rintro e w3 ⟨rfl, hU3⟩; have hC3 := Blk.upd (S := none') hC1.drew hU3 (fun f => f); have b0 := hC3.cell 0; have y0 := hC3.frozen 0; have b16 := hC3.cell 16; have y16 := hC3.frozen 16; have b18 := hC3.cell 18; have y18 := hC3.frozen 18; simp only [St.list, List.getElem?_cons_succ, List.getElem?_cons_zero] at b0 b16 b18))
        all_goals go_wp2
        all_goals go_end0
        all_goals
          refine ⟨rfl, .pointer none, ?_, ?_, .inr rfl, ?_⟩
          · rw [HF.out]; exact ((hC3.set 0 (.string ((({ j with left := j.left - 1 } : Job).cells s.a ⟨#[255]⟩)))).set 18 (.pointer none)).set 16 (.bool false)
          · rw [HF.out]; exact rfl
          · exact (((hUb.drew.trans hU3 (fun _ _ f => f.elim)).setCell ⟨b, 0, none⟩ _ (fun _ => .inl rfl)).setCell ⟨b, 18, none⟩ _ (fun _ => .inl rfl)).setCell ⟨b, 16, none⟩ _ (fun _ => .inl rfl)
      · have hfin : s.pass = { s with job := some { j with left := j.left - 1 } } := by simp [St.pass, hs, hsu, hl]
        have HF := Lib.hid hfin
        have HW := Lib.hid hw
        clear hfin hw hs hsu hwk
        go_enter Tryz.func97, Tryz.ntmps97
        go_wp2_with (go_at_call 110; refine HW.out.mono ?_; rintro e w' ⟨rfl, hw'⟩; obtain rfl := hw'.symm)
        go_end0
        refine ⟨rfl, .pointer (some ⟨g, 0, none⟩), ?_, ?_, .inl rfl, ?_⟩
        · rw [HF.out]; exact h.set_ne 3 _ (Ne.symm hgb)
        · rw [HF.out]; exact ⟨g, rfl, hB.set 3 (.int .i64 (j.left - 1))⟩
        · exact (Upd.refl _ w).setCell ⟨g, 3, none⟩ _ (fun _ => .inr rfl)
  · have hwk' : s.works = false := by simpa using hwk
    have hfin : s.pass = s := by
      cases hs : s.job with
      | none => simp [St.pass, hs]
      | some j =>
        have hsu : j.susp = true := by simpa [St.works, hs] using hwk'
        simp [St.pass, hs, hsu]
    rw [hwk'] at hw
    have HF := Lib.hid hfin
    have HW := Lib.hid hw
    clear hfin hw hwk hwk' c0 c16 c18 f0 f16 f18
    go_enter Tryz.func97, Tryz.ntmps97
    go_wp2_with (go_at_call 110; refine HW.out.mono ?_; rintro e w' ⟨rfl, hw'⟩; obtain rfl := hw'.symm)
    refine bodyPost_ret (results_none rfl _ _ _) rfl ?_
    rw [HF.out]
    exact ⟨rfl, jv, h, hj, .inl rfl, Upd.refl _ _⟩
end Go.Proofs.YteombggfmeilaaaGreat
namespace Go.Proofs.YteombggfmeilaaaGreat
open Go.RowKit
set_option maxHeartbeats 1000000 in
theorem chip_status (b : Nat) (s : St) (jv bv dv : Value) (w : World) (h : CB w b s jv bv dv) (hj : JobV w jv s.job) :
    Calls Tryz.prog 30 #[.pointer (some ⟨b, 0, none⟩)] w fun e w' => e = .returned (.tuple #[.int .i64 s.first, .int .i64 s.second]) ∧ Upd none' w w' := by
  have l1 : ∀ u : UW w, u.val.cell? ⟨b, 1, none⟩ = some (.bool s.prot) := fun u => (h.upd u.upd (fun f => f)).cell 1
  have l2 : ∀ u : UW w, u.val.cell? ⟨b, 2, none⟩ = some (.bool s.quad) := fun u => (h.upd u.upd (fun f => f)).cell 2
  have l16 : ∀ u : UW w, u.val.cell? ⟨b, 16, none⟩ = some (.bool s.en) := fun u => (h.upd u.upd (fun f => f)).cell 16
  have l18 : ∀ u : UW w, u.val.cell? ⟨b, 18, none⟩ = some jv := fun u => (h.upd u.upd (fun f => f)).cell 18
  have hwk : ∀ u : UW w, Calls Tryz.prog 110 #[.pointer (some ⟨b, 0, none⟩)] u.val fun e w' => e = .returned (.bool s.works) ∧ w' = u.val :=
    fun u => chip_works b s jv bv dv u.val (h.upd u.upd (fun f => f)) (hj.upd u.upd (fun _ _ f => f))
  have HW := Lib.hid hwk
  clear hwk
  cases hs : s.job with
  | none =>
    rw [hs] at hj
    simp only [JobV] at hj
    subst hj
    have hsec : s.second = second s.quad false := by simp [St.second, St.susp, hs]
    have HS := Lib.hid hsec
    clear hsec hs
    go_enter Tryz.func30, Tryz.ntmps30
    go_wp2_with fail
    refine wp_region_upd_lit w (Upd.refl none' w) (by kernel_rfl) (by kernel_rfl) ?_
    repeat (go_big_quiet_step ((first | (go_at_call 110; exact quiet_same (HW.out _)) | (go_at_call 109; exact quiet_upd (stat_first _ _ _ _)) | (go_at_call 111; exact quiet_upd (stat_second _ _ _)))))
    refine wpQuiet_nil ?_
    rintro _ ⟨⟨w1, hU1⟩, rfl⟩
    go_wp2
    go_ret2
    exact ⟨by rw [HS.out]; rfl, hU1⟩
  | some j =>
    have hj0 := hj
    rw [hs] at hj
    obtain ⟨g, rfl, hB⟩ := hj
    have l4 : ∀ u : UW w, u.val.cell? ⟨g, 4, none⟩ = some (.bool j.susp) := fun u => (hB.upd u.upd (fun f => f)).cell 4
    have hsec : s.second = second s.quad j.susp := by simp [St.second, St.susp, hs]
    have HS := Lib.hid hsec
    clear hsec hs
    go_enter Tryz.func30, Tryz.ntmps30
    go_wp2_with fail
    refine wp_region_upd_lit w (Upd.refl none' w) (by kernel_rfl) (by kernel_rfl) ?_
    repeat (go_big_quiet_step ((first | (go_at_call 110; exact quiet_same (HW.out _)) | (go_at_call 109; exact quiet_upd (stat_first _ _ _ _)) | (go_at_call 111; exact quiet_upd (stat_second _ _ _)))))
    refine wpQuiet_nil ?_
    rintro _ ⟨⟨w1, hU1⟩, rfl⟩
    go_wp2
    go_ret2
    exact ⟨by rw [HS.out]; rfl, hU1⟩
end Go.Proofs.YteombggfmeilaaaGreat
namespace Go.Proofs.YteombggfmeilaaaGreat
open Go.RowKit
theorem wrap_byte (c : UInt8) : IntKind.i64.wrap (c.toNat : Int) = (c.toNat : Int) := IntWalk.i64_in _ (by have := c.toNat_lt; omega)
theorem wrap64_byte' (c : UInt8) : wrap64 (c.toNat : Int) = (c.toNat : Int) := IntWalk.wrap64_in _ (by have := c.toNat_lt; omega)
theorem ret_int {a b : Int} (h : a = b) : Ending.returned (.int .i64 a) = .returned (.int .i64 b) := by rw [h]
/-- The contract of 'table' that byteAt leans on. -/
def TableSaid : Prop := ∀ (b : Nat) (s : St) (jv bv dv : Value) (w : World), CB w b s jv bv dv → Calls Tryz.prog 208 #[.pointer (some ⟨b, 0, none⟩)] w fun e w' =>
  e = .returned (.string sfdpTab) ∧ CB w' b { s with tabled := true } jv bv dv ∧ Upd (fun k => k = b) w w'
set_option maxHeartbeats 1000000 in
theorem chip_byteAt (ht : TableSaid) (b : Nat) (i : Int) (s : St) (jv bv dv : Value) (w : World) (h : CB w b s jv bv dv) (hj : JobV w jv s.job) (ha : s.a.size = 4096) (hi : 0 ≤ i ∧ i ≤ 1099511627776) (had : 0 ≤ s.addr ∧ s.addr < 4096) :
    Calls Tryz.prog 191 #[.pointer (some ⟨b, 0, none⟩), .int .i64 i] w fun e w' =>
      e = .returned (.int .i64 (s.byteAt i)) ∧ CB w' b { s with tabled := s.tabled || decide (s.op.byte = 90) } jv bv dv ∧ Upd (fun k => k = b) w w' := by
  have hst := chip_status b s jv bv dv w h hj
  by_cases h159 : s.op.byte = 159
  · have htb : (s.tabled || decide (s.op.byte = 90)) = s.tabled := by simp [h159]
    have HT := Lib.hid htb
    have HST := Lib.hid hst
    have i0 : ∀ w, (Instr.index 93 (.agg #[.int .i64 239, .int .i64 64, .int .i64 12]) (.int .i64 0)).run Tryz.prog w = .ok (.int .i64 239) w := fun _ => by kernel_rfl
    have i1 : ∀ w, (Instr.index 93 (.agg #[.int .i64 239, .int .i64 64, .int .i64 12]) (.int .i64 1)).run Tryz.prog w = .ok (.int .i64 64) w := fun _ => by kernel_rfl
    have i2 : ∀ w, (Instr.index 93 (.agg #[.int .i64 239, .int .i64 64, .int .i64 12]) (.int .i64 2)).run Tryz.prog w = .ok (.int .i64 12) w := fun _ => by kernel_rfl
    clear htb hst
    rcases (show i % 3 = 0 ∨ i % 3 = 1 ∨ i % 3 = 2 by omega) with h3 | h3 | h3
    all_goals
      have hfin : s.byteAt i = ([239, 64, 12] : List Int).getD (i % 3).toNat 0 := by simp [St.byteAt, h159]
      rw [h3] at hfin
      have HF := Lib.hid hfin
      have c20' := h.cell 20
      simp only [St.list, List.getElem?_cons_succ, List.getElem?_cons_zero] at c20'
      rw [h159] at c20'
      have H159 := Lib.hid h159
      clear hfin
      clear h159
      go_enter Tryz.func191, Tryz.ntmps191
      go_wp2_with fail
      refine HST.out.mono ?_
      rintro e w1 ⟨rfl, hU1⟩
      have h1 := h.upd hU1 (fun f => f)
      have c20 := (hU1.cell (p := ⟨b, 20, none⟩) h.lt (fun f => f)).trans c20'
      go_wp2
      go_ret
      refine ⟨by rw [HF.out]; rfl, by rw [HT.out]; exact h1, hU1.mono (fun _ _ f => f.elim)⟩
  · have hst' := Lib.hid hst
    clear hst
    have n159 : (s.op.byte == 159) = false := by simpa using h159
    by_cases h5 : s.op.byte = 5
    · have htb : (s.tabled || decide (s.op.byte = 90)) = s.tabled := by simp [h5]
      have hfin : s.byteAt i = s.first := by simp [St.byteAt, h5]
      have HT := Lib.hid htb
      have HF := Lib.hid hfin
      have c20' := h.cell 20
      simp only [St.list, List.getElem?_cons_succ, List.getElem?_cons_zero] at c20'
      rw [h5] at c20'
      clear htb hfin h5 n159 h159
      go_enter Tryz.func191, Tryz.ntmps191
      go_wp2_with fail
      refine hst'.out.mono ?_
      rintro e w1 ⟨rfl, hU1⟩
      have h1 := h.upd hU1 (fun f => f)
      have c20 := (hU1.cell (p := ⟨b, 20, none⟩) h.lt (fun f => f)).trans c20'
      go_wp2
      go_ret
      refine ⟨by rw [HF.out]; rfl, by rw [HT.out]; exact h1, hU1.mono (fun _ _ f => f.elim)⟩
    · have n5 : (s.op.byte == 5) = false := by simpa using h5
      by_cases h53 : s.op.byte = 53
      · have htb : (s.tabled || decide (s.op.byte = 90)) = s.tabled := by simp [h53]
        have hfin : s.byteAt i = s.second := by simp [St.byteAt, h53]
        have HT := Lib.hid htb
        have HF := Lib.hid hfin
        have c20' := h.cell 20
        simp only [St.list, List.getElem?_cons_succ, List.getElem?_cons_zero] at c20'
        rw [h53] at c20'
        clear htb hfin h5 n159 h159 n5 h53
        go_enter Tryz.func191, Tryz.ntmps191
        go_wp2_with fail
        refine hst'.out.mono ?_
        rintro e w1 ⟨rfl, hU1⟩
        have h1 := h.upd hU1 (fun f => f)
        have c20 := (hU1.cell (p := ⟨b, 20, none⟩) h.lt (fun f => f)).trans c20'
        go_wp2
        go_ret
        refine ⟨by rw [HF.out]; rfl, by rw [HT.out]; exact h1, hU1.mono (fun _ _ f => f.elim)⟩
      · have n53 : (s.op.byte == 53) = false := by simpa using h53
        by_cases h90 : s.op.byte = 90
        · have htb : (s.tabled || decide (s.op.byte = 90)) = true := by simp [h90]
          have hfin : s.byteAt i = byteOf sfdpTab ((s.addr + i) % 32).toNat := by simp [St.byteAt, h90]
          have HT := Lib.hid htb
          have HF := Lib.hid hfin
          have c20' := h.cell 20
          have c29' := h.cell 29
          simp only [St.list, List.getElem?_cons_succ, List.getElem?_cons_zero] at c20' c29'
          rw [h90] at c20'
          obtain ⟨k, hk⟩ : ∃ k : Nat, (k : Int) = (s.addr + i) % 32 := ⟨((s.addr + i) % 32).toNat, by omega⟩
          have hsum : IntKind.i64.wrap (s.addr + i) = s.addr + i := IntWalk.i64_in _ (by omega)
          have htm : (s.addr + i).tmod 32 = (k : Int) := by rw [Int.tmod_eq_emod_of_nonneg (by omega)]; exact hk.symm
          have hmd : (s.addr + i) % 32 = (k : Int) := hk.symm
          have hk32 : k < 32 := by omega
          have hsz : sfdpTab.size = 32 := rfl
          have hk33 : (k : Int) < 32 := by omega
          have hk34 : k < sfdpTab.size := by omega
          have hx : (sfdpTab.data.toList.getD k 0) = sfdpTab[k]'(by exact hk32) := str_at sfdpTab k (by exact hk32)
          have hv : s.byteAt i = ((sfdpTab[k]'hk34).toNat : Int) := by rw [hfin, byteOf, ← hk, Int.toNat_natCast]; exact congrArg (fun c : UInt8 => ((c.toNat : Nat) : Int)) hx
          have HV := Lib.hid hv
          clear htb hfin h5 n159 h159 n5 h53 n53 h90 hk hx hv HF
          go_enter Tryz.func191, Tryz.ntmps191
          go_wp2_with fail
          refine hst'.out.mono ?_
          rintro e w1 ⟨rfl, hU1⟩
          have h1 := h.upd hU1 (fun f => f)
          have c20 := (hU1.cell (p := ⟨b, 20, none⟩) h.lt (fun f => f)).trans c20'
          have c29 := (hU1.cell (p := ⟨b, 29, none⟩) h.lt (fun f => f)).trans c29'
          go_wp2_with fail
          go_region_with (go_at_call 208; go_must (refine (ht b s jv bv dv _ ?_).mono ?_; exact h1.drew; rintro e w2 ⟨rfl, hB2, hU2⟩; have d29 := hB2.cell 29; simp only [St.list, List.getElem?_cons_succ, List.getElem?_cons_zero] at d29))
          all_goals go_wp2
          all_goals go_ret
          all_goals
            refine ⟨ret_int ?_, by rw [HT.out]; exact hB2, (hU1.drew.mono (fun _ _ f => f.elim)).trans hU2 (fun _ _ k => k)⟩
            rw [HV.out]; exact wrap_byte _
        · have htb : (s.tabled || decide (s.op.byte = 90)) = s.tabled := by simp [h90]
          have n90 : (s.op.byte == 90) = false := by simpa using h90
          have hfin : s.byteAt i = byteOf s.a ((s.addr + i) % 4096).toNat := by simp [St.byteAt, h159, h5, h53, h90]
          have HT := Lib.hid htb
          have HF := Lib.hid hfin
          have c0' := h.cell 0
          have c20' := h.cell 20
          have c29' := h.cell 29
          simp only [St.list, List.getElem?_cons_succ, List.getElem?_cons_zero] at c0' c20' c29'
          obtain ⟨k, hk⟩ : ∃ k : Nat, (k : Int) = (s.addr + i) % 4096 := ⟨((s.addr + i) % 4096).toNat, by omega⟩
          have hsum : IntKind.i64.wrap (s.addr + i) = s.addr + i := IntWalk.i64_in _ (by omega)
          have htm : (s.addr + i).tmod 4096 = (k : Int) := by rw [Int.tmod_eq_emod_of_nonneg (by omega)]; exact hk.symm
          have hmd : (s.addr + i) % 4096 = (k : Int) := hk.symm
          have hk32 : k < s.a.size := by omega
          have hk33 : (k : Int) < 4096 := by omega
          have hx : (s.a.data.toList.getD k 0) = s.a[k] := str_at s.a k hk32
          have hv : s.byteAt i = ((s.a[k]).toNat : Int) := by rw [hfin, byteOf, ← hk, Int.toNat_natCast]; exact congrArg (fun c : UInt8 => ((c.toNat : Nat) : Int)) hx
          have HV := Lib.hid hv
          clear htb hfin h5 h159 h53 h90 hk hx hv HF
          go_enter Tryz.func191, Tryz.ntmps191
          go_wp2_with fail
          refine hst'.out.mono ?_
          rintro e w1 ⟨rfl, hU1⟩
          have h1 := h.upd hU1 (fun f => f)
          have c0 := (hU1.cell (p := ⟨b, 0, none⟩) h.lt (fun f => f)).trans c0'
          have c20 := (hU1.cell (p := ⟨b, 20, none⟩) h.lt (fun f => f)).trans c20'
          have c29 := (hU1.cell (p := ⟨b, 29, none⟩) h.lt (fun f => f)).trans c29'
          go_wp2_with fail
          go_region
          all_goals go_wp2
          all_goals go_ret
          all_goals refine ⟨ret_int ?_, by rw [HT.out]; exact h1.drew, hU1.drew.mono (fun _ _ f => f.elim)⟩
          all_goals rw [HV.out]
          all_goals exact wrap64_byte' _
end Go.Proofs.YteombggfmeilaaaGreat
namespace Go.Proofs.YteombggfmeilaaaGreat
open Go.RowKit
theorem or13 (q : Int) : bits BinOp.or IntKind.i64 13 (wrap64 (q % 2 * 2)) = 13 + 2 * (q % 2) := by
  rcases (show q % 2 = 0 ∨ q % 2 = 1 by omega) with h | h <;> rw [h] <;> decide +kernel
set_option maxHeartbeats 2000000 in
theorem chip_says (ht : TableSaid) (b : Nat) (s : St) (jv bv dv : Value) (w : World) (h : CB w b s jv bv dv) (hj : JobV w jv s.job) (ha : s.a.size = 4096) (hi : 0 ≤ s.told ∧ s.told ≤ 1099511627776) (had : 0 ≤ s.addr ∧ s.addr < 4096)
    (hd : s.op.data = 1 ∧ 0 ≤ s.left ∧ s.left ≤ 7 ∨ s.op.data = 4 ∧ 0 ≤ s.left ∧ s.left ≤ 1) (hn : 0 ≤ s.now ∧ s.now ≤ 255) (hby : 0 ≤ s.byteAt s.told ∧ s.byteAt s.told ≤ 255) :
    Calls Tryz.prog 159 #[.pointer (some ⟨b, 0, none⟩)] w fun e w' =>
      e = .returned (.int .i64 s.says.2) ∧ CB w' b s.says.1 jv bv dv ∧ Upd (fun k => k = b) w w' := by
  have hdd : s.op.data = 1 ∨ s.op.data = 4 := by omega
  have hb1 : 0 ≤ s.says1.now ∧ s.says1.now ≤ 255 ∧ (s.op.data = 1 ∧ 1 ≤ s.says1.left ∧ s.says1.left ≤ 8 ∨ s.op.data = 4 ∧ 1 ≤ s.says1.left ∧ s.says1.left ≤ 2) := by
    unfold St.says1
    split
    · refine ⟨hby.1, hby.2, ?_⟩
      rcases hd with ⟨h1, _⟩ | ⟨h1, _⟩
      · left; rw [h1]; exact ⟨rfl, by dsimp only; decide, by dsimp only; decide⟩
      · right; rw [h1]; exact ⟨rfl, by dsimp only; decide, by dsimp only; decide⟩
    · exact ⟨hn.1, hn.2, by omega⟩
  go_enter Tryz.func159, Tryz.ntmps159
  have c27 := h.cell 27
  simp only [St.list, List.getElem?_cons_succ, List.getElem?_cons_zero] at c27
  go_upto_if 13 with (fail)
  go_cut [] (fun wx => CB wx b s.says1 jv bv dv ∧ Upd (fun k => k = b) w wx)
  case first =>
    clear hd hb1
    by_cases hl : s.left = 0
    · have hby' := chip_byteAt ht b s.told s jv bv dv
      have hs1 : s.says1 = { s with now := s.byteAt s.told, left := 8 / s.op.data, told := s.told + 1, tabled := s.tabled || decide (s.op.byte = 90) } := by unfold St.says1; rw [if_pos hl]
      have c24 := h.cell 24
      have c33 := h.cell 33
      simp only [St.list, List.getElem?_cons_succ, List.getElem?_cons_zero] at c24 c33
      rw [hl] at c27
      have HL := Lib.hid hl
      have HB := Lib.hid hby'
      have HS := Lib.hid hs1
      have hl0 : (s.left == 0) = true := by simpa using hl
      clear hl hby' hs1
      go_upto_region 3 with (fail)
      go_region_held3 (fun w' => w'.cell? ⟨b, 24, none⟩ = some (.int .i64 s.op.data) ∧ w'.cell? ⟨b, 33, none⟩ = some (.int .i64 s.told)) (first | exact ⟨c24, c33⟩ | exact ⟨d24, d33⟩ | exact ⟨by go_simp, by go_simp⟩)
        (first
        | (go_at_call 191; refine (HB.out _ (Blk.drew h) hj ha hi had).mono ?_; rintro e w2 ⟨rfl, hB2, hU2⟩; have d24 := hB2.cell 24; have d33 := hB2.cell 33; have d27 := hB2.cell 27; have d34 := hB2.cell 34; have y27 := hB2.frozen 27; have y34 := hB2.frozen 34; have y33 := hB2.frozen 33; simp only [St.list, List.getElem?_cons_succ, List.getElem?_cons_zero] at d24 d33 d27 d34)
        | (go_at_call 92; refine (lane_many _ hdd _).mono ?_; rintro e w3 ⟨rfl, rfl⟩))
      go_wp2_with fail
      go_meet
      refine ⟨?_, ?_⟩
      · rw [HS.out]; exact ((hB2.set 34 (.int .i64 (s.byteAt s.told))).set 27 (.int .i64 (8 / s.op.data))).set 33 (.int .i64 (s.told + 1))
      · exact ((((Upd.refl (fun k => k = b) w).drew.trans hU2 (fun _ _ k => k)).setCell ⟨b, 34, none⟩ _ (fun _ => rfl)).setCell ⟨b, 27, none⟩ _ (fun _ => rfl)).setCell ⟨b, 33, none⟩ _ (fun _ => rfl)
    · have hs1 : s.says1 = s := by unfold St.says1; rw [if_neg hl]
      have hl0 : (s.left == 0) = false := by simpa using hl
      have HS := Lib.hid hs1
      clear hl hs1
      go_wp2_with fail
      go_meet
      exact ⟨by rw [HS.out]; exact h, Upd.refl _ _⟩
  case rest =>
    obtain ⟨hB, hU⟩ := hcut
    have hop : s.says1.op = s.op := by unfold St.says1; split <;> rfl
    have hsay : s.says = (let s1 := s.says1; let s2 := { s1 with left := s1.left - 1 }; if s.op.data = 1 then (s2, 13 + 2 * (s1.now / 2 ^ (s1.left - 1).toNat % 2)) else (s2, s1.now / 16 ^ (s1.left - 1).toNat % 16)) := rfl
    have HY := Lib.hid hsay
    generalize s.says1 = s1 at *
    have e27 := hB.cell 27
    have e34 := hB.cell 34
    have e24 := hB.cell 24
    have y27 := hB.frozen 27
    simp only [St.list, List.getElem?_cons_succ, List.getElem?_cons_zero] at e27 e34 e24
    rw [hop] at e24
    obtain ⟨hn0, hn1, hdl⟩ := hb1
    clear hop hsay
    rcases hdl with ⟨h1, hl1, hl2⟩ | ⟨h1, hl1, hl2⟩
    · rw [h1] at e24
      have H1 := Lib.hid h1
      clear h1 hd hdd c27
      go_wp2_with fail
      go_region
      all_goals go_wp2
      all_goals go_ret
      all_goals
        refine ⟨ret_int ?_, ?_, ?_⟩
        · rw [HY.out]
          simp only [if_pos H1.out]
          rw [i64_and1, show (s1.left - 1).toNat = s1.left.toNat - 1 by omega]
          exact or13 _
        · rw [HY.out]
          simp only [if_pos H1.out]
          exact hB.set 27 (.int .i64 (s1.left - 1))
        · exact (hU.setCell ⟨b, 27, none⟩ _ (fun _ => rfl)).drew
    · rw [h1] at e24
      have H1 := Lib.hid h1
      clear h1 hd hdd c27
      go_wp2_with fail
      go_region
      all_goals go_wp2
      all_goals go_ret
      all_goals
        refine ⟨ret_int ?_, ?_, ?_⟩
        · rw [HY.out]
          simp only [if_neg (show ¬ s.op.data = 1 by rw [H1.out]; decide)]
          rw [i64_and15]
          rcases (show s1.left = 1 ∨ s1.left = 2 by omega) with h2 | h2 <;> rw [h2] <;> rfl
        · rw [HY.out]
          simp only [if_neg (show ¬ s.op.data = 1 by rw [H1.out]; decide)]
          exact hB.set 27 (.int .i64 (s1.left - 1))
        · exact (hU.setCell ⟨b, 27, none⟩ _ (fun _ => rfl)).drew
end Go.Proofs.YteombggfmeilaaaGreat
