/- The walk over begins. -/
import Derived.Test.YtjdjdfllggpckaaGreatChipW4
namespace Go.Proofs.YtjdjdfllggpckaaGreat
open Go.RowKit
theorem opOf_form (c : Int) : ((opOf c).mode = true → (opOf c).addr = 1 ∨ (opOf c).addr = 4) ∧ ((opOf c).inn = true → (opOf c).data ≠ 0 → (opOf c).data = 1 ∨ (opOf c).data = 4) ∧ (0 < (opOf c).addr → (opOf c).addr = 1 ∨ (opOf c).addr = 4) ∧ 0 ≤ (opOf c).addr := by
  unfold opOf
  repeat' split
  all_goals simp [op0]
theorem cb_op {w : World} {b : Nat} {s : St} {jv bv dv : Value} (h : CB w b s jv bv dv) (o : POp) :
    CB ((((((w.setCell ⟨b, 20, none⟩ (.int .i64 o.byte)).setCell ⟨b, 21, none⟩ (.int .i64 o.addr)).setCell ⟨b, 22, none⟩ (.bool o.mode)).setCell ⟨b, 23, none⟩ (.int .i64 o.dummy)).setCell ⟨b, 24, none⟩ (.int .i64 o.data)).setCell ⟨b, 25, none⟩ (.bool o.inn)) b { s with op := o } jv bv dv :=
  (((((h.set 20 (.int .i64 o.byte)).set 21 (.int .i64 o.addr)).set 22 (.bool o.mode)).set 23 (.int .i64 o.dummy)).set 24 (.int .i64 o.data)).set 25 (.bool o.inn)
theorem upd_op {S : Nat → Prop} {a w : World} {b : Nat} (h : Upd S a w) (hb : S b) (o : POp) :
    Upd S a ((((((w.setCell ⟨b, 20, none⟩ (.int .i64 o.byte)).setCell ⟨b, 21, none⟩ (.int .i64 o.addr)).setCell ⟨b, 22, none⟩ (.bool o.mode)).setCell ⟨b, 23, none⟩ (.int .i64 o.dummy)).setCell ⟨b, 24, none⟩ (.int .i64 o.data)).setCell ⟨b, 25, none⟩ (.bool o.inn)) :=
  (((((h.setCell ⟨b, 20, none⟩ _ (fun _ => hb)).setCell ⟨b, 21, none⟩ _ (fun _ => hb)).setCell ⟨b, 22, none⟩ _ (fun _ => hb)).setCell ⟨b, 23, none⟩ _ (fun _ => hb)).setCell ⟨b, 24, none⟩ _ (fun _ => hb)).setCell ⟨b, 25, none⟩ _ (fun _ => hb)
set_option maxHeartbeats 1000000 in
theorem chip_begins (b : Nat) (c : Int) (s : St) (jv bv dv : Value) (w : World) (h : CB w b s jv bv dv) (hj : JobV w jv s.job) :
    Calls Tryz.prog 54 #[.pointer (some ⟨b, 0, none⟩), .int .i64 c] w fun e w' =>
      e = .returned (.tuple #[]) ∧ CB w' b (s.begins c) jv bv dv ∧ Upd (fun k => k = b) w w' := by
  by_cases hc : opIs c = true
  · obtain ⟨hof1, hof2, hof3, hof4⟩ := opOf_form c
    have hfin : (s.takes (opOf c).byte = false → s.begins c = { s with op := opOf c }.enter 1 0) ∧ (s.takes (opOf c).byte = true → 0 < (opOf c).addr → s.begins c = { s with op := opOf c }.enter 2 (24 / (opOf c).addr)) ∧ (s.takes (opOf c).byte = true → ¬ 0 < (opOf c).addr → s.begins c = { s with op := opOf c }.behind) := by
      refine ⟨fun h1 => ?_, fun h1 h2 => ?_, fun h1 h2 => ?_⟩
      · simp [St.begins, St.known, hc, h1]
      · simp [St.begins, St.known, hc, h1, h2]
      · simp only [St.begins, St.known, hc, h1, if_neg h2]; simp
    obtain ⟨hfin1, hfin2, hfin3⟩ := hfin
    cases htk : s.takes (opOf c).byte with
    | false =>
      have HF := Lib.hid (hfin1 htk)
      clear hfin1 hfin2 hfin3 hof1 hof2 hof3
      go_enter Tryz.func54, Tryz.ntmps54
      go_wp2_with fail
      refine (chip_known_yes b c hc s jv bv dv _ h hj).mono ?_
      rintro e w1 ⟨rfl, hU1⟩
      simp only [POp.cells]
      rw [htk]
      have hC1 : CB w1 b s jv bv dv := h.upd hU1 (fun f => f)
      have hC2 := hC1.alloc (.cells #[.int .i64 (opOf c).byte, .int .i64 (opOf c).addr, .bool (opOf c).mode, .int .i64 (opOf c).dummy, .int .i64 (opOf c).data, .bool (opOf c).inn] 66)
      have hlt := hC1.lt
      have f20 := hC1.frozen 20
      have f21 := hC1.frozen 21
      have f22 := hC1.frozen 22
      have f23 := hC1.frozen 23
      have f24 := hC1.frozen 24
      have f25 := hC1.frozen 25
      have c20 := hC1.cell 20
      have c21 := hC1.cell 21
      have c22 := hC1.cell 22
      have c23 := hC1.cell 23
      have c24 := hC1.cell 24
      have c25 := hC1.cell 25
      simp only [St.list, List.getElem?_cons_succ, List.getElem?_cons_zero] at c20 c21 c22 c23 c24 c25
      go_wp2_with fail
      refine (cmd_enter b { s with op := (opOf c) } jv bv dv _ _ _ ?_).mono ?_
      exact (cb_op hC1 (opOf c)).alloc _
      rintro e w3 ⟨rfl, hB3, hU3⟩
      go_wp2
      go_end0
      exact ⟨rfl, HF.out ▸ hB3, (((upd_op ((Upd.refl (fun k => k = b) w).trans hU1 (fun _ _ f => f.elim)) rfl (opOf c)).alloc _).trans hU3 (fun _ _ k => k))⟩
    | true =>
      by_cases had : 0 < (opOf c).addr
      · have HF := Lib.hid (hfin2 htk had)
        have hcase := hof3 had
        clear hfin1 hfin2 hfin3 hof1 hof2 hof3
        clear hcase
        go_enter Tryz.func54, Tryz.ntmps54
        go_wp2_with fail
        refine (chip_known_yes b c hc s jv bv dv _ h hj).mono ?_
        rintro e w1 ⟨rfl, hU1⟩
        simp only [POp.cells]
        rw [htk]
        have hC1 : CB w1 b s jv bv dv := h.upd hU1 (fun f => f)
        have hC2 := hC1.alloc (.cells #[.int .i64 (opOf c).byte, .int .i64 (opOf c).addr, .bool (opOf c).mode, .int .i64 (opOf c).dummy, .int .i64 (opOf c).data, .bool (opOf c).inn] 66)
        have hlt := hC1.lt
        have f20 := hC1.frozen 20
        have f21 := hC1.frozen 21
        have f22 := hC1.frozen 22
        have f23 := hC1.frozen 23
        have f24 := hC1.frozen 24
        have f25 := hC1.frozen 25
        have c20 := hC1.cell 20
        have c21 := hC1.cell 21
        have c22 := hC1.cell 22
        have c23 := hC1.cell 23
        have c24 := hC1.cell 24
        have c25 := hC1.cell 25
        simp only [St.list, List.getElem?_cons_succ, List.getElem?_cons_zero] at c20 c21 c22 c23 c24 c25
        go_wp2_with fail
        refine (cmd_enter b { s with op := opOf c } jv bv dv _ _ _ ?_).mono ?_
        exact (cb_op hC1 (opOf c)).alloc _
        rintro e w3 ⟨rfl, hB3, hU3⟩
        go_wp2
        go_end0
        exact ⟨rfl, HF.out ▸ hB3, (((upd_op ((Upd.refl (fun k => k = b) w).trans hU1 (fun _ _ f => f.elim)) rfl (opOf c)).alloc _).trans hU3 (fun _ _ k => k))⟩
      · have HF := Lib.hid (hfin3 htk had)
        clear hfin1 hfin2 hfin3 hof3
        have H1 := Lib.hid hof1
        have H2 := Lib.hid hof2
        clear hof1 hof2
        go_enter Tryz.func54, Tryz.ntmps54
        go_wp2_with fail
        refine (chip_known_yes b c hc s jv bv dv _ h hj).mono ?_
        rintro e w1 ⟨rfl, hU1⟩
        simp only [POp.cells]
        rw [htk]
        have hC1 : CB w1 b s jv bv dv := h.upd hU1 (fun f => f)
        have hC2 := hC1.alloc (.cells #[.int .i64 (opOf c).byte, .int .i64 (opOf c).addr, .bool (opOf c).mode, .int .i64 (opOf c).dummy, .int .i64 (opOf c).data, .bool (opOf c).inn] 66)
        have hlt := hC1.lt
        have f20 := hC1.frozen 20
        have f21 := hC1.frozen 21
        have f22 := hC1.frozen 22
        have f23 := hC1.frozen 23
        have f24 := hC1.frozen 24
        have f25 := hC1.frozen 25
        have c20 := hC1.cell 20
        have c21 := hC1.cell 21
        have c22 := hC1.cell 22
        have c23 := hC1.cell 23
        have c24 := hC1.cell 24
        have c25 := hC1.cell 25
        simp only [St.list, List.getElem?_cons_succ, List.getElem?_cons_zero] at c20 c21 c22 c23 c24 c25
        go_wp2_with fail
        refine (cmd_behind b { s with op := opOf c } jv bv dv _ ?_ H1.out H2.out).mono ?_
        exact (cb_op hC1 (opOf c)).alloc _
        rintro e w3 ⟨rfl, hB3, hU3⟩
        go_wp2
        go_end0
        exact ⟨rfl, HF.out ▸ hB3, (((upd_op ((Upd.refl (fun k => k = b) w).trans hU1 (fun _ _ f => f.elim)) rfl (opOf c)).alloc _).trans hU3 (fun _ _ k => k))⟩
  · have hc' : opIs c = false := by simpa using hc
    have hop : opOf c = op0 := by
      have h2 := hc'
      simp only [opIs, decide_eq_false_iff_not, not_or] at h2
      simp [opOf, h2]
    have hfin : s.begins c = { s with op := op0 }.enter 1 0 := by simp [St.begins, St.known, hc', hop]
    have HF := Lib.hid hfin
    clear hfin hc hop
    go_enter Tryz.func54, Tryz.ntmps54
    go_wp2_with fail
    refine (chip_known_no b c hc' s jv bv dv _ h hj).mono ?_
    rintro e w1 ⟨rfl, hU1⟩
    simp only [POp.cells, op0]
    have hC1 : CB w1 b s jv bv dv := h.upd hU1 (fun f => f)
    have hC2 := hC1.alloc (.cells #[.int .i64 0, .int .i64 0, .bool false, .int .i64 0, .int .i64 0, .bool false] 66)
    have hlt := hC1.lt
    have f20 := hC1.frozen 20
    have f21 := hC1.frozen 21
    have f22 := hC1.frozen 22
    have f23 := hC1.frozen 23
    have f24 := hC1.frozen 24
    have f25 := hC1.frozen 25
    have c20 := hC1.cell 20
    have c21 := hC1.cell 21
    have c22 := hC1.cell 22
    have c23 := hC1.cell 23
    have c24 := hC1.cell 24
    have c25 := hC1.cell 25
    simp only [St.list, List.getElem?_cons_succ, List.getElem?_cons_zero] at c20 c21 c22 c23 c24 c25
    go_wp2_with fail
    refine (cmd_enter b { s with op := op0 } jv bv dv _ _ _ ?_).mono ?_
    exact (cb_op hC1 op0).alloc _
    rintro e w3 ⟨rfl, hB3, hU3⟩
    go_wp2
    go_end0
    exact ⟨rfl, HF.out ▸ hB3, (((upd_op ((Upd.refl (fun k => k = b) w).trans hU1 (fun _ _ f => f.elim)) rfl op0).alloc _).trans hU3 (fun _ _ k => k))⟩
end Go.Proofs.YtjdjdfllggpckaaGreat
