/- The walk over ends: each command but the ones that program, erase, put the status. -/
import Derived.Test.YtepnljeojlbliaaGreatChipE
namespace Go.Proofs.YtepnljeojlbliaaGreat
open Go.RowKit
set_option maxRecDepth 100000 in
set_option maxHeartbeats 2000000 in
theorem ends_on (b : Nat) (s : St) (jv bv dv : Value) (w : World) (hv : ChipV w b s jv bv dv) (hda : s.op.inn = true → s.op.data = 1) (h0 : ¬ s.stage = 0) (h1 : ¬ s.stage = 1) (hw : s.whole = true) (hb : s.op.byte = 6) :
    Calls Tryz.prog 95 #[.pointer (some ⟨b, 0, none⟩)] w fun e w' => e = .returned (.tuple #[]) ∧ ChipPost b s.ends (chipSet b jv bv dv) w w' := by
  have hR0 : ¬ (s.stage = 0 ∨ s.stage = 1 ∨ s.whole = false) := by rw [hw]; simp [h0, h1]
  have hR : s.ends = { s with en := true } := by
    unfold St.ends
    rw [if_neg hR0, if_pos hb]
  have h := hv.cb
  have c26 := h.cell 26
  have c20 := h.cell 20
  simp only [St.list, List.getElem?_cons_succ, List.getElem?_cons_zero] at c26 c20
  rw [hb] at c20
  have HV := Lib.hid hv
  have b0 : (s.stage == 0) = false := by simpa using h0
  have b1 : (s.stage == 1) = false := by simpa using h1
  have hwh := fun W (hW : Upd none' w W) => cmd_whole b s jv bv dv W (h.upd hW (fun f => f)) hda
  rw [hw] at hwh
  have HW := Lib.hid hwh
  clear hwh
  have HR := Lib.hid hR
  clear hR hR0 hw hv
  go_enter Tryz.func95, Tryz.ntmps95
  go_wp2_with fail
  refine (HW.out _ (Upd.refl _ _)).mono ?_
  rintro e w1 ⟨rfl, hU1⟩
  have hv1 := HV.out.upd0 hU1
  have HV1 := Lib.hid hv1
  have d20 := hv1.cb.cell 20
  simp only [St.list, List.getElem?_cons_succ, List.getElem?_cons_zero] at d20
  rw [hb] at d20
  have d16 := hv1.cb.cell 16
  have e16 := hv1.cb.frozen 16
  simp only [St.list, List.getElem?_cons_succ, List.getElem?_cons_zero] at d16
  have HBf := Lib.hid (hv1.cb.set 16 (.bool true))
  clear hv1 h
  go_wp2
  go_end0
  have hUs := (Upd.refl (fun k => k = b) w1).setCell ⟨b, 16, none⟩ (.bool true) (fun _ => rfl)
  refine ⟨rfl, ?_⟩
  rw [HR.out]
  obtain ⟨S', hA, hS, hU⟩ := HV1.out.cbSet (t := { s with en := true }) HBf.out hUs rfl rfl rfl
  exact ⟨S', hA, fun k hk => (hS k hk).imp_right (fun e => Nat.le_trans hU1.size e), (hU1.mono (fun _ _ f => f.elim)).trans hU (fun _ _ e => e)⟩
set_option maxRecDepth 100000 in
set_option maxHeartbeats 2000000 in
theorem ends_off (b : Nat) (s : St) (jv bv dv : Value) (w : World) (hv : ChipV w b s jv bv dv) (hda : s.op.inn = true → s.op.data = 1) (h0 : ¬ s.stage = 0) (h1 : ¬ s.stage = 1) (hw : s.whole = true) (hb : s.op.byte = 4) :
    Calls Tryz.prog 95 #[.pointer (some ⟨b, 0, none⟩)] w fun e w' => e = .returned (.tuple #[]) ∧ ChipPost b s.ends (chipSet b jv bv dv) w w' := by
  have hR0 : ¬ (s.stage = 0 ∨ s.stage = 1 ∨ s.whole = false) := by rw [hw]; simp [h0, h1]
  have hR : s.ends = { s with en := false } := by
    unfold St.ends
    rw [if_neg hR0, if_neg (show ¬ s.op.byte = 6 by rw [hb]; decide), if_pos hb]
  have h := hv.cb
  have c26 := h.cell 26
  have c20 := h.cell 20
  simp only [St.list, List.getElem?_cons_succ, List.getElem?_cons_zero] at c26 c20
  rw [hb] at c20
  have HV := Lib.hid hv
  have b0 : (s.stage == 0) = false := by simpa using h0
  have b1 : (s.stage == 1) = false := by simpa using h1
  have hwh := fun W (hW : Upd none' w W) => cmd_whole b s jv bv dv W (h.upd hW (fun f => f)) hda
  rw [hw] at hwh
  have HW := Lib.hid hwh
  clear hwh
  have HR := Lib.hid hR
  clear hR hR0 hw hv
  go_enter Tryz.func95, Tryz.ntmps95
  go_wp2_with fail
  refine (HW.out _ (Upd.refl _ _)).mono ?_
  rintro e w1 ⟨rfl, hU1⟩
  have hv1 := HV.out.upd0 hU1
  have HV1 := Lib.hid hv1
  have d20 := hv1.cb.cell 20
  simp only [St.list, List.getElem?_cons_succ, List.getElem?_cons_zero] at d20
  rw [hb] at d20
  have d16 := hv1.cb.cell 16
  have e16 := hv1.cb.frozen 16
  simp only [St.list, List.getElem?_cons_succ, List.getElem?_cons_zero] at d16
  have HBf := Lib.hid (hv1.cb.set 16 (.bool false))
  clear hv1 h
  go_wp2
  go_end0
  have hUs := (Upd.refl (fun k => k = b) w1).setCell ⟨b, 16, none⟩ (.bool false) (fun _ => rfl)
  refine ⟨rfl, ?_⟩
  rw [HR.out]
  obtain ⟨S', hA, hS, hU⟩ := HV1.out.cbSet (t := { s with en := false }) HBf.out hUs rfl rfl rfl
  exact ⟨S', hA, fun k hk => (hS k hk).imp_right (fun e => Nat.le_trans hU1.size e), (hU1.mono (fun _ _ f => f.elim)).trans hU (fun _ _ e => e)⟩
set_option maxRecDepth 100000 in
set_option maxHeartbeats 2000000 in
theorem ends_quad (b : Nat) (s : St) (jv bv dv : Value) (w : World) (hv : ChipV w b s jv bv dv) (hda : s.op.inn = true → s.op.data = 1) (h0 : ¬ s.stage = 0) (h1 : ¬ s.stage = 1) (hw : s.whole = true) (hb : s.op.byte = 235) :
    Calls Tryz.prog 95 #[.pointer (some ⟨b, 0, none⟩)] w fun e w' => e = .returned (.tuple #[]) ∧ ChipPost b s.ends (chipSet b jv bv dv) w w' := by
  have hR0 : ¬ (s.stage = 0 ∨ s.stage = 1 ∨ s.whole = false) := by rw [hw]; simp [h0, h1]
  obtain ⟨q, hq⟩ : ∃ q, (s.moded && decide (s.mode = 160)) = q := ⟨_, rfl⟩
  have hR : s.ends = { s with goes := q } := by
    unfold St.ends
    rw [if_neg hR0, if_neg (show ¬ s.op.byte = 6 by rw [hb]; decide), if_neg (show ¬ s.op.byte = 4 by rw [hb]; decide), if_neg (show ¬ s.op.byte = 117 by rw [hb]; decide), if_neg (show ¬ s.op.byte = 122 by rw [hb]; decide), if_neg (show ¬ s.op.byte = 1 by rw [hb]; decide), if_neg (show ¬ s.op.byte = 2 by rw [hb]; decide), if_neg (show ¬ s.op.byte = 32 by rw [hb]; decide), if_pos hb, hq]
  have h := hv.cb
  have c26 := h.cell 26
  have c20 := h.cell 20
  simp only [St.list, List.getElem?_cons_succ, List.getElem?_cons_zero] at c26 c20
  rw [hb] at c20
  have HV := Lib.hid hv
  have b0 : (s.stage == 0) = false := by simpa using h0
  have b1 : (s.stage == 1) = false := by simpa using h1
  have hwh := fun W (hW : Upd none' w W) => cmd_whole b s jv bv dv W (h.upd hW (fun f => f)) hda
  rw [hw] at hwh
  have HW := Lib.hid hwh
  clear hwh
  have HR := Lib.hid hR
  clear hR hR0 hw hv
  go_enter Tryz.func95, Tryz.ntmps95
  go_wp2_with fail
  refine (HW.out _ (Upd.refl _ _)).mono ?_
  rintro e w1 ⟨rfl, hU1⟩
  have hv1 := HV.out.upd0 hU1
  have HV1 := Lib.hid hv1
  have d20 := hv1.cb.cell 20
  simp only [St.list, List.getElem?_cons_succ, List.getElem?_cons_zero] at d20
  rw [hb] at d20
  have d17 := hv1.cb.cell 17
  have d30 := hv1.cb.cell 30
  have d31 := hv1.cb.cell 31
  have e17 := hv1.cb.frozen 17
  simp only [St.list, List.getElem?_cons_succ, List.getElem?_cons_zero] at d17 d30 d31
  obtain ⟨m, hm⟩ : ∃ m, decide (s.mode = 160) = m := ⟨_, rfl⟩
  have hmb : (s.mode == 160) = m := by rw [← hm]; rfl
  have HBf := Lib.hid (hv1.cb.set 17 (.bool (s.moded && m)))
  have HM := Lib.hid hm
  have HQ := Lib.hid hq
  clear hv1 h hm hq
  cases hmd : s.moded with
  | true =>
    rw [hmd] at d31 HBf
    simp only [Bool.true_and] at HBf
    go_wp2
    go_end0
    refine ⟨rfl, ?_⟩
    have hUs := (Upd.refl (fun k => k = b) w1).setCell ⟨b, 17, none⟩ (.bool m) (fun _ => rfl)
    rw [HR.out, show q = m by rw [← HQ.out, hmd, HM.out]; rfl]
    obtain ⟨S', hA, hS, hU⟩ := HV1.out.cbSet (t := { s with goes := m }) HBf.out hUs rfl rfl rfl
    exact ⟨S', hA, fun k hk => (hS k hk).imp_right (fun e => Nat.le_trans hU1.size e), (hU1.mono (fun _ _ f => f.elim)).trans hU (fun _ _ e => e)⟩
  | false =>
    rw [hmd] at d31 HBf
    simp only [Bool.false_and] at HBf
    go_wp2
    go_end0
    refine ⟨rfl, ?_⟩
    have hUs := (Upd.refl (fun k => k = b) w1).setCell ⟨b, 17, none⟩ (.bool false) (fun _ => rfl)
    rw [HR.out, show q = false by rw [← HQ.out, hmd]; rfl]
    obtain ⟨S', hA, hS, hU⟩ := HV1.out.cbSet (t := { s with goes := false }) HBf.out hUs rfl rfl rfl
    exact ⟨S', hA, fun k hk => (hS k hk).imp_right (fun e => Nat.le_trans hU1.size e), (hU1.mono (fun _ _ f => f.elim)).trans hU (fun _ _ e => e)⟩
set_option maxRecDepth 100000 in
set_option maxHeartbeats 2000000 in
theorem ends_other (b : Nat) (s : St) (jv bv dv : Value) (w : World) (hv : ChipV w b s jv bv dv) (hda : s.op.inn = true → s.op.data = 1) (h0 : ¬ s.stage = 0) (h1 : ¬ s.stage = 1) (hw : s.whole = true) (n6 : ¬ s.op.byte = 6) (n4 : ¬ s.op.byte = 4) (n117 : ¬ s.op.byte = 117) (n122 : ¬ s.op.byte = 122) (n1 : ¬ s.op.byte = 1) (n2 : ¬ s.op.byte = 2) (n32 : ¬ s.op.byte = 32) (n235 : ¬ s.op.byte = 235) :
    Calls Tryz.prog 95 #[.pointer (some ⟨b, 0, none⟩)] w fun e w' => e = .returned (.tuple #[]) ∧ ChipPost b s.ends (chipSet b jv bv dv) w w' := by
  have hR0 : ¬ (s.stage = 0 ∨ s.stage = 1 ∨ s.whole = false) := by rw [hw]; simp [h0, h1]
  have hR : s.ends = s := by
    unfold St.ends
    rw [if_neg hR0, if_neg n6, if_neg n4, if_neg n117, if_neg n122, if_neg n1, if_neg n2, if_neg n32, if_neg n235]
  have h := hv.cb
  have c26 := h.cell 26
  have c20 := h.cell 20
  simp only [St.list, List.getElem?_cons_succ, List.getElem?_cons_zero] at c26 c20
  have HV := Lib.hid hv
  have b0 : (s.stage == 0) = false := by simpa using h0
  have b1 : (s.stage == 1) = false := by simpa using h1
  have hwh := fun W (hW : Upd none' w W) => cmd_whole b s jv bv dv W (h.upd hW (fun f => f)) hda
  rw [hw] at hwh
  have HW := Lib.hid hwh
  clear hwh
  have HR := Lib.hid hR
  clear hR hR0 hw hv
  go_enter Tryz.func95, Tryz.ntmps95
  go_wp2_with fail
  refine (HW.out _ (Upd.refl _ _)).mono ?_
  rintro e w1 ⟨rfl, hU1⟩
  have hv1 := HV.out.upd0 hU1
  have HV1 := Lib.hid hv1
  have d20 := hv1.cb.cell 20
  simp only [St.list, List.getElem?_cons_succ, List.getElem?_cons_zero] at d20
  have HV2 := Lib.hid hv1
  clear hv1 h
  have m6 : (s.op.byte == 6) = false := by simpa using n6
  have m4 : (s.op.byte == 4) = false := by simpa using n4
  have m117 : (s.op.byte == 117) = false := by simpa using n117
  have m122 : (s.op.byte == 122) = false := by simpa using n122
  have m1 : (s.op.byte == 1) = false := by simpa using n1
  have m2 : (s.op.byte == 2) = false := by simpa using n2
  have m32 : (s.op.byte == 32) = false := by simpa using n32
  have m235 : (s.op.byte == 235) = false := by simpa using n235
  go_wp2
  go_end0
  refine ⟨rfl, ?_⟩
  rw [HR.out]
  exact HV.out.post hU1
set_option maxRecDepth 100000 in
set_option maxHeartbeats 2000000 in
theorem ends_susp_none (b : Nat) (s : St) (jv bv dv : Value) (w : World) (hv : ChipV w b s jv bv dv) (hda : s.op.inn = true → s.op.data = 1) (h0 : ¬ s.stage = 0) (h1 : ¬ s.stage = 1) (hw : s.whole = true) (hb : s.op.byte = 117) (hjn : s.job = none) :
    Calls Tryz.prog 95 #[.pointer (some ⟨b, 0, none⟩)] w fun e w' => e = .returned (.tuple #[]) ∧ ChipPost b s.ends (chipSet b jv bv dv) w w' := by
  have hR0 : ¬ (s.stage = 0 ∨ s.stage = 1 ∨ s.whole = false) := by rw [hw]; simp [h0, h1]
  have hR : s.ends = s := by
    unfold St.ends
    rw [if_neg hR0, if_neg (show ¬ s.op.byte = 6 by rw [hb]; decide), if_neg (show ¬ s.op.byte = 4 by rw [hb]; decide), if_pos hb]
    rw [hjn]
  have h := hv.cb
  have c26 := h.cell 26
  have c20 := h.cell 20
  simp only [St.list, List.getElem?_cons_succ, List.getElem?_cons_zero] at c26 c20
  rw [hb] at c20
  have HV := Lib.hid hv
  have b0 : (s.stage == 0) = false := by simpa using h0
  have b1 : (s.stage == 1) = false := by simpa using h1
  have hwh := fun W (hW : Upd none' w W) => cmd_whole b s jv bv dv W (h.upd hW (fun f => f)) hda
  rw [hw] at hwh
  have HW := Lib.hid hwh
  clear hwh
  have hjv : jv = .pointer none := by have := hv.job; rw [hjn] at this; exact this
  have HR := Lib.hid hR
  clear hR hR0 hw hv
  go_enter Tryz.func95, Tryz.ntmps95
  go_wp2_with fail
  refine (HW.out _ (Upd.refl _ _)).mono ?_
  rintro e w1 ⟨rfl, hU1⟩
  have hv1 := HV.out.upd0 hU1
  have HV1 := Lib.hid hv1
  have d18 := hv1.cb.cell 18
  have d20 := hv1.cb.cell 20
  simp only [St.list, List.getElem?_cons_succ, List.getElem?_cons_zero] at d18 d20
  rw [hb] at d20
  rw [hjv] at d18
  clear hv1 h
  go_wp2
  go_end0
  refine ⟨rfl, ?_⟩
  rw [HR.out]
  exact HV.out.post hU1
set_option maxRecDepth 100000 in
set_option maxHeartbeats 2000000 in
theorem ends_susp_page (b : Nat) (s : St) (jv bv dv : Value) (w : World) (hv : ChipV w b s jv bv dv) (hda : s.op.inn = true → s.op.data = 1) (h0 : ¬ s.stage = 0) (h1 : ¬ s.stage = 1) (hw : s.whole = true) (hb : s.op.byte = 117) (j : Job) (hjs : s.job = some j) (hsc : j.sector = -1) :
    Calls Tryz.prog 95 #[.pointer (some ⟨b, 0, none⟩)] w fun e w' => e = .returned (.tuple #[]) ∧ ChipPost b s.ends (chipSet b jv bv dv) w w' := by
  have hR0 : ¬ (s.stage = 0 ∨ s.stage = 1 ∨ s.whole = false) := by rw [hw]; simp [h0, h1]
  have hR : s.ends = s := by
    unfold St.ends
    rw [if_neg hR0, if_neg (show ¬ s.op.byte = 6 by rw [hb]; decide), if_neg (show ¬ s.op.byte = 4 by rw [hb]; decide), if_pos hb]
    rw [hjs]
    dsimp only
    rw [if_pos hsc]
  have h := hv.cb
  have c26 := h.cell 26
  have c20 := h.cell 20
  simp only [St.list, List.getElem?_cons_succ, List.getElem?_cons_zero] at c26 c20
  rw [hb] at c20
  have HV := Lib.hid hv
  have b0 : (s.stage == 0) = false := by simpa using h0
  have b1 : (s.stage == 1) = false := by simpa using h1
  have hwh := fun W (hW : Upd none' w W) => cmd_whole b s jv bv dv W (h.upd hW (fun f => f)) hda
  rw [hw] at hwh
  have HW := Lib.hid hwh
  clear hwh
  have hjob := hv.job
  rw [hjs] at hjob
  obtain ⟨g, rfl, hG⟩ := hjob
  have HR := Lib.hid hR
  clear hR hR0 hw hv
  go_enter Tryz.func95, Tryz.ntmps95
  go_wp2_with fail
  refine (HW.out _ (Upd.refl _ _)).mono ?_
  rintro e w1 ⟨rfl, hU1⟩
  have hv1 := HV.out.upd0 hU1
  have HV1 := Lib.hid hv1
  have hG1 := hG.upd hU1 (fun f => f)
  have q0 := hG1.cell 0
  simp only [List.getElem?_cons_zero] at q0
  rw [hsc] at q0
  have d18 := hv1.cb.cell 18
  have d20 := hv1.cb.cell 20
  simp only [St.list, List.getElem?_cons_succ, List.getElem?_cons_zero] at d18 d20
  rw [hb] at d20
  clear hv1 h hG hG1
  go_wp2
  go_end0
  refine ⟨rfl, ?_⟩
  rw [HR.out]
  exact HV.out.post hU1
set_option maxRecDepth 100000 in
set_option maxHeartbeats 2000000 in
theorem ends_susp_job (b : Nat) (s : St) (jv bv dv : Value) (w : World) (hv : ChipV w b s jv bv dv) (hda : s.op.inn = true → s.op.data = 1) (h0 : ¬ s.stage = 0) (h1 : ¬ s.stage = 1) (hw : s.whole = true) (hb : s.op.byte = 117) (j : Job) (hjs : s.job = some j) (hsc : ¬ j.sector = -1) :
    Calls Tryz.prog 95 #[.pointer (some ⟨b, 0, none⟩)] w fun e w' => e = .returned (.tuple #[]) ∧ ChipPost b s.ends (chipSet b jv bv dv) w w' := by
  have hR0 : ¬ (s.stage = 0 ∨ s.stage = 1 ∨ s.whole = false) := by rw [hw]; simp [h0, h1]
  have hR : s.ends = { s with job := some { j with susp := true } } := by
    unfold St.ends
    rw [if_neg hR0, if_neg (show ¬ s.op.byte = 6 by rw [hb]; decide), if_neg (show ¬ s.op.byte = 4 by rw [hb]; decide), if_pos hb]
    rw [hjs]
    dsimp only
    rw [if_neg hsc]
  have h := hv.cb
  have c26 := h.cell 26
  have c20 := h.cell 20
  simp only [St.list, List.getElem?_cons_succ, List.getElem?_cons_zero] at c26 c20
  rw [hb] at c20
  have HV := Lib.hid hv
  have b0 : (s.stage == 0) = false := by simpa using h0
  have b1 : (s.stage == 1) = false := by simpa using h1
  have hwh := fun W (hW : Upd none' w W) => cmd_whole b s jv bv dv W (h.upd hW (fun f => f)) hda
  rw [hw] at hwh
  have HW := Lib.hid hwh
  clear hwh
  have hjob := hv.job
  rw [hjs] at hjob
  obtain ⟨g, rfl, hG⟩ := hjob
  have HR := Lib.hid hR
  clear hR hR0 hw hv
  go_enter Tryz.func95, Tryz.ntmps95
  go_wp2_with fail
  refine (HW.out _ (Upd.refl _ _)).mono ?_
  rintro e w1 ⟨rfl, hU1⟩
  have hv1 := HV.out.upd0 hU1
  have HV1 := Lib.hid hv1
  have hG1 := hG.upd hU1 (fun f => f)
  have q0 := hG1.cell 0
  have q4 := hG1.cell 4
  have qf := hG1.frozen 4
  simp only [List.getElem?_cons_zero, List.getElem?_cons_succ] at q0 q4
  have hscb : (j.sector == -1) = false := by simpa using hsc
  have d18 := hv1.cb.cell 18
  have d20 := hv1.cb.cell 20
  simp only [St.list, List.getElem?_cons_succ, List.getElem?_cons_zero] at d18 d20
  rw [hb] at d20
  have HGf := Lib.hid (hG1.set 4 (.bool true))
  clear hv1 h hG hG1
  go_wp2
  go_end0
  refine ⟨rfl, ?_⟩
  rw [HR.out]
  have hUs := (Upd.refl (fun k => k = g) w1).setCell ⟨g, 4, none⟩ (.bool true) (fun _ => rfl)
  have hvj := HV1.out
  refine ⟨chipSet b (.pointer (some ⟨g, 0, none⟩)) bv dv, ⟨_, bv, dv, ⟨hvj.cb.upd hUs (fun e => hvj.sj g rfl e.symm), ⟨g, rfl, HGf.out⟩, hvj.busy.upd hUs (fun k _ hk e => (hvj.sb k hk).2 (by rw [e])), fun k hk => Nat.lt_of_lt_of_le (hvj.busyLt k hk) hUs.size, hvj.data.upd hUs (fun k hk e => (hvj.sd k hk).2.1 (by rw [e])), hvj.sj, hvj.sb, hvj.sd⟩, rfl⟩, fun k hk => .inl hk, ?_⟩
  exact (hU1.mono (fun _ _ f => f.elim)).trans (hUs.mono (T := chipSet b (.pointer (some ⟨g, 0, none⟩)) bv dv) (fun k _ e => .inr (.inl (by rw [e])))) (fun _ _ e => e)
set_option maxRecDepth 100000 in
set_option maxHeartbeats 2000000 in
theorem ends_res_none (b : Nat) (s : St) (jv bv dv : Value) (w : World) (hv : ChipV w b s jv bv dv) (hda : s.op.inn = true → s.op.data = 1) (h0 : ¬ s.stage = 0) (h1 : ¬ s.stage = 1) (hw : s.whole = true) (hb : s.op.byte = 122) (hjn : s.job = none) :
    Calls Tryz.prog 95 #[.pointer (some ⟨b, 0, none⟩)] w fun e w' => e = .returned (.tuple #[]) ∧ ChipPost b s.ends (chipSet b jv bv dv) w w' := by
  have hR0 : ¬ (s.stage = 0 ∨ s.stage = 1 ∨ s.whole = false) := by rw [hw]; simp [h0, h1]
  have hR : s.ends = s := by
    unfold St.ends
    rw [if_neg hR0, if_neg (show ¬ s.op.byte = 6 by rw [hb]; decide), if_neg (show ¬ s.op.byte = 4 by rw [hb]; decide), if_neg (show ¬ s.op.byte = 117 by rw [hb]; decide), if_pos hb]
    rw [hjn]
  have h := hv.cb
  have c26 := h.cell 26
  have c20 := h.cell 20
  simp only [St.list, List.getElem?_cons_succ, List.getElem?_cons_zero] at c26 c20
  rw [hb] at c20
  have HV := Lib.hid hv
  have b0 : (s.stage == 0) = false := by simpa using h0
  have b1 : (s.stage == 1) = false := by simpa using h1
  have hwh := fun W (hW : Upd none' w W) => cmd_whole b s jv bv dv W (h.upd hW (fun f => f)) hda
  rw [hw] at hwh
  have HW := Lib.hid hwh
  clear hwh
  have hjv : jv = .pointer none := by have := hv.job; rw [hjn] at this; exact this
  have HR := Lib.hid hR
  clear hR hR0 hw hv
  go_enter Tryz.func95, Tryz.ntmps95
  go_wp2_with fail
  refine (HW.out _ (Upd.refl _ _)).mono ?_
  rintro e w1 ⟨rfl, hU1⟩
  have hv1 := HV.out.upd0 hU1
  have HV1 := Lib.hid hv1
  have d18 := hv1.cb.cell 18
  have d20 := hv1.cb.cell 20
  simp only [St.list, List.getElem?_cons_succ, List.getElem?_cons_zero] at d18 d20
  rw [hb] at d20
  rw [hjv] at d18
  clear hv1 h
  go_wp2
  go_end0
  refine ⟨rfl, ?_⟩
  rw [HR.out]
  exact HV.out.post hU1
set_option maxRecDepth 100000 in
set_option maxHeartbeats 2000000 in
theorem ends_res_job (b : Nat) (s : St) (jv bv dv : Value) (w : World) (hv : ChipV w b s jv bv dv) (hda : s.op.inn = true → s.op.data = 1) (h0 : ¬ s.stage = 0) (h1 : ¬ s.stage = 1) (hw : s.whole = true) (hb : s.op.byte = 122) (j : Job) (hjs : s.job = some j) :
    Calls Tryz.prog 95 #[.pointer (some ⟨b, 0, none⟩)] w fun e w' => e = .returned (.tuple #[]) ∧ ChipPost b s.ends (chipSet b jv bv dv) w w' := by
  have hR0 : ¬ (s.stage = 0 ∨ s.stage = 1 ∨ s.whole = false) := by rw [hw]; simp [h0, h1]
  have hR : s.ends = { s with job := some { j with susp := false } } := by
    unfold St.ends
    rw [if_neg hR0, if_neg (show ¬ s.op.byte = 6 by rw [hb]; decide), if_neg (show ¬ s.op.byte = 4 by rw [hb]; decide), if_neg (show ¬ s.op.byte = 117 by rw [hb]; decide), if_pos hb]
    rw [hjs]
  have h := hv.cb
  have c26 := h.cell 26
  have c20 := h.cell 20
  simp only [St.list, List.getElem?_cons_succ, List.getElem?_cons_zero] at c26 c20
  rw [hb] at c20
  have HV := Lib.hid hv
  have b0 : (s.stage == 0) = false := by simpa using h0
  have b1 : (s.stage == 1) = false := by simpa using h1
  have hwh := fun W (hW : Upd none' w W) => cmd_whole b s jv bv dv W (h.upd hW (fun f => f)) hda
  rw [hw] at hwh
  have HW := Lib.hid hwh
  clear hwh
  have hjob := hv.job
  rw [hjs] at hjob
  obtain ⟨g, rfl, hG⟩ := hjob
  have HR := Lib.hid hR
  clear hR hR0 hw hv
  go_enter Tryz.func95, Tryz.ntmps95
  go_wp2_with fail
  refine (HW.out _ (Upd.refl _ _)).mono ?_
  rintro e w1 ⟨rfl, hU1⟩
  have hv1 := HV.out.upd0 hU1
  have HV1 := Lib.hid hv1
  have hG1 := hG.upd hU1 (fun f => f)
  have q0 := hG1.cell 0
  have q4 := hG1.cell 4
  have qf := hG1.frozen 4
  simp only [List.getElem?_cons_zero, List.getElem?_cons_succ] at q0 q4
  have d18 := hv1.cb.cell 18
  have d20 := hv1.cb.cell 20
  simp only [St.list, List.getElem?_cons_succ, List.getElem?_cons_zero] at d18 d20
  rw [hb] at d20
  have HGf := Lib.hid (hG1.set 4 (.bool false))
  clear hv1 h hG hG1
  go_wp2
  go_end0
  refine ⟨rfl, ?_⟩
  rw [HR.out]
  have hUs := (Upd.refl (fun k => k = g) w1).setCell ⟨g, 4, none⟩ (.bool false) (fun _ => rfl)
  have hvj := HV1.out
  refine ⟨chipSet b (.pointer (some ⟨g, 0, none⟩)) bv dv, ⟨_, bv, dv, ⟨hvj.cb.upd hUs (fun e => hvj.sj g rfl e.symm), ⟨g, rfl, HGf.out⟩, hvj.busy.upd hUs (fun k _ hk e => (hvj.sb k hk).2 (by rw [e])), fun k hk => Nat.lt_of_lt_of_le (hvj.busyLt k hk) hUs.size, hvj.data.upd hUs (fun k hk e => (hvj.sd k hk).2.1 (by rw [e])), hvj.sj, hvj.sb, hvj.sd⟩, rfl⟩, fun k hk => .inl hk, ?_⟩
  exact (hU1.mono (fun _ _ f => f.elim)).trans (hUs.mono (T := chipSet b (.pointer (some ⟨g, 0, none⟩)) bv dv) (fun k _ e => .inr (.inl (by rw [e])))) (fun _ _ e => e)
end Go.Proofs.YtepnljeojlbliaaGreat
