/- The walk over ends: each command but the ones that program, erase, put the status. · The walk over ends: the status is put. · The walk over ends: an erase, a program. · The walks over ends, Deselect, Cells. · The walks over New, Next. -/
import Derived.Test.YteombggfmeilaaaGreatChipD
import Derived.Deep.RegionHeld3
import Derived.Laws.AppendOwnNone
import Derived.Lib.SliceRun
namespace Go.Proofs.YteombggfmeilaaaGreat
open Go.RowKit
set_option maxRecDepth 100000 in
set_option maxHeartbeats 2000000 in
theorem ends_on (b : Nat) (s : St) (jv bv dv : Value) (w : World) (hv : ChipV w b s jv bv dv) (hda : s.op.inn = true → s.op.data = 1) (h0 : ¬ s.stage = 0) (h1 : ¬ s.stage = 1) (hw : s.whole = true) (hb : s.op.byte = 6) :
    Calls Tryz.prog 95 #[.pointer (some ⟨b, 0, none⟩)] w fun e w' => e = .returned (.tuple #[]) ∧ ChipPost b s.ends (chipSet b jv bv dv) w w' := by
  have hR0 : ¬ (s.stage = 0 ∨ s.stage = 1 ∨ s.whole = false) := by rw [hw]; simp [h0, h1]
  have hR : s.ends = { s with en := true } := by
    unfold St.ends
    rw [if_neg hR0, if_pos hb]
  have h := hv.cb
  have c26 := h.cell 26
  have c20 := h.cell 20
  simp only [St.list, List.getElem?_cons_succ, List.getElem?_cons_zero] at c26 c20
  rw [hb] at c20
  have HV := Lib.hid hv
  have b0 : (s.stage == 0) = false := by simpa using h0
  have b1 : (s.stage == 1) = false := by simpa using h1
  have hwh := fun W (hW : Upd none' w W) => cmd_whole b s jv bv dv W (h.upd hW (fun f => f)) hda
  rw [hw] at hwh
  have HW := Lib.hid hwh
  clear hwh
  have HR := Lib.hid hR
  clear hR hR0 hw hv
  go_enter Tryz.func95, Tryz.ntmps95
  go_wp2_with fail
  refine (HW.out _ (Upd.refl _ _)).mono ?_
  rintro e w1 ⟨rfl, hU1⟩
  have hv1 := HV.out.upd0 hU1
  have HV1 := Lib.hid hv1
  have d20 := hv1.cb.cell 20
  simp only [St.list, List.getElem?_cons_succ, List.getElem?_cons_zero] at d20
  rw [hb] at d20
  have d16 := hv1.cb.cell 16
  have e16 := hv1.cb.frozen 16
  simp only [St.list, List.getElem?_cons_succ, List.getElem?_cons_zero] at d16
  have HBf := Lib.hid (hv1.cb.set 16 (.bool true))
  clear hv1 h
  go_wp2
  go_end0
  have hUs := (Upd.refl (fun k => k = b) w1).setCell ⟨b, 16, none⟩ (.bool true) (fun _ => rfl)
  refine ⟨rfl, ?_⟩
  rw [HR.out]
  obtain ⟨S', hA, hS, hU⟩ := HV1.out.cbSet (t := { s with en := true }) HBf.out hUs rfl rfl rfl
  exact ⟨S', hA, fun k hk => (hS k hk).imp_right (fun e => Nat.le_trans hU1.size e), (hU1.mono (fun _ _ f => f.elim)).trans hU (fun _ _ e => e)⟩
set_option maxRecDepth 100000 in
set_option maxHeartbeats 2000000 in
theorem ends_off (b : Nat) (s : St) (jv bv dv : Value) (w : World) (hv : ChipV w b s jv bv dv) (hda : s.op.inn = true → s.op.data = 1) (h0 : ¬ s.stage = 0) (h1 : ¬ s.stage = 1) (hw : s.whole = true) (hb : s.op.byte = 4) :
    Calls Tryz.prog 95 #[.pointer (some ⟨b, 0, none⟩)] w fun e w' => e = .returned (.tuple #[]) ∧ ChipPost b s.ends (chipSet b jv bv dv) w w' := by
  have hR0 : ¬ (s.stage = 0 ∨ s.stage = 1 ∨ s.whole = false) := by rw [hw]; simp [h0, h1]
  have hR : s.ends = { s with en := false } := by
    unfold St.ends
    rw [if_neg hR0, if_neg (show ¬ s.op.byte = 6 by rw [hb]; decide), if_pos hb]
  have h := hv.cb
  have c26 := h.cell 26
  have c20 := h.cell 20
  simp only [St.list, List.getElem?_cons_succ, List.getElem?_cons_zero] at c26 c20
  rw [hb] at c20
  have HV := Lib.hid hv
  have b0 : (s.stage == 0) = false := by simpa using h0
  have b1 : (s.stage == 1) = false := by simpa using h1
  have hwh := fun W (hW : Upd none' w W) => cmd_whole b s jv bv dv W (h.upd hW (fun f => f)) hda
  rw [hw] at hwh
  have HW := Lib.hid hwh
  clear hwh
  have HR := Lib.hid hR
  clear hR hR0 hw hv
  go_enter Tryz.func95, Tryz.ntmps95
  go_wp2_with fail
  refine (HW.out _ (Upd.refl _ _)).mono ?_
  rintro e w1 ⟨rfl, hU1⟩
  have hv1 := HV.out.upd0 hU1
  have HV1 := Lib.hid hv1
  have d20 := hv1.cb.cell 20
  simp only [St.list, List.getElem?_cons_succ, List.getElem?_cons_zero] at d20
  rw [hb] at d20
  have d16 := hv1.cb.cell 16
  have e16 := hv1.cb.frozen 16
  simp only [St.list, List.getElem?_cons_succ, List.getElem?_cons_zero] at d16
  have HBf := Lib.hid (hv1.cb.set 16 (.bool false))
  clear hv1 h
  go_wp2
  go_end0
  have hUs := (Upd.refl (fun k => k = b) w1).setCell ⟨b, 16, none⟩ (.bool false) (fun _ => rfl)
  refine ⟨rfl, ?_⟩
  rw [HR.out]
  obtain ⟨S', hA, hS, hU⟩ := HV1.out.cbSet (t := { s with en := false }) HBf.out hUs rfl rfl rfl
  exact ⟨S', hA, fun k hk => (hS k hk).imp_right (fun e => Nat.le_trans hU1.size e), (hU1.mono (fun _ _ f => f.elim)).trans hU (fun _ _ e => e)⟩
set_option maxRecDepth 100000 in
set_option maxHeartbeats 2000000 in
theorem ends_quad (b : Nat) (s : St) (jv bv dv : Value) (w : World) (hv : ChipV w b s jv bv dv) (hda : s.op.inn = true → s.op.data = 1) (h0 : ¬ s.stage = 0) (h1 : ¬ s.stage = 1) (hw : s.whole = true) (hb : s.op.byte = 235) :
    Calls Tryz.prog 95 #[.pointer (some ⟨b, 0, none⟩)] w fun e w' => e = .returned (.tuple #[]) ∧ ChipPost b s.ends (chipSet b jv bv dv) w w' := by
  have hR0 : ¬ (s.stage = 0 ∨ s.stage = 1 ∨ s.whole = false) := by rw [hw]; simp [h0, h1]
  obtain ⟨q, hq⟩ : ∃ q, (s.moded && decide (s.mode = 160)) = q := ⟨_, rfl⟩
  have hR : s.ends = { s with goes := q } := by
    unfold St.ends
    rw [if_neg hR0, if_neg (show ¬ s.op.byte = 6 by rw [hb]; decide), if_neg (show ¬ s.op.byte = 4 by rw [hb]; decide), if_neg (show ¬ s.op.byte = 117 by rw [hb]; decide), if_neg (show ¬ s.op.byte = 122 by rw [hb]; decide), if_neg (show ¬ s.op.byte = 1 by rw [hb]; decide), if_neg (show ¬ s.op.byte = 2 by rw [hb]; decide), if_neg (show ¬ s.op.byte = 32 by rw [hb]; decide), if_pos hb, hq]
  have h := hv.cb
  have c26 := h.cell 26
  have c20 := h.cell 20
  simp only [St.list, List.getElem?_cons_succ, List.getElem?_cons_zero] at c26 c20
  rw [hb] at c20
  have HV := Lib.hid hv
  have b0 : (s.stage == 0) = false := by simpa using h0
  have b1 : (s.stage == 1) = false := by simpa using h1
  have hwh := fun W (hW : Upd none' w W) => cmd_whole b s jv bv dv W (h.upd hW (fun f => f)) hda
  rw [hw] at hwh
  have HW := Lib.hid hwh
  clear hwh
  have HR := Lib.hid hR
  clear hR hR0 hw hv
  go_enter Tryz.func95, Tryz.ntmps95
  go_wp2_with fail
  refine (HW.out _ (Upd.refl _ _)).mono ?_
  rintro e w1 ⟨rfl, hU1⟩
  have hv1 := HV.out.upd0 hU1
  have HV1 := Lib.hid hv1
  have d20 := hv1.cb.cell 20
  simp only [St.list, List.getElem?_cons_succ, List.getElem?_cons_zero] at d20
  rw [hb] at d20
  have d17 := hv1.cb.cell 17
  have d30 := hv1.cb.cell 30
  have d31 := hv1.cb.cell 31
  have e17 := hv1.cb.frozen 17
  simp only [St.list, List.getElem?_cons_succ, List.getElem?_cons_zero] at d17 d30 d31
  obtain ⟨m, hm⟩ : ∃ m, decide (s.mode = 160) = m := ⟨_, rfl⟩
  have hmb : (s.mode == 160) = m := by rw [← hm]; rfl
  have HBf := Lib.hid (hv1.cb.set 17 (.bool (s.moded && m)))
  have HM := Lib.hid hm
  have HQ := Lib.hid hq
  clear hv1 h hm hq
  cases hmd : s.moded with
  | true =>
    rw [hmd] at d31 HBf
    simp only [Bool.true_and] at HBf
    go_wp2
    go_end0
    refine ⟨rfl, ?_⟩
    have hUs := (Upd.refl (fun k => k = b) w1).setCell ⟨b, 17, none⟩ (.bool m) (fun _ => rfl)
    rw [HR.out, show q = m by rw [← HQ.out, hmd, HM.out]; rfl]
    obtain ⟨S', hA, hS, hU⟩ := HV1.out.cbSet (t := { s with goes := m }) HBf.out hUs rfl rfl rfl
    exact ⟨S', hA, fun k hk => (hS k hk).imp_right (fun e => Nat.le_trans hU1.size e), (hU1.mono (fun _ _ f => f.elim)).trans hU (fun _ _ e => e)⟩
  | false =>
    rw [hmd] at d31 HBf
    simp only [Bool.false_and] at HBf
    go_wp2
    go_end0
    refine ⟨rfl, ?_⟩
    have hUs := (Upd.refl (fun k => k = b) w1).setCell ⟨b, 17, none⟩ (.bool false) (fun _ => rfl)
    rw [HR.out, show q = false by rw [← HQ.out, hmd]; rfl]
    obtain ⟨S', hA, hS, hU⟩ := HV1.out.cbSet (t := { s with goes := false }) HBf.out hUs rfl rfl rfl
    exact ⟨S', hA, fun k hk => (hS k hk).imp_right (fun e => Nat.le_trans hU1.size e), (hU1.mono (fun _ _ f => f.elim)).trans hU (fun _ _ e => e)⟩
set_option maxRecDepth 100000 in
set_option maxHeartbeats 2000000 in
theorem ends_other (b : Nat) (s : St) (jv bv dv : Value) (w : World) (hv : ChipV w b s jv bv dv) (hda : s.op.inn = true → s.op.data = 1) (h0 : ¬ s.stage = 0) (h1 : ¬ s.stage = 1) (hw : s.whole = true) (n6 : ¬ s.op.byte = 6) (n4 : ¬ s.op.byte = 4) (n117 : ¬ s.op.byte = 117) (n122 : ¬ s.op.byte = 122) (n1 : ¬ s.op.byte = 1) (n2 : ¬ s.op.byte = 2) (n32 : ¬ s.op.byte = 32) (n235 : ¬ s.op.byte = 235) :
    Calls Tryz.prog 95 #[.pointer (some ⟨b, 0, none⟩)] w fun e w' => e = .returned (.tuple #[]) ∧ ChipPost b s.ends (chipSet b jv bv dv) w w' := by
  have hR0 : ¬ (s.stage = 0 ∨ s.stage = 1 ∨ s.whole = false) := by rw [hw]; simp [h0, h1]
  have hR : s.ends = s := by
    unfold St.ends
    rw [if_neg hR0, if_neg n6, if_neg n4, if_neg n117, if_neg n122, if_neg n1, if_neg n2, if_neg n32, if_neg n235]
  have h := hv.cb
  have c26 := h.cell 26
  have c20 := h.cell 20
  simp only [St.list, List.getElem?_cons_succ, List.getElem?_cons_zero] at c26 c20
  have HV := Lib.hid hv
  have b0 : (s.stage == 0) = false := by simpa using h0
  have b1 : (s.stage == 1) = false := by simpa using h1
  have hwh := fun W (hW : Upd none' w W) => cmd_whole b s jv bv dv W (h.upd hW (fun f => f)) hda
  rw [hw] at hwh
  have HW := Lib.hid hwh
  clear hwh
  have HR := Lib.hid hR
  clear hR hR0 hw hv
  go_enter Tryz.func95, Tryz.ntmps95
  go_wp2_with fail
  refine (HW.out _ (Upd.refl _ _)).mono ?_
  rintro e w1 ⟨rfl, hU1⟩
  have hv1 := HV.out.upd0 hU1
  have HV1 := Lib.hid hv1
  have d20 := hv1.cb.cell 20
  simp only [St.list, List.getElem?_cons_succ, List.getElem?_cons_zero] at d20
  have HV2 := Lib.hid hv1
  clear hv1 h
  have m6 : (s.op.byte == 6) = false := by simpa using n6
  have m4 : (s.op.byte == 4) = false := by simpa using n4
  have m117 : (s.op.byte == 117) = false := by simpa using n117
  have m122 : (s.op.byte == 122) = false := by simpa using n122
  have m1 : (s.op.byte == 1) = false := by simpa using n1
  have m2 : (s.op.byte == 2) = false := by simpa using n2
  have m32 : (s.op.byte == 32) = false := by simpa using n32
  have m235 : (s.op.byte == 235) = false := by simpa using n235
  go_wp2
  go_end0
  refine ⟨rfl, ?_⟩
  rw [HR.out]
  exact HV.out.post hU1
set_option maxRecDepth 100000 in
set_option maxHeartbeats 2000000 in
theorem ends_susp_none (b : Nat) (s : St) (jv bv dv : Value) (w : World) (hv : ChipV w b s jv bv dv) (hda : s.op.inn = true → s.op.data = 1) (h0 : ¬ s.stage = 0) (h1 : ¬ s.stage = 1) (hw : s.whole = true) (hb : s.op.byte = 117) (hjn : s.job = none) :
    Calls Tryz.prog 95 #[.pointer (some ⟨b, 0, none⟩)] w fun e w' => e = .returned (.tuple #[]) ∧ ChipPost b s.ends (chipSet b jv bv dv) w w' := by
  have hR0 : ¬ (s.stage = 0 ∨ s.stage = 1 ∨ s.whole = false) := by rw [hw]; simp [h0, h1]
  have hR : s.ends = s := by
    unfold St.ends
    rw [if_neg hR0, if_neg (show ¬ s.op.byte = 6 by rw [hb]; decide), if_neg (show ¬ s.op.byte = 4 by rw [hb]; decide), if_pos hb]
    rw [hjn]
  have h := hv.cb
  have c26 := h.cell 26
  have c20 := h.cell 20
  simp only [St.list, List.getElem?_cons_succ, List.getElem?_cons_zero] at c26 c20
  rw [hb] at c20
  have HV := Lib.hid hv
  have b0 : (s.stage == 0) = false := by simpa using h0
  have b1 : (s.stage == 1) = false := by simpa using h1
  have hwh := fun W (hW : Upd none' w W) => cmd_whole b s jv bv dv W (h.upd hW (fun f => f)) hda
  rw [hw] at hwh
  have HW := Lib.hid hwh
  clear hwh
  have hjv : jv = .pointer none := by have := hv.job; rw [hjn] at this; exact this
  have HR := Lib.hid hR
  clear hR hR0 hw hv
  go_enter Tryz.func95, Tryz.ntmps95
  go_wp2_with fail
  refine (HW.out _ (Upd.refl _ _)).mono ?_
  rintro e w1 ⟨rfl, hU1⟩
  have hv1 := HV.out.upd0 hU1
  have HV1 := Lib.hid hv1
  have d18 := hv1.cb.cell 18
  have d20 := hv1.cb.cell 20
  simp only [St.list, List.getElem?_cons_succ, List.getElem?_cons_zero] at d18 d20
  rw [hb] at d20
  rw [hjv] at d18
  clear hv1 h
  go_wp2
  go_end0
  refine ⟨rfl, ?_⟩
  rw [HR.out]
  exact HV.out.post hU1
set_option maxRecDepth 100000 in
set_option maxHeartbeats 2000000 in
theorem ends_susp_page (b : Nat) (s : St) (jv bv dv : Value) (w : World) (hv : ChipV w b s jv bv dv) (hda : s.op.inn = true → s.op.data = 1) (h0 : ¬ s.stage = 0) (h1 : ¬ s.stage = 1) (hw : s.whole = true) (hb : s.op.byte = 117) (j : Job) (hjs : s.job = some j) (hsc : j.sector = -1) :
    Calls Tryz.prog 95 #[.pointer (some ⟨b, 0, none⟩)] w fun e w' => e = .returned (.tuple #[]) ∧ ChipPost b s.ends (chipSet b jv bv dv) w w' := by
  have hR0 : ¬ (s.stage = 0 ∨ s.stage = 1 ∨ s.whole = false) := by rw [hw]; simp [h0, h1]
  have hR : s.ends = s := by
    unfold St.ends
    rw [if_neg hR0, if_neg (show ¬ s.op.byte = 6 by rw [hb]; decide), if_neg (show ¬ s.op.byte = 4 by rw [hb]; decide), if_pos hb]
    rw [hjs]
    dsimp only
    rw [if_pos hsc]
  have h := hv.cb
  have c26 := h.cell 26
  have c20 := h.cell 20
  simp only [St.list, List.getElem?_cons_succ, List.getElem?_cons_zero] at c26 c20
  rw [hb] at c20
  have HV := Lib.hid hv
  have b0 : (s.stage == 0) = false := by simpa using h0
  have b1 : (s.stage == 1) = false := by simpa using h1
  have hwh := fun W (hW : Upd none' w W) => cmd_whole b s jv bv dv W (h.upd hW (fun f => f)) hda
  rw [hw] at hwh
  have HW := Lib.hid hwh
  clear hwh
  have hjob := hv.job
  rw [hjs] at hjob
  obtain ⟨g, rfl, hG⟩ := hjob
  have HR := Lib.hid hR
  clear hR hR0 hw hv
  go_enter Tryz.func95, Tryz.ntmps95
  go_wp2_with fail
  refine (HW.out _ (Upd.refl _ _)).mono ?_
  rintro e w1 ⟨rfl, hU1⟩
  have hv1 := HV.out.upd0 hU1
  have HV1 := Lib.hid hv1
  have hG1 := hG.upd hU1 (fun f => f)
  have q0 := hG1.cell 0
  simp only [List.getElem?_cons_zero] at q0
  rw [hsc] at q0
  have d18 := hv1.cb.cell 18
  have d20 := hv1.cb.cell 20
  simp only [St.list, List.getElem?_cons_succ, List.getElem?_cons_zero] at d18 d20
  rw [hb] at d20
  clear hv1 h hG hG1
  go_wp2
  go_end0
  refine ⟨rfl, ?_⟩
  rw [HR.out]
  exact HV.out.post hU1
set_option maxRecDepth 100000 in
set_option maxHeartbeats 2000000 in
theorem ends_susp_job (b : Nat) (s : St) (jv bv dv : Value) (w : World) (hv : ChipV w b s jv bv dv) (hda : s.op.inn = true → s.op.data = 1) (h0 : ¬ s.stage = 0) (h1 : ¬ s.stage = 1) (hw : s.whole = true) (hb : s.op.byte = 117) (j : Job) (hjs : s.job = some j) (hsc : ¬ j.sector = -1) :
    Calls Tryz.prog 95 #[.pointer (some ⟨b, 0, none⟩)] w fun e w' => e = .returned (.tuple #[]) ∧ ChipPost b s.ends (chipSet b jv bv dv) w w' := by
  have hR0 : ¬ (s.stage = 0 ∨ s.stage = 1 ∨ s.whole = false) := by rw [hw]; simp [h0, h1]
  have hR : s.ends = { s with job := some { j with susp := true } } := by
    unfold St.ends
    rw [if_neg hR0, if_neg (show ¬ s.op.byte = 6 by rw [hb]; decide), if_neg (show ¬ s.op.byte = 4 by rw [hb]; decide), if_pos hb]
    rw [hjs]
    dsimp only
    rw [if_neg hsc]
  have h := hv.cb
  have c26 := h.cell 26
  have c20 := h.cell 20
  simp only [St.list, List.getElem?_cons_succ, List.getElem?_cons_zero] at c26 c20
  rw [hb] at c20
  have HV := Lib.hid hv
  have b0 : (s.stage == 0) = false := by simpa using h0
  have b1 : (s.stage == 1) = false := by simpa using h1
  have hwh := fun W (hW : Upd none' w W) => cmd_whole b s jv bv dv W (h.upd hW (fun f => f)) hda
  rw [hw] at hwh
  have HW := Lib.hid hwh
  clear hwh
  have hjob := hv.job
  rw [hjs] at hjob
  obtain ⟨g, rfl, hG⟩ := hjob
  have HR := Lib.hid hR
  clear hR hR0 hw hv
  go_enter Tryz.func95, Tryz.ntmps95
  go_wp2_with fail
  refine (HW.out _ (Upd.refl _ _)).mono ?_
  rintro e w1 ⟨rfl, hU1⟩
  have hv1 := HV.out.upd0 hU1
  have HV1 := Lib.hid hv1
  have hG1 := hG.upd hU1 (fun f => f)
  have q0 := hG1.cell 0
  have q4 := hG1.cell 4
  have qf := hG1.frozen 4
  simp only [List.getElem?_cons_zero, List.getElem?_cons_succ] at q0 q4
  have hscb : (j.sector == -1) = false := by simpa using hsc
  have d18 := hv1.cb.cell 18
  have d20 := hv1.cb.cell 20
  simp only [St.list, List.getElem?_cons_succ, List.getElem?_cons_zero] at d18 d20
  rw [hb] at d20
  have HGf := Lib.hid (hG1.set 4 (.bool true))
  clear hv1 h hG hG1
  go_wp2
  go_end0
  refine ⟨rfl, ?_⟩
  rw [HR.out]
  have hUs := (Upd.refl (fun k => k = g) w1).setCell ⟨g, 4, none⟩ (.bool true) (fun _ => rfl)
  have hvj := HV1.out
  refine ⟨chipSet b (.pointer (some ⟨g, 0, none⟩)) bv dv, ⟨_, bv, dv, ⟨hvj.cb.upd hUs (fun e => hvj.sj g rfl e.symm), ⟨g, rfl, HGf.out⟩, hvj.busy.upd hUs (fun k _ hk e => (hvj.sb k hk).2 (by rw [e])), fun k hk => Nat.lt_of_lt_of_le (hvj.busyLt k hk) hUs.size, hvj.data.upd hUs (fun k hk e => (hvj.sd k hk).2.1 (by rw [e])), hvj.sj, hvj.sb, hvj.sd⟩, rfl⟩, fun k hk => .inl hk, ?_⟩
  exact (hU1.mono (fun _ _ f => f.elim)).trans (hUs.mono (T := chipSet b (.pointer (some ⟨g, 0, none⟩)) bv dv) (fun k _ e => .inr (.inl (by rw [e])))) (fun _ _ e => e)
set_option maxRecDepth 100000 in
set_option maxHeartbeats 2000000 in
theorem ends_res_none (b : Nat) (s : St) (jv bv dv : Value) (w : World) (hv : ChipV w b s jv bv dv) (hda : s.op.inn = true → s.op.data = 1) (h0 : ¬ s.stage = 0) (h1 : ¬ s.stage = 1) (hw : s.whole = true) (hb : s.op.byte = 122) (hjn : s.job = none) :
    Calls Tryz.prog 95 #[.pointer (some ⟨b, 0, none⟩)] w fun e w' => e = .returned (.tuple #[]) ∧ ChipPost b s.ends (chipSet b jv bv dv) w w' := by
  have hR0 : ¬ (s.stage = 0 ∨ s.stage = 1 ∨ s.whole = false) := by rw [hw]; simp [h0, h1]
  have hR : s.ends = s := by
    unfold St.ends
    rw [if_neg hR0, if_neg (show ¬ s.op.byte = 6 by rw [hb]; decide), if_neg (show ¬ s.op.byte = 4 by rw [hb]; decide), if_neg (show ¬ s.op.byte = 117 by rw [hb]; decide), if_pos hb]
    rw [hjn]
  have h := hv.cb
  have c26 := h.cell 26
  have c20 := h.cell 20
  simp only [St.list, List.getElem?_cons_succ, List.getElem?_cons_zero] at c26 c20
  rw [hb] at c20
  have HV := Lib.hid hv
  have b0 : (s.stage == 0) = false := by simpa using h0
  have b1 : (s.stage == 1) = false := by simpa using h1
  have hwh := fun W (hW : Upd none' w W) => cmd_whole b s jv bv dv W (h.upd hW (fun f => f)) hda
  rw [hw] at hwh
  have HW := Lib.hid hwh
  clear hwh
  have hjv : jv = .pointer none := by have := hv.job; rw [hjn] at this; exact this
  have HR := Lib.hid hR
  clear hR hR0 hw hv
  go_enter Tryz.func95, Tryz.ntmps95
  go_wp2_with fail
  refine (HW.out _ (Upd.refl _ _)).mono ?_
  rintro e w1 ⟨rfl, hU1⟩
  have hv1 := HV.out.upd0 hU1
  have HV1 := Lib.hid hv1
  have d18 := hv1.cb.cell 18
  have d20 := hv1.cb.cell 20
  simp only [St.list, List.getElem?_cons_succ, List.getElem?_cons_zero] at d18 d20
  rw [hb] at d20
  rw [hjv] at d18
  clear hv1 h
  go_wp2
  go_end0
  refine ⟨rfl, ?_⟩
  rw [HR.out]
  exact HV.out.post hU1
set_option maxRecDepth 100000 in
set_option maxHeartbeats 2000000 in
theorem ends_res_job (b : Nat) (s : St) (jv bv dv : Value) (w : World) (hv : ChipV w b s jv bv dv) (hda : s.op.inn = true → s.op.data = 1) (h0 : ¬ s.stage = 0) (h1 : ¬ s.stage = 1) (hw : s.whole = true) (hb : s.op.byte = 122) (j : Job) (hjs : s.job = some j) :
    Calls Tryz.prog 95 #[.pointer (some ⟨b, 0, none⟩)] w fun e w' => e = .returned (.tuple #[]) ∧ ChipPost b s.ends (chipSet b jv bv dv) w w' := by
  have hR0 : ¬ (s.stage = 0 ∨ s.stage = 1 ∨ s.whole = false) := by rw [hw]; simp [h0, h1]
  have hR : s.ends = { s with job := some { j with susp := false } } := by
    unfold St.ends
    rw [if_neg hR0, if_neg (show ¬ s.op.byte = 6 by rw [hb]; decide), if_neg (show ¬ s.op.byte = 4 by rw [hb]; decide), if_neg (show ¬ s.op.byte = 117 by rw [hb]; decide), if_pos hb]
    rw [hjs]
  have h := hv.cb
  have c26 := h.cell 26
  have c20 := h.cell 20
  simp only [St.list, List.getElem?_cons_succ, List.getElem?_cons_zero] at c26 c20
  rw [hb] at c20
  have HV := Lib.hid hv
  have b0 : (s.stage == 0) = false := by simpa using h0
  have b1 : (s.stage == 1) = false := by simpa using h1
  have hwh := fun W (hW : Upd none' w W) => cmd_whole b s jv bv dv W (h.upd hW (fun f => f)) hda
  rw [hw] at hwh
  have HW := Lib.hid hwh
  clear hwh
  have hjob := hv.job
  rw [hjs] at hjob
  obtain ⟨g, rfl, hG⟩ := hjob
  have HR := Lib.hid hR
  clear hR hR0 hw hv
  go_enter Tryz.func95, Tryz.ntmps95
  go_wp2_with fail
  refine (HW.out _ (Upd.refl _ _)).mono ?_
  rintro e w1 ⟨rfl, hU1⟩
  have hv1 := HV.out.upd0 hU1
  have HV1 := Lib.hid hv1
  have hG1 := hG.upd hU1 (fun f => f)
  have q0 := hG1.cell 0
  have q4 := hG1.cell 4
  have qf := hG1.frozen 4
  simp only [List.getElem?_cons_zero, List.getElem?_cons_succ] at q0 q4
  have d18 := hv1.cb.cell 18
  have d20 := hv1.cb.cell 20
  simp only [St.list, List.getElem?_cons_succ, List.getElem?_cons_zero] at d18 d20
  rw [hb] at d20
  have HGf := Lib.hid (hG1.set 4 (.bool false))
  clear hv1 h hG hG1
  go_wp2
  go_end0
  refine ⟨rfl, ?_⟩
  rw [HR.out]
  have hUs := (Upd.refl (fun k => k = g) w1).setCell ⟨g, 4, none⟩ (.bool false) (fun _ => rfl)
  have hvj := HV1.out
  refine ⟨chipSet b (.pointer (some ⟨g, 0, none⟩)) bv dv, ⟨_, bv, dv, ⟨hvj.cb.upd hUs (fun e => hvj.sj g rfl e.symm), ⟨g, rfl, HGf.out⟩, hvj.busy.upd hUs (fun k _ hk e => (hvj.sb k hk).2 (by rw [e])), fun k hk => Nat.lt_of_lt_of_le (hvj.busyLt k hk) hUs.size, hvj.data.upd hUs (fun k hk e => (hvj.sd k hk).2.1 (by rw [e])), hvj.sj, hvj.sb, hvj.sd⟩, rfl⟩, fun k hk => .inl hk, ?_⟩
  exact (hU1.mono (fun _ _ f => f.elim)).trans (hUs.mono (T := chipSet b (.pointer (some ⟨g, 0, none⟩)) bv dv) (fun k _ e => .inr (.inl (by rw [e])))) (fun _ _ e => e)
end Go.Proofs.YteombggfmeilaaaGreat
namespace Go.Proofs.YteombggfmeilaaaGreat
open Go.RowKit
theorem and4_byte {x : Int} (h0 : 0 ≤ x) (h1 : x ≤ 255) : bits .and .i64 x 4 = x / 4 % 2 * 4 := by
  have key : ∀ n : Fin 256, bits .and .i64 ((n.val : Nat) : Int) 4 = ((n.val : Nat) : Int) / 4 % 2 * 4 := by decide +kernel
  have := key ⟨x.toNat, by omega⟩
  rw [show (((⟨x.toNat, by omega⟩ : Fin 256).val : Nat) : Int) = x by dsimp only; omega] at this
  exact this
theorem and2_byte {x : Int} (h0 : 0 ≤ x) (h1 : x ≤ 255) : bits .and .i64 x 2 = x / 2 % 2 * 2 := by
  have key : ∀ n : Fin 256, bits .and .i64 ((n.val : Nat) : Int) 2 = ((n.val : Nat) : Int) / 2 % 2 * 2 := by decide +kernel
  have := key ⟨x.toNat, by omega⟩
  rw [show (((⟨x.toNat, by omega⟩ : Fin 256).val : Nat) : Int) = x by dsimp only; omega] at this
  exact this
theorem bit_of (v : Int) (k : Int) (h : v % 2 * k = 0 ↔ v % 2 = 0) : ∃ p : Bool, decide (v % 2 = 1) = p ∧ (v % 2 * k != 0) = p := by
  refine ⟨_, rfl, ?_⟩
  rcases (show v % 2 = 0 ∨ v % 2 = 1 by omega) with e | e
  · have e2 := h.2 e
    rw [e2, e]; rfl
  · have : ¬ v % 2 * k = 0 := fun h' => by have := h.1 h'; omega
    rw [decide_eq_true e]
    simpa using this
set_option maxRecDepth 100000 in
set_option maxHeartbeats 2000000 in
theorem ends_put_dis (b : Nat) (s : St) (jv bv dv : Value) (w : World) (hv : ChipV w b s jv bv dv) (hda : s.op.inn = true → s.op.data = 1) (h0 : ¬ s.stage = 0) (h1 : ¬ s.stage = 1) (hw : s.whole = true) (hb : s.op.byte = 1) (hen : s.en = false) :
    Calls Tryz.prog 95 #[.pointer (some ⟨b, 0, none⟩)] w fun e w' => e = .returned (.tuple #[]) ∧ ChipPost b s.ends (chipSet b jv bv dv) w w' := by
  have hR0 : ¬ (s.stage = 0 ∨ s.stage = 1 ∨ s.whole = false) := by rw [hw]; simp [h0, h1]
  have hR : s.ends = s := by
    unfold St.ends
    rw [if_neg hR0, if_neg (show ¬ s.op.byte = 6 by rw [hb]; decide), if_neg (show ¬ s.op.byte = 4 by rw [hb]; decide), if_neg (show ¬ s.op.byte = 117 by rw [hb]; decide), if_neg (show ¬ s.op.byte = 122 by rw [hb]; decide), if_pos hb]
    rw [if_neg (by rw [hen]; simp)]
  have h := hv.cb
  have c26 := h.cell 26
  have c20 := h.cell 20
  simp only [St.list, List.getElem?_cons_succ, List.getElem?_cons_zero] at c26 c20
  rw [hb] at c20
  have HV := Lib.hid hv
  have b0 : (s.stage == 0) = false := by simpa using h0
  have b1 : (s.stage == 1) = false := by simpa using h1
  have hwh := fun W (hW : Upd none' w W) => cmd_whole b s jv bv dv W (h.upd hW (fun f => f)) hda
  rw [hw] at hwh
  have HW := Lib.hid hwh
  clear hwh
  have HR := Lib.hid hR
  clear hR hR0 hw hv
  go_enter Tryz.func95, Tryz.ntmps95
  go_wp2_with fail
  refine (HW.out _ (Upd.refl _ _)).mono ?_
  rintro e w1 ⟨rfl, hU1⟩
  have hv1 := HV.out.upd0 hU1
  have HV1 := Lib.hid hv1
  have d20 := hv1.cb.cell 20
  have d16 := hv1.cb.cell 16
  simp only [St.list, List.getElem?_cons_succ, List.getElem?_cons_zero] at d20 d16
  rw [hb] at d20
  rw [hen] at d16
  clear hv1 h
  go_wp2
  go_end0
  refine ⟨rfl, ?_⟩
  rw [HR.out]
  exact HV.out.post hU1
set_option maxRecDepth 100000 in
set_option maxHeartbeats 2000000 in
theorem ends_put_len (b : Nat) (s : St) (jv bv dv : Value) (w : World) (hv : ChipV w b s jv bv dv) (hda : s.op.inn = true → s.op.data = 1) (h0 : ¬ s.stage = 0) (h1 : ¬ s.stage = 1) (hw : s.whole = true) (hb : s.op.byte = 1) (hen : s.en = true) (hlen : ¬ s.data.length = 2) :
    Calls Tryz.prog 95 #[.pointer (some ⟨b, 0, none⟩)] w fun e w' => e = .returned (.tuple #[]) ∧ ChipPost b s.ends (chipSet b jv bv dv) w w' := by
  have hR0 : ¬ (s.stage = 0 ∨ s.stage = 1 ∨ s.whole = false) := by rw [hw]; simp [h0, h1]
  have hR : s.ends = s := by
    unfold St.ends
    rw [if_neg hR0, if_neg (show ¬ s.op.byte = 6 by rw [hb]; decide), if_neg (show ¬ s.op.byte = 4 by rw [hb]; decide), if_neg (show ¬ s.op.byte = 117 by rw [hb]; decide), if_neg (show ¬ s.op.byte = 122 by rw [hb]; decide), if_pos hb]
    rw [if_neg (fun e => hlen e.2)]
  have h := hv.cb
  have c26 := h.cell 26
  have c20 := h.cell 20
  simp only [St.list, List.getElem?_cons_succ, List.getElem?_cons_zero] at c26 c20
  rw [hb] at c20
  have HV := Lib.hid hv
  have b0 : (s.stage == 0) = false := by simpa using h0
  have b1 : (s.stage == 1) = false := by simpa using h1
  have hwh := fun W (hW : Upd none' w W) => cmd_whole b s jv bv dv W (h.upd hW (fun f => f)) hda
  rw [hw] at hwh
  have HW := Lib.hid hwh
  clear hwh
  have HR := Lib.hid hR
  clear hR hR0 hw hv
  go_enter Tryz.func95, Tryz.ntmps95
  go_wp2_with fail
  refine (HW.out _ (Upd.refl _ _)).mono ?_
  rintro e w1 ⟨rfl, hU1⟩
  have hv1 := HV.out.upd0 hU1
  have HV1 := Lib.hid hv1
  have d20 := hv1.cb.cell 20
  have d16 := hv1.cb.cell 16
  have d32 := hv1.cb.cell 32
  simp only [St.list, List.getElem?_cons_succ, List.getElem?_cons_zero] at d20 d16 d32
  rw [hb] at d20
  obtain ⟨da, dc, rfl, -⟩ := hv1.data.form
  rw [ints_len] at d32
  rw [hen] at d16
  have hlb : ((s.data.length : Int) == 2) = false := by simp; omega
  clear hv1 h
  go_wp2
  go_end0
  refine ⟨rfl, ?_⟩
  rw [HR.out]
  exact HV.out.post hU1
set_option maxRecDepth 100000 in
set_option maxHeartbeats 2000000 in
theorem ends_put (b : Nat) (s : St) (jv bv dv : Value) (w : World) (hv : ChipV w b s jv bv dv) (hda : s.op.inn = true → s.op.data = 1) (h0 : ¬ s.stage = 0) (h1 : ¬ s.stage = 1) (hw : s.whole = true) (hb : s.op.byte = 1) (hen : s.en = true) (x0 x1 : Int) (hd : s.data = [x0, x1]) (hx0 : 0 ≤ x0 ∧ x0 ≤ 255) (hx1 : 0 ≤ x1 ∧ x1 ≤ 255) :
    Calls Tryz.prog 95 #[.pointer (some ⟨b, 0, none⟩)] w fun e w' => e = .returned (.tuple #[]) ∧ ChipPost b s.ends (chipSet b jv bv dv) w w' := by
  have hR0 : ¬ (s.stage = 0 ∨ s.stage = 1 ∨ s.whole = false) := by rw [hw]; simp [h0, h1]
  obtain ⟨p, hp1, hp2⟩ := bit_of (x0 / 4) 4 (by omega)
  obtain ⟨q, hq1, hq2⟩ := bit_of (x1 / 2) 2 (by omega)
  have hR : s.ends = { s with prot := p, quad := q, en := false } := by
    unfold St.ends
    rw [if_neg hR0, if_neg (show ¬ s.op.byte = 6 by rw [hb]; decide), if_neg (show ¬ s.op.byte = 4 by rw [hb]; decide), if_neg (show ¬ s.op.byte = 117 by rw [hb]; decide), if_neg (show ¬ s.op.byte = 122 by rw [hb]; decide), if_pos hb]
    rw [if_pos ⟨hen, by rw [hd]; rfl⟩, hd]
    rw [show ([x0, x1] : List Int).getD 0 0 = x0 from rfl, show ([x0, x1] : List Int).getD 1 0 = x1 from rfl, hp1, hq1]
  have h := hv.cb
  have c26 := h.cell 26
  have c20 := h.cell 20
  simp only [St.list, List.getElem?_cons_succ, List.getElem?_cons_zero] at c26 c20
  rw [hb] at c20
  have HV := Lib.hid hv
  have b0 : (s.stage == 0) = false := by simpa using h0
  have b1 : (s.stage == 1) = false := by simpa using h1
  have hwh := fun W (hW : Upd none' w W) => cmd_whole b s jv bv dv W (h.upd hW (fun f => f)) hda
  rw [hw] at hwh
  have HW := Lib.hid hwh
  clear hwh
  have HR := Lib.hid hR
  clear hR hR0 hw hv
  go_enter Tryz.func95, Tryz.ntmps95
  go_wp2_with fail
  refine (HW.out _ (Upd.refl _ _)).mono ?_
  rintro e w1 ⟨rfl, hU1⟩
  have hv1 := HV.out.upd0 hU1
  have HV1 := Lib.hid hv1
  have d20 := hv1.cb.cell 20
  have d1 := hv1.cb.cell 1
  have d2 := hv1.cb.cell 2
  have d16 := hv1.cb.cell 16
  have d32 := hv1.cb.cell 32
  have e1 := hv1.cb.frozen 1
  have e2 := hv1.cb.frozen 2
  have e16 := hv1.cb.frozen 16
  simp only [St.list, List.getElem?_cons_succ, List.getElem?_cons_zero] at d20 d1 d2 d16 d32
  rw [hb] at d20
  have hdd := hv1.data
  rw [hd] at hdd
  obtain ⟨da, dc, rfl, -, hdn, hdf⟩ := hdd.form
  obtain ⟨ad, rfl⟩ : ∃ ad, da = some ad := by
    cases da with
    | none => exact absurd (hdn rfl).1 (by simp [ints])
    | some ad => exact ⟨ad, rfl⟩
  obtain ⟨gd, rfl, -, hgl, hcell, -⟩ := hdf ad rfl
  have x0c := hcell 0 (by simp [ints])
  have x1c := hcell 1 (by simp [ints])
  simp only [ints, List.map_cons, List.map_nil, List.getElem?_cons_zero, List.getElem?_cons_succ] at x0c x1c
  rw [show (ints [x0, x1]).length = 2 from rfl] at d32
  have hgb : gd ≠ b := (HV1.out.sd gd rfl).1
  rw [hen] at d16
  have a0 := and4_byte hx0.1 hx0.2
  have a1 := and2_byte hx1.1 hx1.2
  obtain ⟨v0, hv0⟩ : ∃ v0, x0 / 4 % 2 * 4 = v0 := ⟨_, rfl⟩
  obtain ⟨v1, hv1'⟩ : ∃ v1, x1 / 2 % 2 * 2 = v1 := ⟨_, rfl⟩
  rw [hv0] at a0 hp2
  rw [hv1'] at a1 hq2
  have HBf := Lib.hid (((hv1.cb.set 1 (.bool p)).set 2 (.bool q)).set 16 (.bool false))
  clear hv1 h hcell hdf hdd hdn hv0 hv1' hd hx0 hx1
  go_upto_region 15 with fail
  go_region
  go_wp2
  go_end0
  have hUs := (((Upd.refl (fun k => k = b) w1).setCell ⟨b, 1, none⟩ (.bool p) (fun _ => rfl)).setCell ⟨b, 2, none⟩ (.bool q) (fun _ => rfl)).setCell ⟨b, 16, none⟩ (.bool false) (fun _ => rfl)
  refine ⟨rfl, ?_⟩
  rw [HR.out]
  obtain ⟨S', hA, hS, hU⟩ := HV1.out.cbSet (t := { s with prot := p, quad := q, en := false }) HBf.out.drew hUs.drew rfl rfl rfl
  exact ⟨S', hA, fun k hk => (hS k hk).imp_right (fun e => Nat.le_trans hU1.size e), (hU1.mono (fun _ _ f => f.elim)).trans hU (fun _ _ e => e)⟩
end Go.Proofs.YteombggfmeilaaaGreat
namespace Go.Proofs.YteombggfmeilaaaGreat
open Go.RowKit
theorem ChipV.at {w : World} {b : Nat} {s : St} {jv bv dv : Value} (h : ChipV w b s jv bv dv) : ChipAt w b s (chipSet b jv bv dv) := ⟨jv, bv, dv, h, rfl⟩
/-- What starts has left, over a world in which a job was made. -/
theorem starts_post {w w1 W w2 : World} {b g : Nat} {s : St} {j : Job} {jv bv dv : Value} (hU1 : Upd none' w w1) (hUA : Upd none' w1 W) (hg : w1.heap.size ≤ g) (h : StartsPost b g s j jv bv dv W w2) (_ : ∀ k, chipSet b jv bv dv k → k < w.heap.size) : ChipPost b (s.starts j) (chipSet b jv bv dv) w w2 := by
  obtain ⟨jv', bv', hv, hset, hU⟩ := h
  have s1 := hU1.size
  refine ⟨_, hv.at, fun k hk => ?_, ?_⟩
  · rcases hset k hk with e | e
    · exact .inl e
    · exact .inr (by omega)
  · refine ((hU1.trans hUA (fun _ _ f => f)).mono (fun _ _ f => f.elim)).trans hU (fun k h1 h2 => ?_)
    rcases h2 with e | e
    · exact .inl e
    · omega
theorem starts_29 {W w2 : World} {b g : Nat} {s : St} {j : Job} {jv bv dv : Value} (h : StartsPost b g s j jv bv dv W w2) : w2.cell? ⟨b, 29, none⟩ = some (.int .i64 s.addr) := by
  obtain ⟨jv', bv', hv, _, _⟩ := h
  have h1 := hv.cb.cell 29
  simp only [St.list, List.getElem?_cons_succ, List.getElem?_cons_zero] at h1
  have h2 : (s.starts j).addr = s.addr := by
    unfold St.starts
    repeat' split
    all_goals rfl
  rw [h1, h2]
theorem addr_quo {a : Int} (h : 0 ≤ a) : a.tdiv 512 = a / 512 := Int.tdiv_eq_ediv_of_nonneg h
theorem addr_rem {a : Int} (h : 0 ≤ a) : a.tmod 32 = a % 32 := Int.tmod_eq_emod_of_nonneg h
set_option maxRecDepth 100000 in
set_option maxHeartbeats 2000000 in
theorem ends_erase (b : Nat) (s : St) (jv bv dv : Value) (w : World) (hv : ChipV w b s jv bv dv) (hda : s.op.inn = true → s.op.data = 1) (h0 : ¬ s.stage = 0) (h1 : ¬ s.stage = 1) (hw : s.whole = true) (hb : s.op.byte = 32) (had : 0 ≤ s.addr ∧ s.addr < 4096) (hwp : ∀ k, 0 ≤ s.wipes k ∧ s.wipes k ≤ 1048577) :
    Calls Tryz.prog 95 #[.pointer (some ⟨b, 0, none⟩)] w fun e w' => e = .returned (.tuple #[]) ∧ ChipPost b s.ends (chipSet b jv bv dv) w w' := by
  have hR0 : ¬ (s.stage = 0 ∨ s.stage = 1 ∨ s.whole = false) := by rw [hw]; simp [h0, h1]
  have hR : s.ends = s.starts ⟨s.addr / 512, 0, ⟨#[]⟩, 0, false⟩ := by
    unfold St.ends
    rw [if_neg hR0, if_neg (show ¬ s.op.byte = 6 by rw [hb]; decide), if_neg (show ¬ s.op.byte = 4 by rw [hb]; decide), if_neg (show ¬ s.op.byte = 117 by rw [hb]; decide), if_neg (show ¬ s.op.byte = 122 by rw [hb]; decide), if_neg (show ¬ s.op.byte = 1 by rw [hb]; decide), if_neg (show ¬ s.op.byte = 2 by rw [hb]; decide), if_pos hb]
  have h := hv.cb
  have c26 := h.cell 26
  have c20 := h.cell 20
  simp only [St.list, List.getElem?_cons_succ, List.getElem?_cons_zero] at c26 c20
  rw [hb] at c20
  have HV := Lib.hid hv
  have b0 : (s.stage == 0) = false := by simpa using h0
  have b1 : (s.stage == 1) = false := by simpa using h1
  have hwh := fun W (hW : Upd none' w W) => cmd_whole b s jv bv dv W (h.upd hW (fun f => f)) hda
  rw [hw] at hwh
  have HW := Lib.hid hwh
  clear hwh
  have HR := Lib.hid hR
  clear hR hR0 hw hv
  go_enter Tryz.func95, Tryz.ntmps95
  go_wp2_with fail
  refine (HW.out _ (Upd.refl _ _)).mono ?_
  rintro e w1 ⟨rfl, hU1⟩
  have hv1 := HV.out.upd0 hU1
  have HV1 := Lib.hid hv1
  have d20 := hv1.cb.cell 20
  have d29 := hv1.cb.cell 29
  simp only [St.list, List.getElem?_cons_succ, List.getElem?_cons_zero] at d20 d29
  rw [hb] at d20
  obtain ⟨q, hq⟩ : ∃ q, s.addr / 512 = q := ⟨_, rfl⟩
  have hqt : s.addr.tdiv 512 = q := by rw [addr_quo had.1, hq]
  have hq0 : 0 ≤ q ∧ q < 8 := by omega
  have hlt : ∀ k, chipSet b jv bv dv k → k < w1.heap.size := hv1.at.lt
  have hlt0 : ∀ k, chipSet b jv bv dv k → k < w.heap.size := HV.out.at.lt
  have HS := Lib.hid (chip_starts b w1.heap.size ⟨q, 0, ⟨#[]⟩, 0, false⟩ s jv bv dv (w1.alloc (.cells (jobCells ⟨q, 0, ⟨#[]⟩, 0, false⟩).toArray 152)) (hv1.upd0 ((Upd.refl none' w1).alloc _)) (fun e => by have := hlt _ e; omega) (Blk.new w1 _ _) had (.inr (by rw [← hq]; dsimp only; omega)) hwp)
  have HQ := Lib.hid hq
  have HLT := Lib.hid hlt0
  clear hv1 h hlt hlt0 hq hwp
  go_wp2_with fail
  refine HS.out.mono ?_
  rintro e w2 ⟨rfl, hpost⟩
  go_wp2
  go_end0
  refine ⟨rfl, ?_⟩
  rw [HR.out, HQ.out]
  exact starts_post hU1 ((Upd.refl none' w1).alloc _) (Nat.le_refl _) hpost HLT.out
set_option maxRecDepth 100000 in
set_option maxHeartbeats 2000000 in
theorem ends_prog_none (b : Nat) (s : St) (jv bv dv : Value) (w : World) (hv : ChipV w b s jv bv dv) (hda : s.op.inn = true → s.op.data = 1) (h0 : ¬ s.stage = 0) (h1 : ¬ s.stage = 1) (hw : s.whole = true) (hb : s.op.byte = 2) (hd : s.data = []) :
    Calls Tryz.prog 95 #[.pointer (some ⟨b, 0, none⟩)] w fun e w' => e = .returned (.tuple #[]) ∧ ChipPost b s.ends (chipSet b jv bv dv) w w' := by
  have hR0 : ¬ (s.stage = 0 ∨ s.stage = 1 ∨ s.whole = false) := by rw [hw]; simp [h0, h1]
  have hR : s.ends = s := by
    unfold St.ends
    rw [if_neg hR0, if_neg (show ¬ s.op.byte = 6 by rw [hb]; decide), if_neg (show ¬ s.op.byte = 4 by rw [hb]; decide), if_neg (show ¬ s.op.byte = 117 by rw [hb]; decide), if_neg (show ¬ s.op.byte = 122 by rw [hb]; decide), if_neg (show ¬ s.op.byte = 1 by rw [hb]; decide), if_pos hb]
    rw [if_pos hd]
  have h := hv.cb
  have c26 := h.cell 26
  have c20 := h.cell 20
  simp only [St.list, List.getElem?_cons_succ, List.getElem?_cons_zero] at c26 c20
  rw [hb] at c20
  have HV := Lib.hid hv
  have b0 : (s.stage == 0) = false := by simpa using h0
  have b1 : (s.stage == 1) = false := by simpa using h1
  have hwh := fun W (hW : Upd none' w W) => cmd_whole b s jv bv dv W (h.upd hW (fun f => f)) hda
  rw [hw] at hwh
  have HW := Lib.hid hwh
  clear hwh
  have HR := Lib.hid hR
  clear hR hR0 hw hv
  go_enter Tryz.func95, Tryz.ntmps95
  go_wp2_with fail
  refine (HW.out _ (Upd.refl _ _)).mono ?_
  rintro e w1 ⟨rfl, hU1⟩
  have hv1 := HV.out.upd0 hU1
  have HV1 := Lib.hid hv1
  have d20 := hv1.cb.cell 20
  have d32 := hv1.cb.cell 32
  simp only [St.list, List.getElem?_cons_succ, List.getElem?_cons_zero] at d20 d32
  rw [hb] at d20
  obtain ⟨da, dc, rfl, -⟩ := hv1.data.form
  rw [hd, show (ints []).length = 0 from rfl] at d32
  clear hv1 h
  go_wp2
  go_end0
  refine ⟨rfl, ?_⟩
  rw [HR.out]
  exact HV.out.post hU1
set_option maxRecDepth 100000 in
set_option maxHeartbeats 2000000 in
theorem ends_prog (b : Nat) (s : St) (jv bv dv : Value) (w : World) (hv : ChipV w b s jv bv dv) (hda : s.op.inn = true → s.op.data = 1) (h0 : ¬ s.stage = 0) (h1 : ¬ s.stage = 1) (hw : s.whole = true) (hb : s.op.byte = 2) (hd : ¬ s.data = []) (had : 0 ≤ s.addr ∧ s.addr < 4096) (hlen : s.data.length ≤ 1048577) (hwp : ∀ k, 0 ≤ s.wipes k ∧ s.wipes k ≤ 1048577) :
    Calls Tryz.prog 95 #[.pointer (some ⟨b, 0, none⟩)] w fun e w' => e = .returned (.tuple #[]) ∧ ChipPost b s.ends (chipSet b jv bv dv) w w' := by
  have hR0 : ¬ (s.stage = 0 ∨ s.stage = 1 ∨ s.whole = false) := by rw [hw]; simp [h0, h1]
  have hR : s.ends = s.starts ⟨-1, s.addr - s.addr % 32, ⟨(pageOf s.addr s.data).toArray⟩, 0, false⟩ := by
    unfold St.ends
    rw [if_neg hR0, if_neg (show ¬ s.op.byte = 6 by rw [hb]; decide), if_neg (show ¬ s.op.byte = 4 by rw [hb]; decide), if_neg (show ¬ s.op.byte = 117 by rw [hb]; decide), if_neg (show ¬ s.op.byte = 122 by rw [hb]; decide), if_neg (show ¬ s.op.byte = 1 by rw [hb]; decide), if_pos hb]
    rw [if_neg hd]
  have h := hv.cb
  have c26 := h.cell 26
  have c20 := h.cell 20
  simp only [St.list, List.getElem?_cons_succ, List.getElem?_cons_zero] at c26 c20
  rw [hb] at c20
  have HV := Lib.hid hv
  have b0 : (s.stage == 0) = false := by simpa using h0
  have b1 : (s.stage == 1) = false := by simpa using h1
  have hwh := fun W (hW : Upd none' w W) => cmd_whole b s jv bv dv W (h.upd hW (fun f => f)) hda
  rw [hw] at hwh
  have HW := Lib.hid hwh
  clear hwh
  have HR := Lib.hid hR
  clear hR hR0 hw hv
  go_enter Tryz.func95, Tryz.ntmps95
  go_wp2_with fail
  refine (HW.out _ (Upd.refl _ _)).mono ?_
  rintro e w1 ⟨rfl, hU1⟩
  have hv1 := HV.out.upd0 hU1
  have HV1 := Lib.hid hv1
  have d20 := hv1.cb.cell 20
  have d29 := hv1.cb.cell 29
  have d32 := hv1.cb.cell 32
  simp only [St.list, List.getElem?_cons_succ, List.getElem?_cons_zero] at d20 d29 d32
  rw [hb] at d20
  obtain ⟨da, dc, rfl, -⟩ := hv1.data.form
  rw [ints_len] at d32
  have hdl : 0 < s.data.length := List.length_pos_iff.2 hd
  have hrm := addr_rem had.1
  obtain ⟨r, hr⟩ : ∃ r, s.addr % 32 = r := ⟨_, rfl⟩
  have hr0 : 0 ≤ r ∧ r < 32 := by omega
  rw [hr] at hrm
  have hwr : IntKind.i64.wrap (s.addr - r) = s.addr - r := IntWalk.i64_in _ (by omega)
  obtain ⟨pg, hpg⟩ : ∃ pg : ByteArray, ⟨(pageOf s.addr s.data).toArray⟩ = pg := ⟨_, rfl⟩
  have hlt : ∀ k, chipSet b jv bv (.slice da (ints s.data).length dc) k → k < w1.heap.size := hv1.at.lt
  have HLT0 := Lib.hid HV.out.at.lt
  have HPG := Lib.hid (fun (W : World) (hW : Upd none' w1 W) => hpg ▸ cmd_page b s jv bv _ W (hv1.cb.upd hW (fun f => f)) (hv1.data.upd hW (fun _ _ f => f)) had hlen)
  have HST := Lib.hid (fun (W : World) (hW : Upd none' w1 W) => chip_starts b W.heap.size ⟨-1, s.addr - r, pg, 0, false⟩ s jv bv _ (W.alloc (.cells (jobCells ⟨-1, s.addr - r, pg, 0, false⟩).toArray 152)) (hv1.upd0 (hW.alloc _)) (fun e => by have := hlt _ e; have := hW.size; omega) (Blk.new W _ _) had (.inl rfl) hwp)
  have HLT := Lib.hid hlt
  have hbl := hv1.cb.lt
  have HCB := Lib.hid hv1.cb
  have HPQ := Lib.hid hpg
  clear hv1 h hlt hwp hpg
  go_upto_region 18 with fail
  go_region_held3 (fun w' => w'.cell? ⟨b, 29, none⟩ = some (.int .i64 s.addr)) (first | exact d29 | exact x29 | exact y29 | exact (by go_simp)) (first | (go_at_call 156; refine (HPG.out _ (Upd.refl none' w1).drew).mono ?_; rintro e w33 ⟨rfl, hU33⟩; have hU33' := (Upd.refl none' w1).drew.trans hU33 (fun _ _ f => f); have x29 := (HCB.out.upd hU33' (fun f => f)).cell 29; simp only [St.list, List.getElem?_cons_succ, List.getElem?_cons_zero] at x29; have x33 : b < w33.heap.size := (HCB.out.upd hU33' (fun f => f)).lt) | (go_at_call 155; (try rw [hwr]); refine (HST.out _ hU33').mono ?_; rintro e w34 ⟨rfl, hpost⟩; have y29 := starts_29 hpost))
  all_goals
    go_wp2
    go_end0
    refine ⟨rfl, ?_⟩
    rw [HR.out, hr, HPQ.out]
    exact starts_post hU1 (hU33'.alloc _) hU33'.size hpost HLT0.out
end Go.Proofs.YteombggfmeilaaaGreat
namespace Go.Proofs.YteombggfmeilaaaGreat
open Go.RowKit
theorem chip_ends (b : Nat) (s : St) (jv bv dv : Value) (w : World) (hv : ChipV w b s jv bv dv) (N : Int) (hI : s.Inv N) (hN : N ≤ 1048576) :
    Calls Tryz.prog 95 #[.pointer (some ⟨b, 0, none⟩)] w fun e w' => e = .returned (.tuple #[]) ∧ ChipPost b s.ends (chipSet b jv bv dv) w w' := by
  obtain ⟨c, hc⟩ := hI.op
  obtain ⟨o1, o2, o3, o4, o5, o6⟩ := op_facts c
  rw [← hc] at o1 o2 o3 o4 o5 o6
  have hlen := hI.len
  have hwp : ∀ k, 0 ≤ s.wipes k ∧ s.wipes k ≤ 1048577 := fun k => by have := hI.wipes k; omega
  by_cases hs : s.stage = 0 ∨ s.stage = 1 ∨ s.whole = false
  · have hR : s.ends = s := by unfold St.ends; rw [if_pos hs]
    rw [hR]
    exact ends_none b s jv bv dv w hv o2 hs
  · have h0 : ¬ s.stage = 0 := fun e => hs (.inl e)
    have h1 : ¬ s.stage = 1 := fun e => hs (.inr (.inl e))
    have hw : s.whole = true := by
      cases h : s.whole
      · exact absurd (.inr (.inr h)) hs
      · rfl
    by_cases n6 : s.op.byte = 6
    · exact ends_on b s jv bv dv w hv o2 h0 h1 hw n6
    by_cases n4 : s.op.byte = 4
    · exact ends_off b s jv bv dv w hv o2 h0 h1 hw n4
    by_cases n117 : s.op.byte = 117
    · cases hj : s.job with
      | none => exact ends_susp_none b s jv bv dv w hv o2 h0 h1 hw n117 hj
      | some j =>
        by_cases hsc : j.sector = -1
        · exact ends_susp_page b s jv bv dv w hv o2 h0 h1 hw n117 j hj hsc
        · exact ends_susp_job b s jv bv dv w hv o2 h0 h1 hw n117 j hj hsc
    by_cases n122 : s.op.byte = 122
    · cases hj : s.job with
      | none => exact ends_res_none b s jv bv dv w hv o2 h0 h1 hw n122 hj
      | some j => exact ends_res_job b s jv bv dv w hv o2 h0 h1 hw n122 j hj
    by_cases n1 : s.op.byte = 1
    · cases hen : s.en with
      | false => exact ends_put_dis b s jv bv dv w hv o2 h0 h1 hw n1 hen
      | true =>
        by_cases hl : s.data.length = 2
        · obtain ⟨x0, x1, hd⟩ : ∃ x0 x1, s.data = [x0, x1] := by
            match h : s.data, hl with
            | [x0, x1], _ => exact ⟨x0, x1, rfl⟩
          exact ends_put b s jv bv dv w hv o2 h0 h1 hw n1 hen x0 x1 hd (hI.data x0 (by rw [hd]; simp)) (hI.data x1 (by rw [hd]; simp))
        · exact ends_put_len b s jv bv dv w hv o2 h0 h1 hw n1 hen hl
    by_cases n2 : s.op.byte = 2
    · by_cases hd : s.data = []
      · exact ends_prog_none b s jv bv dv w hv o2 h0 h1 hw n2 hd
      · exact ends_prog b s jv bv dv w hv o2 h0 h1 hw n2 hd hI.addr (by omega) hwp
    by_cases n32 : s.op.byte = 32
    · exact ends_erase b s jv bv dv w hv o2 h0 h1 hw n32 hI.addr hwp
    by_cases n235 : s.op.byte = 235
    · exact ends_quad b s jv bv dv w hv o2 h0 h1 hw n235
    exact ends_other b s jv bv dv w hv o2 h0 h1 hw n6 n4 n117 n122 n1 n2 n32 n235
theorem St.Inv.set {s t : St} {N : Int} (h : s.Inv N) (e1 : t.a = s.a) (e2 : ∀ j, t.job = some j → j.Ok) (e3 : ∀ k, 0 ≤ t.wipes k ∧ t.wipes k ≤ N) (e4 : t.busy.length ≤ 16 ∧ ∀ d ∈ t.busy, 1 ≤ d ∧ d ≤ 400)
    (f1 : t.op = s.op) (f2 : t.stage = s.stage) (f3 : t.left = s.left) (f4 : t.got = s.got) (f5 : t.addr = s.addr) (f6 : t.mode = s.mode) (f7 : t.data = s.data) (f8 : t.told = s.told) (f9 : t.now = s.now) : t.Inv N :=
  ⟨by rw [e1]; exact h.size, e2, by rw [f5]; exact h.addr, by rw [f8]; exact h.told, by rw [f7]; exact h.len, by rw [f7]; exact h.data, by rw [f9]; exact h.now, by rw [f6]; exact h.mode, by rw [f1]; exact h.op, e3, e4, by
    have := h.part
    unfold St.Part at this ⊢
    rw [f1, f2, f3, f4]
    exact this⟩
theorem starts_inv {s : St} {N : Int} (h : s.Inv N) (j : Job) (hj : j.Form) : (s.starts j).Inv (N + 1) := by
  have hw : ∀ k, 0 ≤ s.wipes k ∧ s.wipes k ≤ N + 1 := fun k => by have := h.wipes k; omega
  have h' := h.mono (show N ≤ N + 1 by omega)
  unfold St.starts
  split
  · exact h'
  · split
    · exact h'.set rfl h.job hw h.busy rfl rfl rfl rfl rfl rfl rfl rfl rfl
    · refine h'.set rfl ?_ ?_ ?_ rfl rfl rfl rfl rfl rfl rfl rfl rfl
      · intro j' e
        simp only [Option.some.injEq] at e
        subst e
        refine ⟨hj, ?_⟩
        dsimp only
        cases hb : s.busy with
        | nil => exact ⟨by decide, by decide⟩
        | cons d ds => exact h.busy.2 d (by rw [hb]; simp)
      · intro k
        dsimp only
        split
        · have := h.wipes k; omega
        · exact hw k
      · dsimp only
        refine ⟨by have := h.busy.1; rw [List.length_tail]; omega, fun d hd => h.busy.2 d (List.mem_of_mem_tail hd)⟩
theorem ends_inv {s : St} {N : Int} (h : s.Inv N) : s.ends.Inv (N + 1) := by
  have h' := h.mono (show N ≤ N + 1 by omega)
  have ha := h.addr
  have same : ∀ t : St, t.a = s.a → (∀ j, t.job = some j → j.Ok) → t.wipes = s.wipes → t.busy = s.busy → t.op = s.op → t.stage = s.stage → t.left = s.left → t.got = s.got → t.addr = s.addr → t.mode = s.mode → t.data = s.data → t.told = s.told → t.now = s.now → t.Inv (N + 1) :=
    fun t e1 e2 e3 e4 f1 f2 f3 f4 f5 f6 f7 f8 f9 => h'.set e1 e2 (by rw [e3]; exact h'.wipes) (by rw [e4]; exact h'.busy) f1 f2 f3 f4 f5 f6 f7 f8 f9
  unfold St.ends
  split
  · exact h'
  split
  · exact same _ rfl h.job rfl rfl rfl rfl rfl rfl rfl rfl rfl rfl rfl
  split
  · exact same _ rfl h.job rfl rfl rfl rfl rfl rfl rfl rfl rfl rfl rfl
  split
  · cases hj : s.job with
    | none => exact h'
    | some j =>
      dsimp only
      split
      · exact h'
      · refine same _ rfl ?_ rfl rfl rfl rfl rfl rfl rfl rfl rfl rfl rfl
        intro j' e
        simp only [Option.some.injEq] at e
        subst e
        exact h.job j hj
  split
  · cases hj : s.job with
    | none => exact h'
    | some j =>
      refine same _ rfl ?_ rfl rfl rfl rfl rfl rfl rfl rfl rfl rfl rfl
      intro j' e
      simp only [Option.some.injEq] at e
      subst e
      exact h.job j hj
  split
  · split
    · exact same _ rfl h.job rfl rfl rfl rfl rfl rfl rfl rfl rfl rfl rfl
    · exact h'
  split
  · split
    · exact h'
    · refine starts_inv h _ (.inl ⟨rfl, ?_, ?_, ?_⟩)
      · dsimp only; omega
      · dsimp only; omega
      · simp [ByteArray.size, page_len]
  split
  · refine starts_inv h _ (.inr ⟨?_, ?_⟩) <;> dsimp only <;> omega
  split
  · exact same _ rfl h.job rfl rfl rfl rfl rfl rfl rfl rfl rfl rfl rfl
  · exact h'
theorem deselect_inv {s : St} {N : Int} (h : s.Inv N) : s.deselect.Inv (N + 1) :=
  ends_inv (s := { s with sel := false }) (h.set rfl h.job h.wipes h.busy rfl rfl rfl rfl rfl rfl rfl rfl rfl)
set_option maxHeartbeats 1000000 in
theorem chip_deselect (b : Nat) (s : St) (S : Nat → Prop) (w : World) (hA : ChipAt w b s S) (N : Int) (hI : s.Inv N) (hN : N ≤ 1048576) (hsel : s.sel = true) :
    Calls Tryz.prog 19 #[.pointer (some ⟨b, 0, none⟩)] w fun e w' => e = .returned (.int .i64 0) ∧ ChipPost b s.deselect S w w' := by
  obtain ⟨jv, bv, dv, hv, rfl⟩ := hA
  have c15 := hv.cb.cell 15
  have f15 := hv.cb.frozen 15
  simp only [St.list, List.getElem?_cons_succ, List.getElem?_cons_zero] at c15
  rw [hsel] at c15
  have hU1 : Upd (fun k => k = b) w (w.setCell ⟨b, 15, none⟩ (.bool false)) := (Upd.refl _ w).setCell ⟨b, 15, none⟩ _ (fun _ => rfl)
  have hv1 : ChipV (w.setCell ⟨b, 15, none⟩ (.bool false)) b { s with sel := false } jv bv dv :=
    ⟨hv.cb.set 15 (.bool false), hv.job.upd hU1 (fun g hg => hv.sj g hg), hv.busy.upd hU1 (fun k _ hk => (hv.sb k hk).1), fun k hk => Nat.lt_of_lt_of_le (hv.busyLt k hk) hU1.size, hv.data.upd hU1 (fun k hk => (hv.sd k hk).1), hv.sj, hv.sb, hv.sd⟩
  have HC := Lib.hid (chip_ends b _ jv bv dv _ hv1 N (hI.set rfl hI.job hI.wipes hI.busy rfl rfl rfl rfl rfl rfl rfl rfl rfl) hN)
  have HU := Lib.hid hU1
  clear hv hv1 hU1
  go_enter Tryz.func19, Tryz.ntmps19
  go_wp2_with fail
  refine HC.out.mono ?_
  rintro e w2 ⟨rfl, S', hA, hS, hU2⟩
  go_wp2
  go_ret
  exact ⟨rfl, S', hA, fun k hk => (hS k hk).imp_right (fun e => Nat.le_trans HU.out.size e), (HU.out.mono (fun k _ e => .inl e)).trans hU2 (fun _ _ e => e)⟩
theorem chip_deselect_no (b : Nat) (s : St) (S : Nat → Prop) (w : World) (hA : ChipAt w b s S) (hsel : s.sel = false) :
    Calls Tryz.prog 19 #[.pointer (some ⟨b, 0, none⟩)] w fun e w' => e = .returned (.int .i64 600) ∧ w = w' := by
  obtain ⟨jv, bv, dv, hv, rfl⟩ := hA
  have c15 := hv.cb.cell 15
  simp only [St.list, List.getElem?_cons_succ, List.getElem?_cons_zero] at c15
  rw [hsel] at c15
  go_enter Tryz.func19, Tryz.ntmps19
  go_wp2
  go_ret
  exact ⟨rfl, rfl⟩
theorem chip_cells (b : Nat) (s : St) (S : Nat → Prop) (w : World) (hA : ChipAt w b s S) :
    Calls Tryz.prog 34 #[.pointer (some ⟨b, 0, none⟩)] w fun e w' => e = .returned (.string s.a) ∧ w = w' := by
  obtain ⟨jv, bv, dv, hv, rfl⟩ := hA
  have c0 := hv.cb.cell 0
  simp only [St.list, List.getElem?_cons_zero] at c0
  go_enter Tryz.func34, Tryz.ntmps34
  go_wp2
  go_ret
  exact ⟨rfl, rfl⟩
theorem chip_clock_bad (b : Nat) (x : Int) (w : World) (hx : x < 0 ∨ 15 < x) :
    Calls Tryz.prog 21 #[.pointer (some ⟨b, 0, none⟩), .int .i64 x] w fun e w' => e = .returned (.tuple #[.int .i64 0, .int .i64 600]) ∧ w = w' := by
  rcases hx with hx | hx
  all_goals
    go_enter Tryz.func21, Tryz.ntmps21
    go_wp2
    go_ret2
    exact ⟨rfl, rfl⟩
theorem chip_stat (b : Nat) (s : St) (S : Nat → Prop) (w : World) (hA : ChipAt w b s S) :
    Calls Tryz.prog 30 #[.pointer (some ⟨b, 0, none⟩)] w fun e w' => e = .returned (.tuple #[.int .i64 s.first, .int .i64 s.second]) ∧ Upd none' w w' := by
  obtain ⟨jv, bv, dv, hv, rfl⟩ := hA
  exact chip_status b s jv bv dv w hv.cb hv.job
/-- What holds of a chip at all times: a command's part where one is under way. -/
def St.InvW (s : St) (N : Int) : Prop := s.InvB N ∧ (s.sel = true → s.Part)
theorem St.InvW.inv {s : St} {N : Int} (h : s.InvW N) (hs : s.sel = true) : s.Inv N := h.1.inv (h.2 hs)
theorem St.Inv.w {s : St} {N : Int} (h : s.Inv N) : s.InvW N := ⟨h.b, fun _ => h.part⟩
theorem St.InvW.mono {s : St} {N M : Int} (h : s.InvW N) (hm : N ≤ M) : s.InvW M := ⟨h.1.mono hm, h.2⟩
theorem new_inv (a : ByteArray) (ha : a.size = 4096) : (St.new a).InvW 0 :=
  ⟨⟨ha, fun _ e => (by cases e), ⟨Int.le_refl 0, show (0 : Int) < 4096 by decide⟩, ⟨Int.le_refl 0, Int.le_refl 0⟩, Int.le_refl 0, fun x hx => (by cases hx), ⟨Int.le_refl 0, show (0 : Int) ≤ 255 by decide⟩, ⟨Int.le_refl 0, show (0 : Int) ≤ 255 by decide⟩, ⟨0, rfl⟩, fun _ => ⟨Int.le_refl 0, Int.le_refl 0⟩, ⟨show (0 : Nat) ≤ 16 by decide, fun x hx => (by cases hx)⟩⟩, fun e => (by cases e)⟩
/-- A part that any chip has, to borrow what is said of whole ones. -/
def St.plain (s : St) : St := { s with stage := 1 }
theorem St.InvB.plain {s : St} {N : Int} (h : s.InvB N) : s.plain.Inv N := ⟨h.size, h.job, h.addr, h.told, h.len, h.data, h.now, h.mode, h.op, h.wipes, h.busy, .inr (.inl rfl)⟩
theorem pass_plain (s : St) : s.pass.plain = s.plain.pass := by
  unfold St.pass St.plain
  dsimp only
  repeat' split
  all_goals first | rfl | (simp_all)
theorem pass_invB {s : St} {N : Int} (h : s.InvB N) : s.pass.InvB N := by
  have := (pass_inv h.plain).b
  rw [← pass_plain] at this
  exact ⟨this.size, this.job, this.addr, this.told, this.len, this.data, this.now, this.mode, this.op, this.wipes, this.busy⟩
theorem clock_invW {s : St} {N : Int} (h : s.InvW N) (x : Int) : (s.clock x).1.InvW (N + 1) := by
  cases hs : s.sel with
  | true => exact (clock_inv (h.inv hs) x).w
  | false =>
    have e : s.pass.sel = false := by rw [(pass_keeps s).2.2, hs]
    have hR : s.clock x = (s.pass, 15) := by unfold St.clock; dsimp only; rw [e]; rfl
    rw [hR]
    exact ⟨(pass_invB h.1).mono (by omega), fun e' => by dsimp only at e'; rw [e] at e'; cases e'⟩
theorem select_invW {s : St} {N : Int} (h : s.InvW N) : s.select.InvW N := by
  have h0 : s.plain.sel0 = s.sel0 := rfl
  have h1 := sel0_inv h.1.plain
  rw [h0] at h1
  rw [select_eq]
  split
  · exact (begins_inv h1.b _).w
  · exact h1.w
theorem deselect_invW {s : St} {N : Int} (h : s.InvW N) (hs : s.sel = true) : s.deselect.InvW (N + 1) := (deselect_inv (h.inv hs)).w
theorem chip_clockW (ht : TableSaid) (b : Nat) (x : Int) (s : St) (S : Nat → Prop) (w : World) (h : ChipAt w b s S) (N : Int) (hI : s.InvW N) (hN : N ≤ 1048576) (hx : 0 ≤ x ∧ x ≤ 15) :
    Calls Tryz.prog 21 #[.pointer (some ⟨b, 0, none⟩), .int .i64 x] w fun e w' => e = .returned (.tuple #[.int .i64 (s.clock x).2, .int .i64 0]) ∧ ChipPost b (s.clock x).1 S w w' := by
  cases hs : s.sel with
  | true => exact chip_clock ht b x s S w h N (hI.inv hs) hN hx
  | false =>
    obtain ⟨jv, bv, dv, hv, rfl⟩ := h
    have hse : s.pass.sel = false := by rw [(pass_keeps s).2.2, hs]
    have HR := Lib.hid (show s.clock x = (s.pass, 15) by unfold St.clock; dsimp only; rw [hse]; rfl)
    have HV := Lib.hid hv
    go_enter Tryz.func21, Tryz.ntmps21
    go_wp2_with fail
    refine (chip_pass b s jv bv dv _ hv.cb hv.job hI.1.job hI.1.size hv.jb).mono ?_
    rintro e w1 ⟨rfl, jv', hB1, hJ1, hjj, hU1⟩
    obtain ⟨hv1, hset⟩ := HV.out.pass hB1 hJ1 hjj hU1
    have c15 := hB1.cell 15
    simp only [St.list, List.getElem?_cons_succ, List.getElem?_cons_zero] at c15
    rw [hse] at c15
    have HV1 := Lib.hid hv1
    clear hv hv1 hB1 hJ1
    go_wp2
    go_ret2
    rw [HR.out]
    exact ⟨rfl, chipSet b jv' bv dv, ⟨jv', bv, dv, HV1.out, rfl⟩, fun k hk => .inl (hset k hk), hU1.mono (fun k _ e => e.elim .inl (fun e => .inr (.inl e)))⟩
end Go.Proofs.YteombggfmeilaaaGreat
namespace Go.Proofs.YteombggfmeilaaaGreat
open Go.RowKit
set_option maxHeartbeats 1000000 in
theorem chip_new (a : ByteArray) (w : World) (ha : a.size = 4096) :
    Calls Tryz.prog 14 #[.string a] w fun e w' => ∃ b S, e = .returned (.tuple #[.pointer (some ⟨b, 0, none⟩), .int .i64 0]) ∧ ChipAt w' b (St.new a) S ∧ (∀ k, S k → w.heap.size ≤ k) ∧ Upd none' w w' := by
  have hm := cell_may a w ha
  go_enter Tryz.func14, Tryz.ntmps14
  go_wp2_with fail
  refine hm.mono ?_
  rintro e w1 ⟨rfl, hw1⟩
  go_wp2
  go_ret2
  have hB := Blk.new w ((St.new a).list (.pointer none) (.slice none 0 0) (.slice none 0 0)) 142
  refine ⟨w.heap.size, _, rfl, ⟨.pointer none, .slice none 0 0, .slice none 0 0, ⟨hB, rfl, RS.nil _, fun k hk => (by simp [Value.ownBlock] at hk), Row.nil _ _, fun k hk => (by cases hk), fun k hk => (by simp [Value.ownBlock] at hk), fun k hk => (by simp [Value.ownBlock] at hk)⟩, rfl⟩, ?_, (Upd.refl none' w).alloc _⟩
  rintro k (e | e | e | e)
  · omega
  · cases e
  · simp [Value.ownBlock] at e
  · simp [Value.ownBlock] at e
theorem cell_may_no (s : ByteArray) (w : World) (hs : ¬ s.size = 4096) :
    Calls Tryz.prog 90 #[.string s] w fun e w' => e = .returned (.bool false) ∧ w' = w := by
  have hb : ((s.size : Int) == 4096) = false := by simp; omega
  go_enter Tryz.func90, Tryz.ntmps90
  go_wp2
  go_ret
  exact ⟨rfl, rfl⟩
theorem chip_new_no (a : ByteArray) (w : World) (ha : ¬ a.size = 4096) :
    Calls Tryz.prog 14 #[.string a] w fun e w' => e = .returned (.tuple #[.pointer none, .int .i64 600]) ∧ w = w' := by
  have hm := cell_may_no a w ha
  go_enter Tryz.func14, Tryz.ntmps14
  go_wp2_with fail
  refine hm.mono ?_
  rintro e w1 ⟨rfl, hw1⟩
  go_wp2
  go_ret2
  exact ⟨rfl, rfl⟩
def badD (x : Int) : Bool := decide (x < 1 ∨ 400 < x)
theorem next_bad (x : Int) (w : World) :
    Calls Tryz.prog 103 #[.int .i64 x] w fun e w' => e = .returned (.bool (badD x)) ∧ w = w' := by
  by_cases h1 : x < 1
  · go_enter Tryz.func103, Tryz.ntmps103
    go_wp2
    go_ret
    exact ⟨by rw [show badD x = true from decide_eq_true (.inl h1)]; rfl, rfl⟩
  · by_cases h2 : 400 < x
    · go_enter Tryz.func103, Tryz.ntmps103
      go_wp2
      go_ret
      exact ⟨by rw [show badD x = true from decide_eq_true (.inr h2)]; rfl, rfl⟩
    · go_enter Tryz.func103, Tryz.ntmps103
      go_wp2
      go_ret
      exact ⟨by rw [show badD x = false from decide_eq_false (by omega)]; rfl, rfl⟩
def cloV : Value := .func (.func 103) #[] #[]
set_option maxHeartbeats 1000000 in
theorem index_func (w : World) (v : Value) (xs : List Int) (h : RS w v (ints xs)) :
    Calls Tryz.prog 163 #[v, cloV] w fun e w' => (∃ r : Int, e = .returned (.int .i64 r) ∧ (xs.any badD = true → 0 ≤ r) ∧ (xs.any badD = false → r = -1)) ∧ w = w' := by
  obtain ⟨h1, a, cap, rfl, h4, h5⟩ := h
  rw [ints_len] at h1 h4 h5 ⊢
  unfold cloV
  go_enter Tryz.func163, Tryz.ntmps163
  go_wp2_with fail
  go_loopw [8] (fun iv wr => ∃ i : Nat, i ≤ xs.length ∧ iv = .int .i64 i ∧ Hid (w = wr) ∧ ∀ j, j < i → badD (xs.getD j 0) = false) (fun iv _ => xs.length - (intOf iv).toNat)
  case atStart => exact ⟨0, by omega, rfl, Lib.hid rfl, fun j hj => by omega⟩
  case round =>
    obtain ⟨i, hi, rfl, hw, hno⟩ := hrel
    by_cases hlt : i < xs.length
    · obtain ⟨bb, oo, rfl, hbb, hcc⟩ := h5 (by intro h; simp [ints] at h; simp [h] at hlt)
      have hcell : wr.cell? ⟨bb, oo + i, none⟩ = some (.int .i64 (xs.getD i 0)) := by
        rw [← hw.out, hcc i hlt, ints_at _ _ hlt]
      clear hcc
      obtain ⟨y, hy⟩ : ∃ y, xs.getD i 0 = y := ⟨_, rfl⟩
      rw [hy] at hcell
      have HY := Lib.hid hy
      clear hy
      have hmem : y ∈ xs := by rw [← HY.out, List.getD_eq_getElem?_getD, List.getElem?_eq_getElem hlt]; exact List.getElem_mem hlt
      cases hb : badD y with
      | true =>
        have hany : xs.any badD = true := List.any_eq_true.2 ⟨y, hmem, hb⟩
        have HA := Lib.hid hany
        have hnb := hb ▸ next_bad y wr
        clear hany hmem
        go_wp2_with (go_at_call 103; refine hnb.mono ?_; rintro e w' ⟨rfl, rfl⟩)
        go_ret
        exact ⟨⟨_, rfl, fun _ => by omega, fun e => by rw [HA.out] at e; cases e⟩, hw.out⟩
      | false =>
        have hnb := hb ▸ next_bad y wr
        clear hmem
        go_wp2_with (go_at_call 103; refine hnb.mono ?_; rintro e w' ⟨rfl, rfl⟩)
        refine ⟨?rel, ?measure⟩
        case rel => exact ⟨i + 1, by omega, by go_num, hw, fun j hj => by
          rcases Nat.lt_succ_iff_lt_or_eq.1 hj with h | h
          · exact hno j h
          · subst h; rw [HY.out]; exact hb⟩
        case measure => simp [intOf]; omega
    · have hieq : i = xs.length := by omega
      subst hieq
      go_wp2
      go_ret
      refine ⟨⟨_, rfl, fun e => ?_, fun _ => rfl⟩, hw.out⟩
      obtain ⟨y, hy, hb⟩ := List.any_eq_true.1 e
      obtain ⟨j, hj, rfl⟩ := List.getElem_of_mem hy
      have := hno j hj
      rw [List.getD_eq_getElem?_getD, List.getElem?_eq_getElem hj] at this
      simp only [Option.getD_some] at this
      rw [hb] at this
      cases this
theorem contains_func (w : World) (v : Value) (xs : List Int) (h : RS w v (ints xs)) :
    Calls Tryz.prog 104 #[v, cloV] w fun e w' => e = .returned (.bool (xs.any badD)) ∧ w = w' := by
  have hi := index_func w v xs h
  obtain ⟨_, a, cap, rfl, -⟩ := h
  unfold cloV at hi ⊢
  go_enter Tryz.func104, Tryz.ntmps104
  go_wp2_with fail
  refine hi.mono ?_
  rintro e w1 ⟨⟨r, rfl, hr1, hr2⟩, rfl⟩
  cases hb : xs.any badD with
  | true =>
    have := hr1 hb
    clear hr1 hr2
    go_wp2
    go_ret
    exact ⟨by rw [hb]; rfl, rfl⟩
  | false =>
    have := hr2 hb
    subst this
    clear hr1 hr2
    go_wp2
    go_ret
    exact ⟨by rw [hb]; rfl, rfl⟩
theorem cells_add {w : World} {b o n : Nat} {vs : List Value} (hb : b < w.heap.size) (ob : Obj) (hn : vs.length = n) (hc : ∀ j, j < n → w.cell? ⟨b, o + j, none⟩ = vs[j]?) : ∀ j u, vs[j]? = some u → (w.alloc ob).cell? ((⟨b, o, none⟩ : Addr).add j) = some u := by
  intro j u hu
  have hj : j < n := by rw [← hn]; exact (List.getElem?_eq_some_iff.1 hu).1
  have ea : (⟨b, o, none⟩ : Addr).add j = ⟨b, o + j, none⟩ := by unfold Addr.add; split <;> simp_all
  rw [ea, World.cell?_alloc_lt _ _ _ hb, hc j hj]
  exact hu
theorem clone_ints (w : World) (v : Value) (xs : List Int) (h : RS w v (ints xs)) (hn : xs ≠ []) (hl : xs.length ≤ 4096) :
    Calls Tryz.prog 105 #[v] w fun e w' => ∃ v', e = .returned v' ∧ Row w' 3 v' (ints xs) ∧ (∀ k, v'.ownBlock = some k → w.heap.size ≤ k) ∧ Upd none' w w' := by
  obtain ⟨h1, a, cap, rfl, h4, h5⟩ := h
  have hlen : (ints xs).length = xs.length := by simp [ints]
  obtain ⟨b, o, rfl, hb, hc⟩ := h5 (by simpa [ints] using hn)
  rw [hlen] at h1 h4 hc ⊢
  have HC := Lib.hid (cells_add hb (.cells #[] 3) hlen hc)
  clear h5 hc
  have hnil : ∀ W, (binOp .eql 33 (.slice (some ⟨b, o, none⟩) xs.length cap) (.slice none 0 0)).run Tryz.prog W = .ok (.bool false) W := fun W => Lib.run_eql_slice_nil W _ _ _ _ _ _ _ Tryz.underlying33
  go_enter Tryz.func105, Tryz.ntmps105
  go_wp2_with (at_builtin; go_must (refine wpList_appS rfl _ _ 33 rfl 3 (.int .i64 0) 8 Tryz.underlying33 info_int rfl w.heap.size (.slice (some ⟨w.heap.size, 0, none⟩) 0 0) 0 [] rfl (own_empty w 3) _ ⟨b, o, none⟩ xs.length _ (ints xs) rfl rfl (by simp [ints]) HC.out (ints_one xs) (by omega) (by omega) (by simp) ?_); intro v' w1 hO1 hU1)
  have hU1' : Upd none' w w1 := ((Upd.refl none' w).alloc _).trans hU1 (fun k h1 h2 => by simp [Value.ownBlock] at h2; omega)
  obtain ⟨hR1, hbase⟩ := Row.of_own hO1
  go_ret
  exact ⟨_, rfl, hR1, hbase, hU1'⟩
set_option maxHeartbeats 1000000 in
theorem chip_next (b : Nat) (s : St) (S : Nat → Prop) (w : World) (hA : ChipAt w b s S) (v : Value) (xs : List Int) (h : RS w v (ints xs)) (hne : xs ≠ []) (hl : xs.length ≤ 16) (hbad : xs.any badD = false) :
    Calls Tryz.prog 24 #[.pointer (some ⟨b, 0, none⟩), v] w fun e w' => e = .returned (.int .i64 0) ∧ ChipPost b { s with busy := xs } S w w' := by
  have hc := contains_func w v xs h
  rw [hbad] at hc
  have hcl := clone_ints w v xs h hne (by omega)
  obtain ⟨jv, bv, dv, hv, rfl⟩ := hA
  have c19 := hv.cb.cell 19
  have f19 := hv.cb.frozen 19
  simp only [St.list, List.getElem?_cons_succ, List.getElem?_cons_zero] at c19
  have HV := Lib.hid hv
  have hlt := hv.cb.lt
  obtain ⟨_, a, cap, rfl, -⟩ := h
  rw [ints_len] at hc hcl ⊢
  unfold cloV at hc
  clear hv
  go_enter Tryz.func24, Tryz.ntmps24
  go_wp2_with (first | (go_at_call 104; refine hc.mono ?_; rintro e w' ⟨rfl, rfl⟩) | (go_at_call 105; refine hcl.mono ?_; rintro e w1 ⟨v', rfl, hR, hf, hU⟩; obtain ⟨va, na, rfl, -⟩ := hR.form; have hv1 := ChipV.upd0 HV.out hU; have d19 := hv1.cb.cell 19; have g19 := hv1.cb.frozen 19; simp only [St.list, List.getElem?_cons_succ, List.getElem?_cons_zero] at d19; have HV1 := Lib.hid hv1))
  go_ret
  have hUs := (Upd.refl (fun k => k = b) w1).setCell ⟨b, 19, none⟩ (.slice va (ints xs).length na) (fun _ => rfl)
  have hv1 := HV1.out
  have hown : ∀ k, (Value.slice va (ints xs).length na).ownBlock = some k → k ≠ b ∧ jv ≠ .pointer (some ⟨k, 0, none⟩) ∧ dv.ownBlock ≠ some k := by
    intro k hk
    have h1 := hf k hk
    refine ⟨by omega, fun e => ?_, fun e => ?_⟩
    · have := HV.out.job.lt k e; omega
    · have := HV.out.data.lt k e; omega
  have hR2 := hR.upd hUs (fun k hk => (hown k hk).1)
  refine ⟨rfl, chipSet b jv (.slice va (ints xs).length na) dv, ⟨jv, _, dv, ⟨hv1.cb.set 19 _, hv1.job.upd hUs (fun k hk => hv1.sj k hk), hR2.rs (by rw [ints_len]; omega), fun k hk => hR2.lt k hk, hv1.data.upd hUs (fun k hk => (hv1.sd k hk).1), hv1.sj, fun k hk => ⟨(hown k hk).1, (hown k hk).2.1⟩, fun k hk => ⟨(hv1.sd k hk).1, (hv1.sd k hk).2.1, fun e => (hown k e).2.2 hk⟩⟩, rfl⟩, ?_, ?_⟩
  · rintro k (e | e | e | e)
    · exact .inl (.inl e)
    · exact .inl (.inr (.inl e))
    · exact .inr (hf k e)
    · exact .inl (.inr (.inr (.inr e)))
  · exact (hU.mono (fun _ _ f => f.elim)).trans (hUs.mono (T := chipSet b jv bv dv) (fun k _ e => .inl e)) (fun _ _ e => e)
theorem chip_next_no (b : Nat) (w : World) (v : Value) (xs : List Int) (h : RS w v (ints xs)) (hl : xs.length ≤ 16) (hbad : xs.any badD = true) :
    Calls Tryz.prog 24 #[.pointer (some ⟨b, 0, none⟩), v] w fun e w' => e = .returned (.int .i64 600) ∧ w = w' := by
  have hc := contains_func w v xs h
  rw [hbad] at hc
  obtain ⟨_, a, cap, rfl, -⟩ := h
  rw [ints_len] at hc ⊢
  unfold cloV at hc
  go_enter Tryz.func24, Tryz.ntmps24
  go_wp2_with (go_at_call 104; refine hc.mono ?_; rintro e w' ⟨rfl, rfl⟩)
  go_ret
  exact ⟨rfl, rfl⟩
end Go.Proofs.YteombggfmeilaaaGreat
