/- The walk over ends: the status is put. -/
import Derived.Test.YtbflnpkgbpckfaaGreatChipE
namespace Go.Proofs.YtbflnpkgbpckfaaGreat
open Go.RowKit
theorem and4_byte {x : Int} (h0 : 0 ≤ x) (h1 : x ≤ 255) : bits .and .i64 x 4 = x / 4 % 2 * 4 := by
  have key : ∀ n : Fin 256, bits .and .i64 ((n.val : Nat) : Int) 4 = ((n.val : Nat) : Int) / 4 % 2 * 4 := by decide +kernel
  have := key ⟨x.toNat, by omega⟩
  rw [show (((⟨x.toNat, by omega⟩ : Fin 256).val : Nat) : Int) = x by dsimp only; omega] at this
  exact this
theorem and2_byte {x : Int} (h0 : 0 ≤ x) (h1 : x ≤ 255) : bits .and .i64 x 2 = x / 2 % 2 * 2 := by
  have key : ∀ n : Fin 256, bits .and .i64 ((n.val : Nat) : Int) 2 = ((n.val : Nat) : Int) / 2 % 2 * 2 := by decide +kernel
  have := key ⟨x.toNat, by omega⟩
  rw [show (((⟨x.toNat, by omega⟩ : Fin 256).val : Nat) : Int) = x by dsimp only; omega] at this
  exact this
theorem bit_of (v : Int) (k : Int) (h : v % 2 * k = 0 ↔ v % 2 = 0) : ∃ p : Bool, decide (v % 2 = 1) = p ∧ (v % 2 * k != 0) = p := by
  refine ⟨_, rfl, ?_⟩
  rcases (show v % 2 = 0 ∨ v % 2 = 1 by omega) with e | e
  · have e2 := h.2 e
    rw [e2, e]; rfl
  · have : ¬ v % 2 * k = 0 := fun h' => by have := h.1 h'; omega
    rw [decide_eq_true e]
    simpa using this
set_option maxRecDepth 100000 in
set_option maxHeartbeats 2000000 in
theorem ends_put_dis (b : Nat) (s : St) (jv bv dv : Value) (w : World) (hv : ChipV w b s jv bv dv) (hda : s.op.inn = true → s.op.data = 1) (h0 : ¬ s.stage = 0) (h1 : ¬ s.stage = 1) (hw : s.whole = true) (hb : s.op.byte = 1) (hen : s.en = false) :
    Calls Tryz.prog 96 #[.pointer (some ⟨b, 0, none⟩)] w fun e w' => e = .returned (.tuple #[]) ∧ ChipPost b s.ends (chipSet b jv bv dv) w w' := by
  have hR0 : ¬ (s.stage = 0 ∨ s.stage = 1 ∨ s.whole = false) := by rw [hw]; simp [h0, h1]
  have hR : s.ends = s := by
    unfold St.ends
    rw [if_neg hR0, if_neg (show ¬ s.op.byte = 6 by rw [hb]; decide), if_neg (show ¬ s.op.byte = 4 by rw [hb]; decide), if_neg (show ¬ s.op.byte = 117 by rw [hb]; decide), if_neg (show ¬ s.op.byte = 122 by rw [hb]; decide), if_pos hb]
    rw [if_neg (by rw [hen]; simp)]
  have h := hv.cb
  have c26 := h.cell 26
  have c20 := h.cell 20
  simp only [St.list, List.getElem?_cons_succ, List.getElem?_cons_zero] at c26 c20
  rw [hb] at c20
  have HV := Lib.hid hv
  have b0 : (s.stage == 0) = false := by simpa using h0
  have b1 : (s.stage == 1) = false := by simpa using h1
  have hwh := fun W (hW : Upd none' w W) => cmd_whole b s jv bv dv W (h.upd hW (fun f => f)) hda
  rw [hw] at hwh
  have HW := Lib.hid hwh
  clear hwh
  have HR := Lib.hid hR
  clear hR hR0 hw hv
  go_enter Tryz.func96, Tryz.ntmps96
  go_wp2_with fail
  refine (HW.out _ (Upd.refl _ _)).mono ?_
  rintro e w1 ⟨rfl, hU1⟩
  have hv1 := HV.out.upd0 hU1
  have HV1 := Lib.hid hv1
  have d20 := hv1.cb.cell 20
  have d16 := hv1.cb.cell 16
  simp only [St.list, List.getElem?_cons_succ, List.getElem?_cons_zero] at d20 d16
  rw [hb] at d20
  rw [hen] at d16
  clear hv1 h
  go_wp2
  go_end0
  refine ⟨rfl, ?_⟩
  rw [HR.out]
  exact HV.out.post hU1
set_option maxRecDepth 100000 in
set_option maxHeartbeats 2000000 in
theorem ends_put_len (b : Nat) (s : St) (jv bv dv : Value) (w : World) (hv : ChipV w b s jv bv dv) (hda : s.op.inn = true → s.op.data = 1) (h0 : ¬ s.stage = 0) (h1 : ¬ s.stage = 1) (hw : s.whole = true) (hb : s.op.byte = 1) (hen : s.en = true) (hlen : ¬ s.data.length = 2) :
    Calls Tryz.prog 96 #[.pointer (some ⟨b, 0, none⟩)] w fun e w' => e = .returned (.tuple #[]) ∧ ChipPost b s.ends (chipSet b jv bv dv) w w' := by
  have hR0 : ¬ (s.stage = 0 ∨ s.stage = 1 ∨ s.whole = false) := by rw [hw]; simp [h0, h1]
  have hR : s.ends = s := by
    unfold St.ends
    rw [if_neg hR0, if_neg (show ¬ s.op.byte = 6 by rw [hb]; decide), if_neg (show ¬ s.op.byte = 4 by rw [hb]; decide), if_neg (show ¬ s.op.byte = 117 by rw [hb]; decide), if_neg (show ¬ s.op.byte = 122 by rw [hb]; decide), if_pos hb]
    rw [if_neg (fun e => hlen e.2)]
  have h := hv.cb
  have c26 := h.cell 26
  have c20 := h.cell 20
  simp only [St.list, List.getElem?_cons_succ, List.getElem?_cons_zero] at c26 c20
  rw [hb] at c20
  have HV := Lib.hid hv
  have b0 : (s.stage == 0) = false := by simpa using h0
  have b1 : (s.stage == 1) = false := by simpa using h1
  have hwh := fun W (hW : Upd none' w W) => cmd_whole b s jv bv dv W (h.upd hW (fun f => f)) hda
  rw [hw] at hwh
  have HW := Lib.hid hwh
  clear hwh
  have HR := Lib.hid hR
  clear hR hR0 hw hv
  go_enter Tryz.func96, Tryz.ntmps96
  go_wp2_with fail
  refine (HW.out _ (Upd.refl _ _)).mono ?_
  rintro e w1 ⟨rfl, hU1⟩
  have hv1 := HV.out.upd0 hU1
  have HV1 := Lib.hid hv1
  have d20 := hv1.cb.cell 20
  have d16 := hv1.cb.cell 16
  have d32 := hv1.cb.cell 32
  simp only [St.list, List.getElem?_cons_succ, List.getElem?_cons_zero] at d20 d16 d32
  rw [hb] at d20
  obtain ⟨da, dc, rfl, -⟩ := hv1.data.form
  rw [ints_len] at d32
  rw [hen] at d16
  have hlb : ((s.data.length : Int) == 2) = false := by simp; omega
  clear hv1 h
  go_wp2
  go_end0
  refine ⟨rfl, ?_⟩
  rw [HR.out]
  exact HV.out.post hU1
set_option maxRecDepth 100000 in
set_option maxHeartbeats 2000000 in
theorem ends_put (b : Nat) (s : St) (jv bv dv : Value) (w : World) (hv : ChipV w b s jv bv dv) (hda : s.op.inn = true → s.op.data = 1) (h0 : ¬ s.stage = 0) (h1 : ¬ s.stage = 1) (hw : s.whole = true) (hb : s.op.byte = 1) (hen : s.en = true) (x0 x1 : Int) (hd : s.data = [x0, x1]) (hx0 : 0 ≤ x0 ∧ x0 ≤ 255) (hx1 : 0 ≤ x1 ∧ x1 ≤ 255) :
    Calls Tryz.prog 96 #[.pointer (some ⟨b, 0, none⟩)] w fun e w' => e = .returned (.tuple #[]) ∧ ChipPost b s.ends (chipSet b jv bv dv) w w' := by
  have hR0 : ¬ (s.stage = 0 ∨ s.stage = 1 ∨ s.whole = false) := by rw [hw]; simp [h0, h1]
  obtain ⟨p, hp1, hp2⟩ := bit_of (x0 / 4) 4 (by omega)
  obtain ⟨q, hq1, hq2⟩ := bit_of (x1 / 2) 2 (by omega)
  have hR : s.ends = { s with prot := p, quad := q, en := false } := by
    unfold St.ends
    rw [if_neg hR0, if_neg (show ¬ s.op.byte = 6 by rw [hb]; decide), if_neg (show ¬ s.op.byte = 4 by rw [hb]; decide), if_neg (show ¬ s.op.byte = 117 by rw [hb]; decide), if_neg (show ¬ s.op.byte = 122 by rw [hb]; decide), if_pos hb]
    rw [if_pos ⟨hen, by rw [hd]; rfl⟩, hd]
    rw [show ([x0, x1] : List Int).getD 0 0 = x0 from rfl, show ([x0, x1] : List Int).getD 1 0 = x1 from rfl, hp1, hq1]
  have h := hv.cb
  have c26 := h.cell 26
  have c20 := h.cell 20
  simp only [St.list, List.getElem?_cons_succ, List.getElem?_cons_zero] at c26 c20
  rw [hb] at c20
  have HV := Lib.hid hv
  have b0 : (s.stage == 0) = false := by simpa using h0
  have b1 : (s.stage == 1) = false := by simpa using h1
  have hwh := fun W (hW : Upd none' w W) => cmd_whole b s jv bv dv W (h.upd hW (fun f => f)) hda
  rw [hw] at hwh
  have HW := Lib.hid hwh
  clear hwh
  have HR := Lib.hid hR
  clear hR hR0 hw hv
  go_enter Tryz.func96, Tryz.ntmps96
  go_wp2_with fail
  refine (HW.out _ (Upd.refl _ _)).mono ?_
  rintro e w1 ⟨rfl, hU1⟩
  have hv1 := HV.out.upd0 hU1
  have HV1 := Lib.hid hv1
  have d20 := hv1.cb.cell 20
  have d1 := hv1.cb.cell 1
  have d2 := hv1.cb.cell 2
  have d16 := hv1.cb.cell 16
  have d32 := hv1.cb.cell 32
  have e1 := hv1.cb.frozen 1
  have e2 := hv1.cb.frozen 2
  have e16 := hv1.cb.frozen 16
  simp only [St.list, List.getElem?_cons_succ, List.getElem?_cons_zero] at d20 d1 d2 d16 d32
  rw [hb] at d20
  have hdd := hv1.data
  rw [hd] at hdd
  obtain ⟨da, dc, rfl, -, hdn, hdf⟩ := hdd.form
  obtain ⟨ad, rfl⟩ : ∃ ad, da = some ad := by
    cases da with
    | none => exact absurd (hdn rfl).1 (by simp [ints])
    | some ad => exact ⟨ad, rfl⟩
  obtain ⟨gd, rfl, -, hgl, hcell, -⟩ := hdf ad rfl
  have x0c := hcell 0 (by simp [ints])
  have x1c := hcell 1 (by simp [ints])
  simp only [ints, List.map_cons, List.map_nil, List.getElem?_cons_zero, List.getElem?_cons_succ] at x0c x1c
  rw [show (ints [x0, x1]).length = 2 from rfl] at d32
  have hgb : gd ≠ b := (HV1.out.sd gd rfl).1
  rw [hen] at d16
  have a0 := and4_byte hx0.1 hx0.2
  have a1 := and2_byte hx1.1 hx1.2
  obtain ⟨v0, hv0⟩ : ∃ v0, x0 / 4 % 2 * 4 = v0 := ⟨_, rfl⟩
  obtain ⟨v1, hv1'⟩ : ∃ v1, x1 / 2 % 2 * 2 = v1 := ⟨_, rfl⟩
  rw [hv0] at a0 hp2
  rw [hv1'] at a1 hq2
  have HBf := Lib.hid (((hv1.cb.set 1 (.bool p)).set 2 (.bool q)).set 16 (.bool false))
  clear hv1 h hcell hdf hdd hdn hv0 hv1' hd hx0 hx1
  go_upto_region 15 with fail
  go_region
  go_wp2
  go_end0
  have hUs := (((Upd.refl (fun k => k = b) w1).setCell ⟨b, 1, none⟩ (.bool p) (fun _ => rfl)).setCell ⟨b, 2, none⟩ (.bool q) (fun _ => rfl)).setCell ⟨b, 16, none⟩ (.bool false) (fun _ => rfl)
  refine ⟨rfl, ?_⟩
  rw [HR.out]
  obtain ⟨S', hA, hS, hU⟩ := HV1.out.cbSet (t := { s with prot := p, quad := q, en := false }) HBf.out.drew hUs.drew rfl rfl rfl
  exact ⟨S', hA, fun k hk => (hS k hk).imp_right (fun e => Nat.le_trans hU1.size e), (hU1.mono (fun _ _ f => f.elim)).trans hU (fun _ _ e => e)⟩
end Go.Proofs.YtbflnpkgbpckfaaGreat
