/- The walk over ends: the status is put. · The walk over ends: an erase, a program. -/
import Derived.Test.YtepnljeojlbliaaGreatChipE
import Derived.Deep.RegionHeld3
namespace Go.Proofs.YtepnljeojlbliaaGreat
open Go.RowKit
theorem and4_byte {x : Int} (h0 : 0 ≤ x) (h1 : x ≤ 255) : bits .and .i64 x 4 = x / 4 % 2 * 4 := by
  have key : ∀ n : Fin 256, bits .and .i64 ((n.val : Nat) : Int) 4 = ((n.val : Nat) : Int) / 4 % 2 * 4 := by decide +kernel
  have := key ⟨x.toNat, by omega⟩
  rw [show (((⟨x.toNat, by omega⟩ : Fin 256).val : Nat) : Int) = x by dsimp only; omega] at this
  exact this
theorem and2_byte {x : Int} (h0 : 0 ≤ x) (h1 : x ≤ 255) : bits .and .i64 x 2 = x / 2 % 2 * 2 := by
  have key : ∀ n : Fin 256, bits .and .i64 ((n.val : Nat) : Int) 2 = ((n.val : Nat) : Int) / 2 % 2 * 2 := by decide +kernel
  have := key ⟨x.toNat, by omega⟩
  rw [show (((⟨x.toNat, by omega⟩ : Fin 256).val : Nat) : Int) = x by dsimp only; omega] at this
  exact this
theorem bit_of (v : Int) (k : Int) (h : v % 2 * k = 0 ↔ v % 2 = 0) : ∃ p : Bool, decide (v % 2 = 1) = p ∧ (v % 2 * k != 0) = p := by
  refine ⟨_, rfl, ?_⟩
  rcases (show v % 2 = 0 ∨ v % 2 = 1 by omega) with e | e
  · have e2 := h.2 e
    rw [e2, e]; rfl
  · have : ¬ v % 2 * k = 0 := fun h' => by have := h.1 h'; omega
    rw [decide_eq_true e]
    simpa using this
set_option maxRecDepth 100000 in
set_option maxHeartbeats 2000000 in
theorem ends_put_dis (b : Nat) (s : St) (jv bv dv : Value) (w : World) (hv : ChipV w b s jv bv dv) (hda : s.op.inn = true → s.op.data = 1) (h0 : ¬ s.stage = 0) (h1 : ¬ s.stage = 1) (hw : s.whole = true) (hb : s.op.byte = 1) (hen : s.en = false) :
    Calls Tryz.prog 95 #[.pointer (some ⟨b, 0, none⟩)] w fun e w' => e = .returned (.tuple #[]) ∧ ChipPost b s.ends (chipSet b jv bv dv) w w' := by
  have hR0 : ¬ (s.stage = 0 ∨ s.stage = 1 ∨ s.whole = false) := by rw [hw]; simp [h0, h1]
  have hR : s.ends = s := by
    unfold St.ends
    rw [if_neg hR0, if_neg (show ¬ s.op.byte = 6 by rw [hb]; decide), if_neg (show ¬ s.op.byte = 4 by rw [hb]; decide), if_neg (show ¬ s.op.byte = 117 by rw [hb]; decide), if_neg (show ¬ s.op.byte = 122 by rw [hb]; decide), if_pos hb]
    rw [if_neg (by rw [hen]; simp)]
  have h := hv.cb
  have c26 := h.cell 26
  have c20 := h.cell 20
  simp only [St.list, List.getElem?_cons_succ, List.getElem?_cons_zero] at c26 c20
  rw [hb] at c20
  have HV := Lib.hid hv
  have b0 : (s.stage == 0) = false := by simpa using h0
  have b1 : (s.stage == 1) = false := by simpa using h1
  have hwh := fun W (hW : Upd none' w W) => cmd_whole b s jv bv dv W (h.upd hW (fun f => f)) hda
  rw [hw] at hwh
  have HW := Lib.hid hwh
  clear hwh
  have HR := Lib.hid hR
  clear hR hR0 hw hv
  go_enter Tryz.func95, Tryz.ntmps95
  go_wp2_with fail
  refine (HW.out _ (Upd.refl _ _)).mono ?_
  rintro e w1 ⟨rfl, hU1⟩
  have hv1 := HV.out.upd0 hU1
  have HV1 := Lib.hid hv1
  have d20 := hv1.cb.cell 20
  have d16 := hv1.cb.cell 16
  simp only [St.list, List.getElem?_cons_succ, List.getElem?_cons_zero] at d20 d16
  rw [hb] at d20
  rw [hen] at d16
  clear hv1 h
  go_wp2
  go_end0
  refine ⟨rfl, ?_⟩
  rw [HR.out]
  exact HV.out.post hU1
set_option maxRecDepth 100000 in
set_option maxHeartbeats 2000000 in
theorem ends_put_len (b : Nat) (s : St) (jv bv dv : Value) (w : World) (hv : ChipV w b s jv bv dv) (hda : s.op.inn = true → s.op.data = 1) (h0 : ¬ s.stage = 0) (h1 : ¬ s.stage = 1) (hw : s.whole = true) (hb : s.op.byte = 1) (hen : s.en = true) (hlen : ¬ s.data.length = 2) :
    Calls Tryz.prog 95 #[.pointer (some ⟨b, 0, none⟩)] w fun e w' => e = .returned (.tuple #[]) ∧ ChipPost b s.ends (chipSet b jv bv dv) w w' := by
  have hR0 : ¬ (s.stage = 0 ∨ s.stage = 1 ∨ s.whole = false) := by rw [hw]; simp [h0, h1]
  have hR : s.ends = s := by
    unfold St.ends
    rw [if_neg hR0, if_neg (show ¬ s.op.byte = 6 by rw [hb]; decide), if_neg (show ¬ s.op.byte = 4 by rw [hb]; decide), if_neg (show ¬ s.op.byte = 117 by rw [hb]; decide), if_neg (show ¬ s.op.byte = 122 by rw [hb]; decide), if_pos hb]
    rw [if_neg (fun e => hlen e.2)]
  have h := hv.cb
  have c26 := h.cell 26
  have c20 := h.cell 20
  simp only [St.list, List.getElem?_cons_succ, List.getElem?_cons_zero] at c26 c20
  rw [hb] at c20
  have HV := Lib.hid hv
  have b0 : (s.stage == 0) = false := by simpa using h0
  have b1 : (s.stage == 1) = false := by simpa using h1
  have hwh := fun W (hW : Upd none' w W) => cmd_whole b s jv bv dv W (h.upd hW (fun f => f)) hda
  rw [hw] at hwh
  have HW := Lib.hid hwh
  clear hwh
  have HR := Lib.hid hR
  clear hR hR0 hw hv
  go_enter Tryz.func95, Tryz.ntmps95
  go_wp2_with fail
  refine (HW.out _ (Upd.refl _ _)).mono ?_
  rintro e w1 ⟨rfl, hU1⟩
  have hv1 := HV.out.upd0 hU1
  have HV1 := Lib.hid hv1
  have d20 := hv1.cb.cell 20
  have d16 := hv1.cb.cell 16
  have d32 := hv1.cb.cell 32
  simp only [St.list, List.getElem?_cons_succ, List.getElem?_cons_zero] at d20 d16 d32
  rw [hb] at d20
  obtain ⟨da, dc, rfl, -⟩ := hv1.data.form
  rw [ints_len] at d32
  rw [hen] at d16
  have hlb : ((s.data.length : Int) == 2) = false := by simp; omega
  clear hv1 h
  go_wp2
  go_end0
  refine ⟨rfl, ?_⟩
  rw [HR.out]
  exact HV.out.post hU1
set_option maxRecDepth 100000 in
set_option maxHeartbeats 2000000 in
theorem ends_put (b : Nat) (s : St) (jv bv dv : Value) (w : World) (hv : ChipV w b s jv bv dv) (hda : s.op.inn = true → s.op.data = 1) (h0 : ¬ s.stage = 0) (h1 : ¬ s.stage = 1) (hw : s.whole = true) (hb : s.op.byte = 1) (hen : s.en = true) (x0 x1 : Int) (hd : s.data = [x0, x1]) (hx0 : 0 ≤ x0 ∧ x0 ≤ 255) (hx1 : 0 ≤ x1 ∧ x1 ≤ 255) :
    Calls Tryz.prog 95 #[.pointer (some ⟨b, 0, none⟩)] w fun e w' => e = .returned (.tuple #[]) ∧ ChipPost b s.ends (chipSet b jv bv dv) w w' := by
  have hR0 : ¬ (s.stage = 0 ∨ s.stage = 1 ∨ s.whole = false) := by rw [hw]; simp [h0, h1]
  obtain ⟨p, hp1, hp2⟩ := bit_of (x0 / 4) 4 (by omega)
  obtain ⟨q, hq1, hq2⟩ := bit_of (x1 / 2) 2 (by omega)
  have hR : s.ends = { s with prot := p, quad := q, en := false } := by
    unfold St.ends
    rw [if_neg hR0, if_neg (show ¬ s.op.byte = 6 by rw [hb]; decide), if_neg (show ¬ s.op.byte = 4 by rw [hb]; decide), if_neg (show ¬ s.op.byte = 117 by rw [hb]; decide), if_neg (show ¬ s.op.byte = 122 by rw [hb]; decide), if_pos hb]
    rw [if_pos ⟨hen, by rw [hd]; rfl⟩, hd]
    rw [show ([x0, x1] : List Int).getD 0 0 = x0 from rfl, show ([x0, x1] : List Int).getD 1 0 = x1 from rfl, hp1, hq1]
  have h := hv.cb
  have c26 := h.cell 26
  have c20 := h.cell 20
  simp only [St.list, List.getElem?_cons_succ, List.getElem?_cons_zero] at c26 c20
  rw [hb] at c20
  have HV := Lib.hid hv
  have b0 : (s.stage == 0) = false := by simpa using h0
  have b1 : (s.stage == 1) = false := by simpa using h1
  have hwh := fun W (hW : Upd none' w W) => cmd_whole b s jv bv dv W (h.upd hW (fun f => f)) hda
  rw [hw] at hwh
  have HW := Lib.hid hwh
  clear hwh
  have HR := Lib.hid hR
  clear hR hR0 hw hv
  go_enter Tryz.func95, Tryz.ntmps95
  go_wp2_with fail
  refine (HW.out _ (Upd.refl _ _)).mono ?_
  rintro e w1 ⟨rfl, hU1⟩
  have hv1 := HV.out.upd0 hU1
  have HV1 := Lib.hid hv1
  have d20 := hv1.cb.cell 20
  have d1 := hv1.cb.cell 1
  have d2 := hv1.cb.cell 2
  have d16 := hv1.cb.cell 16
  have d32 := hv1.cb.cell 32
  have e1 := hv1.cb.frozen 1
  have e2 := hv1.cb.frozen 2
  have e16 := hv1.cb.frozen 16
  simp only [St.list, List.getElem?_cons_succ, List.getElem?_cons_zero] at d20 d1 d2 d16 d32
  rw [hb] at d20
  have hdd := hv1.data
  rw [hd] at hdd
  obtain ⟨da, dc, rfl, -, hdn, hdf⟩ := hdd.form
  obtain ⟨ad, rfl⟩ : ∃ ad, da = some ad := by
    cases da with
    | none => exact absurd (hdn rfl).1 (by simp [ints])
    | some ad => exact ⟨ad, rfl⟩
  obtain ⟨gd, rfl, -, hgl, hcell, -⟩ := hdf ad rfl
  have x0c := hcell 0 (by simp [ints])
  have x1c := hcell 1 (by simp [ints])
  simp only [ints, List.map_cons, List.map_nil, List.getElem?_cons_zero, List.getElem?_cons_succ] at x0c x1c
  rw [show (ints [x0, x1]).length = 2 from rfl] at d32
  have hgb : gd ≠ b := (HV1.out.sd gd rfl).1
  rw [hen] at d16
  have a0 := and4_byte hx0.1 hx0.2
  have a1 := and2_byte hx1.1 hx1.2
  obtain ⟨v0, hv0⟩ : ∃ v0, x0 / 4 % 2 * 4 = v0 := ⟨_, rfl⟩
  obtain ⟨v1, hv1'⟩ : ∃ v1, x1 / 2 % 2 * 2 = v1 := ⟨_, rfl⟩
  rw [hv0] at a0 hp2
  rw [hv1'] at a1 hq2
  have HBf := Lib.hid (((hv1.cb.set 1 (.bool p)).set 2 (.bool q)).set 16 (.bool false))
  clear hv1 h hcell hdf hdd hdn hv0 hv1' hd hx0 hx1
  go_upto_region 15 with fail
  go_region
  go_wp2
  go_end0
  have hUs := (((Upd.refl (fun k => k = b) w1).setCell ⟨b, 1, none⟩ (.bool p) (fun _ => rfl)).setCell ⟨b, 2, none⟩ (.bool q) (fun _ => rfl)).setCell ⟨b, 16, none⟩ (.bool false) (fun _ => rfl)
  refine ⟨rfl, ?_⟩
  rw [HR.out]
  obtain ⟨S', hA, hS, hU⟩ := HV1.out.cbSet (t := { s with prot := p, quad := q, en := false }) HBf.out.drew hUs.drew rfl rfl rfl
  exact ⟨S', hA, fun k hk => (hS k hk).imp_right (fun e => Nat.le_trans hU1.size e), (hU1.mono (fun _ _ f => f.elim)).trans hU (fun _ _ e => e)⟩
end Go.Proofs.YtepnljeojlbliaaGreat
namespace Go.Proofs.YtepnljeojlbliaaGreat
open Go.RowKit
theorem ChipV.at {w : World} {b : Nat} {s : St} {jv bv dv : Value} (h : ChipV w b s jv bv dv) : ChipAt w b s (chipSet b jv bv dv) := ⟨jv, bv, dv, h, rfl⟩
/-- What starts has left, over a world in which a job was made. -/
theorem starts_post {w w1 W w2 : World} {b g : Nat} {s : St} {j : Job} {jv bv dv : Value} (hU1 : Upd none' w w1) (hUA : Upd none' w1 W) (hg : w1.heap.size ≤ g) (h : StartsPost b g s j jv bv dv W w2) (_ : ∀ k, chipSet b jv bv dv k → k < w.heap.size) : ChipPost b (s.starts j) (chipSet b jv bv dv) w w2 := by
  obtain ⟨jv', bv', hv, hset, hU⟩ := h
  have s1 := hU1.size
  refine ⟨_, hv.at, fun k hk => ?_, ?_⟩
  · rcases hset k hk with e | e
    · exact .inl e
    · exact .inr (by omega)
  · refine ((hU1.trans hUA (fun _ _ f => f)).mono (fun _ _ f => f.elim)).trans hU (fun k h1 h2 => ?_)
    rcases h2 with e | e
    · exact .inl e
    · omega
theorem starts_29 {W w2 : World} {b g : Nat} {s : St} {j : Job} {jv bv dv : Value} (h : StartsPost b g s j jv bv dv W w2) : w2.cell? ⟨b, 29, none⟩ = some (.int .i64 s.addr) := by
  obtain ⟨jv', bv', hv, _, _⟩ := h
  have h1 := hv.cb.cell 29
  simp only [St.list, List.getElem?_cons_succ, List.getElem?_cons_zero] at h1
  have h2 : (s.starts j).addr = s.addr := by
    unfold St.starts
    repeat' split
    all_goals rfl
  rw [h1, h2]
theorem addr_quo {a : Int} (h : 0 ≤ a) : a.tdiv 512 = a / 512 := Int.tdiv_eq_ediv_of_nonneg h
theorem addr_rem {a : Int} (h : 0 ≤ a) : a.tmod 32 = a % 32 := Int.tmod_eq_emod_of_nonneg h
set_option maxRecDepth 100000 in
set_option maxHeartbeats 2000000 in
theorem ends_erase (b : Nat) (s : St) (jv bv dv : Value) (w : World) (hv : ChipV w b s jv bv dv) (hda : s.op.inn = true → s.op.data = 1) (h0 : ¬ s.stage = 0) (h1 : ¬ s.stage = 1) (hw : s.whole = true) (hb : s.op.byte = 32) (had : 0 ≤ s.addr ∧ s.addr < 4096) (hwp : ∀ k, 0 ≤ s.wipes k ∧ s.wipes k ≤ 1048577) :
    Calls Tryz.prog 95 #[.pointer (some ⟨b, 0, none⟩)] w fun e w' => e = .returned (.tuple #[]) ∧ ChipPost b s.ends (chipSet b jv bv dv) w w' := by
  have hR0 : ¬ (s.stage = 0 ∨ s.stage = 1 ∨ s.whole = false) := by rw [hw]; simp [h0, h1]
  have hR : s.ends = s.starts ⟨s.addr / 512, 0, ⟨#[]⟩, 0, false⟩ := by
    unfold St.ends
    rw [if_neg hR0, if_neg (show ¬ s.op.byte = 6 by rw [hb]; decide), if_neg (show ¬ s.op.byte = 4 by rw [hb]; decide), if_neg (show ¬ s.op.byte = 117 by rw [hb]; decide), if_neg (show ¬ s.op.byte = 122 by rw [hb]; decide), if_neg (show ¬ s.op.byte = 1 by rw [hb]; decide), if_neg (show ¬ s.op.byte = 2 by rw [hb]; decide), if_pos hb]
  have h := hv.cb
  have c26 := h.cell 26
  have c20 := h.cell 20
  simp only [St.list, List.getElem?_cons_succ, List.getElem?_cons_zero] at c26 c20
  rw [hb] at c20
  have HV := Lib.hid hv
  have b0 : (s.stage == 0) = false := by simpa using h0
  have b1 : (s.stage == 1) = false := by simpa using h1
  have hwh := fun W (hW : Upd none' w W) => cmd_whole b s jv bv dv W (h.upd hW (fun f => f)) hda
  rw [hw] at hwh
  have HW := Lib.hid hwh
  clear hwh
  have HR := Lib.hid hR
  clear hR hR0 hw hv
  go_enter Tryz.func95, Tryz.ntmps95
  go_wp2_with fail
  refine (HW.out _ (Upd.refl _ _)).mono ?_
  rintro e w1 ⟨rfl, hU1⟩
  have hv1 := HV.out.upd0 hU1
  have HV1 := Lib.hid hv1
  have d20 := hv1.cb.cell 20
  have d29 := hv1.cb.cell 29
  simp only [St.list, List.getElem?_cons_succ, List.getElem?_cons_zero] at d20 d29
  rw [hb] at d20
  obtain ⟨q, hq⟩ : ∃ q, s.addr / 512 = q := ⟨_, rfl⟩
  have hqt : s.addr.tdiv 512 = q := by rw [addr_quo had.1, hq]
  have hq0 : 0 ≤ q ∧ q < 8 := by omega
  have hlt : ∀ k, chipSet b jv bv dv k → k < w1.heap.size := hv1.at.lt
  have hlt0 : ∀ k, chipSet b jv bv dv k → k < w.heap.size := HV.out.at.lt
  have HS := Lib.hid (chip_starts b w1.heap.size ⟨q, 0, ⟨#[]⟩, 0, false⟩ s jv bv dv (w1.alloc (.cells (jobCells ⟨q, 0, ⟨#[]⟩, 0, false⟩).toArray 152)) (hv1.upd0 ((Upd.refl none' w1).alloc _)) (fun e => by have := hlt _ e; omega) (Blk.new w1 _ _) had (.inr (by rw [← hq]; dsimp only; omega)) hwp)
  have HQ := Lib.hid hq
  have HLT := Lib.hid hlt0
  clear hv1 h hlt hlt0 hq hwp
  go_wp2_with fail
  refine HS.out.mono ?_
  rintro e w2 ⟨rfl, hpost⟩
  go_wp2
  go_end0
  refine ⟨rfl, ?_⟩
  rw [HR.out, HQ.out]
  exact starts_post hU1 ((Upd.refl none' w1).alloc _) (Nat.le_refl _) hpost HLT.out
set_option maxRecDepth 100000 in
set_option maxHeartbeats 2000000 in
theorem ends_prog_none (b : Nat) (s : St) (jv bv dv : Value) (w : World) (hv : ChipV w b s jv bv dv) (hda : s.op.inn = true → s.op.data = 1) (h0 : ¬ s.stage = 0) (h1 : ¬ s.stage = 1) (hw : s.whole = true) (hb : s.op.byte = 2) (hd : s.data = []) :
    Calls Tryz.prog 95 #[.pointer (some ⟨b, 0, none⟩)] w fun e w' => e = .returned (.tuple #[]) ∧ ChipPost b s.ends (chipSet b jv bv dv) w w' := by
  have hR0 : ¬ (s.stage = 0 ∨ s.stage = 1 ∨ s.whole = false) := by rw [hw]; simp [h0, h1]
  have hR : s.ends = s := by
    unfold St.ends
    rw [if_neg hR0, if_neg (show ¬ s.op.byte = 6 by rw [hb]; decide), if_neg (show ¬ s.op.byte = 4 by rw [hb]; decide), if_neg (show ¬ s.op.byte = 117 by rw [hb]; decide), if_neg (show ¬ s.op.byte = 122 by rw [hb]; decide), if_neg (show ¬ s.op.byte = 1 by rw [hb]; decide), if_pos hb]
    rw [if_pos hd]
  have h := hv.cb
  have c26 := h.cell 26
  have c20 := h.cell 20
  simp only [St.list, List.getElem?_cons_succ, List.getElem?_cons_zero] at c26 c20
  rw [hb] at c20
  have HV := Lib.hid hv
  have b0 : (s.stage == 0) = false := by simpa using h0
  have b1 : (s.stage == 1) = false := by simpa using h1
  have hwh := fun W (hW : Upd none' w W) => cmd_whole b s jv bv dv W (h.upd hW (fun f => f)) hda
  rw [hw] at hwh
  have HW := Lib.hid hwh
  clear hwh
  have HR := Lib.hid hR
  clear hR hR0 hw hv
  go_enter Tryz.func95, Tryz.ntmps95
  go_wp2_with fail
  refine (HW.out _ (Upd.refl _ _)).mono ?_
  rintro e w1 ⟨rfl, hU1⟩
  have hv1 := HV.out.upd0 hU1
  have HV1 := Lib.hid hv1
  have d20 := hv1.cb.cell 20
  have d32 := hv1.cb.cell 32
  simp only [St.list, List.getElem?_cons_succ, List.getElem?_cons_zero] at d20 d32
  rw [hb] at d20
  obtain ⟨da, dc, rfl, -⟩ := hv1.data.form
  rw [hd, show (ints []).length = 0 from rfl] at d32
  clear hv1 h
  go_wp2
  go_end0
  refine ⟨rfl, ?_⟩
  rw [HR.out]
  exact HV.out.post hU1
set_option maxRecDepth 100000 in
set_option maxHeartbeats 2000000 in
theorem ends_prog (b : Nat) (s : St) (jv bv dv : Value) (w : World) (hv : ChipV w b s jv bv dv) (hda : s.op.inn = true → s.op.data = 1) (h0 : ¬ s.stage = 0) (h1 : ¬ s.stage = 1) (hw : s.whole = true) (hb : s.op.byte = 2) (hd : ¬ s.data = []) (had : 0 ≤ s.addr ∧ s.addr < 4096) (hlen : s.data.length ≤ 1048577) (hwp : ∀ k, 0 ≤ s.wipes k ∧ s.wipes k ≤ 1048577) :
    Calls Tryz.prog 95 #[.pointer (some ⟨b, 0, none⟩)] w fun e w' => e = .returned (.tuple #[]) ∧ ChipPost b s.ends (chipSet b jv bv dv) w w' := by
  have hR0 : ¬ (s.stage = 0 ∨ s.stage = 1 ∨ s.whole = false) := by rw [hw]; simp [h0, h1]
  have hR : s.ends = s.starts ⟨-1, s.addr - s.addr % 32, ⟨(pageOf s.addr s.data).toArray⟩, 0, false⟩ := by
    unfold St.ends
    rw [if_neg hR0, if_neg (show ¬ s.op.byte = 6 by rw [hb]; decide), if_neg (show ¬ s.op.byte = 4 by rw [hb]; decide), if_neg (show ¬ s.op.byte = 117 by rw [hb]; decide), if_neg (show ¬ s.op.byte = 122 by rw [hb]; decide), if_neg (show ¬ s.op.byte = 1 by rw [hb]; decide), if_pos hb]
    rw [if_neg hd]
  have h := hv.cb
  have c26 := h.cell 26
  have c20 := h.cell 20
  simp only [St.list, List.getElem?_cons_succ, List.getElem?_cons_zero] at c26 c20
  rw [hb] at c20
  have HV := Lib.hid hv
  have b0 : (s.stage == 0) = false := by simpa using h0
  have b1 : (s.stage == 1) = false := by simpa using h1
  have hwh := fun W (hW : Upd none' w W) => cmd_whole b s jv bv dv W (h.upd hW (fun f => f)) hda
  rw [hw] at hwh
  have HW := Lib.hid hwh
  clear hwh
  have HR := Lib.hid hR
  clear hR hR0 hw hv
  go_enter Tryz.func95, Tryz.ntmps95
  go_wp2_with fail
  refine (HW.out _ (Upd.refl _ _)).mono ?_
  rintro e w1 ⟨rfl, hU1⟩
  have hv1 := HV.out.upd0 hU1
  have HV1 := Lib.hid hv1
  have d20 := hv1.cb.cell 20
  have d29 := hv1.cb.cell 29
  have d32 := hv1.cb.cell 32
  simp only [St.list, List.getElem?_cons_succ, List.getElem?_cons_zero] at d20 d29 d32
  rw [hb] at d20
  obtain ⟨da, dc, rfl, -⟩ := hv1.data.form
  rw [ints_len] at d32
  have hdl : 0 < s.data.length := List.length_pos_iff.2 hd
  have hrm := addr_rem had.1
  obtain ⟨r, hr⟩ : ∃ r, s.addr % 32 = r := ⟨_, rfl⟩
  have hr0 : 0 ≤ r ∧ r < 32 := by omega
  rw [hr] at hrm
  have hwr : IntKind.i64.wrap (s.addr - r) = s.addr - r := IntWalk.i64_in _ (by omega)
  obtain ⟨pg, hpg⟩ : ∃ pg : ByteArray, ⟨(pageOf s.addr s.data).toArray⟩ = pg := ⟨_, rfl⟩
  have hlt : ∀ k, chipSet b jv bv (.slice da (ints s.data).length dc) k → k < w1.heap.size := hv1.at.lt
  have HLT0 := Lib.hid HV.out.at.lt
  have HPG := Lib.hid (fun (W : World) (hW : Upd none' w1 W) => hpg ▸ cmd_page b s jv bv _ W (hv1.cb.upd hW (fun f => f)) (hv1.data.upd hW (fun _ _ f => f)) had hlen)
  have HST := Lib.hid (fun (W : World) (hW : Upd none' w1 W) => chip_starts b W.heap.size ⟨-1, s.addr - r, pg, 0, false⟩ s jv bv _ (W.alloc (.cells (jobCells ⟨-1, s.addr - r, pg, 0, false⟩).toArray 152)) (hv1.upd0 (hW.alloc _)) (fun e => by have := hlt _ e; have := hW.size; omega) (Blk.new W _ _) had (.inl rfl) hwp)
  have HLT := Lib.hid hlt
  have hbl := hv1.cb.lt
  have HCB := Lib.hid hv1.cb
  have HPQ := Lib.hid hpg
  clear hv1 h hlt hwp hpg
  go_upto_region 18 with fail
  go_region_held3 (fun w' => w'.cell? ⟨b, 29, none⟩ = some (.int .i64 s.addr)) (first | exact d29 | exact x29 | exact y29 | exact (by go_simp)) (first | (go_at_call 156; refine (HPG.out _ (Upd.refl none' w1).drew).mono ?_; rintro e w33 ⟨rfl, hU33⟩; have hU33' := (Upd.refl none' w1).drew.trans hU33 (fun _ _ f => f); have x29 := (HCB.out.upd hU33' (fun f => f)).cell 29; simp only [St.list, List.getElem?_cons_succ, List.getElem?_cons_zero] at x29; have x33 : b < w33.heap.size := (HCB.out.upd hU33' (fun f => f)).lt) | (go_at_call 155; (try rw [hwr]); refine (HST.out _ hU33').mono ?_; rintro e w34 ⟨rfl, hpost⟩; have y29 := starts_29 hpost))
  all_goals
    go_wp2
    go_end0
    refine ⟨rfl, ?_⟩
    rw [HR.out, hr, HPQ.out]
    exact starts_post hU1 (hU33'.alloc _) hU33'.size hpost HLT0.out
end Go.Proofs.YtepnljeojlbliaaGreat
