/- The walk over (*command).behind: a case for each way through. -/
import Derived.Test.YtjdjdfllggpckaaGreatChipW1
namespace Go.Proofs.YtjdjdfllggpckaaGreat
open Go.RowKit
set_option maxHeartbeats 2000000 in
theorem cmd_behind (b : Nat) (s : St) (jv bv dv : Value) (w : World) (h : CB w b s jv bv dv) (ha : s.op.mode = true → s.op.addr = 1 ∨ s.op.addr = 4) (hda : s.op.inn = true → s.op.data ≠ 0 → s.op.data = 1 ∨ s.op.data = 4) :
    Calls Tryz.prog 70 #[.pointer (some ⟨b, 20, none⟩)] w fun e w' =>
      e = .returned (.tuple #[]) ∧ CB w' b s.behind jv bv dv ∧ Upd (fun k => k = b) w w' := by
  have c21 := h.cell 21
  have c22 := h.cell 22
  have c23 := h.cell 23
  have c24 := h.cell 24
  have c25 := h.cell 25
  have c26 := h.cell 26
  have c31 := h.cell 31
  simp only [St.list, List.getElem?_cons_succ, List.getElem?_cons_zero] at c21 c22 c23 c24 c25 c26 c31
  have fin : ∀ st cl e w', (e = Ending.returned (.tuple #[]) ∧ CB w' b (s.enter st cl) jv bv dv ∧ Upd (fun k => k = b) w w') → s.behind = s.enter st cl → (e = Ending.returned (.tuple #[]) ∧ CB w' b s.behind jv bv dv ∧ Upd (fun k => k = b) w w') := by
    intro st cl e w' h1 h2; rw [h2]; exact h1
  by_cases hA : s.op.mode = true ∧ s.moded = false
  · obtain ⟨hm, hmd⟩ := hA
    have hfin : s.behind = s.enter 3 (8 / s.op.addr) := by simp [St.behind, hm, hmd]
    have HF := Lib.hid hfin
    have ha' := ha hm
    clear hfin ha
    go_enter Tryz.func70, Tryz.ntmps70
    go_wp2_with fail
    refine (lane_many _ ha' _).mono ?_
    rintro e w1 ⟨rfl, rfl⟩
    go_wp2_with fail
    refine (cmd_enter b s jv bv dv _ _ _ h).mono ?_
    rintro e w1 ⟨rfl, hB1, hU1⟩
    go_wp2
    go_end0
    exact fin _ _ _ _ ⟨rfl, hB1, hU1⟩ HF.out
  · rcases (show s.op.mode = false ∨ (s.op.mode = true ∧ s.moded = true) by cases hm : s.op.mode <;> cases hd : s.moded <;> simp_all) with hm | ⟨hm, hmd⟩
    · by_cases hd : 0 < s.op.dummy
      · by_cases hs : s.stage = 4
        · have hs' : (s.stage != 4) = false := by simp [hs]
          have hs2 : ¬ s.stage ≠ 4 := by simp [hs]
          clear hs
          by_cases h0 : s.op.data = 0
          · have h0' : (s.op.data == 0) = true := by simpa using h0
            have hfin : s.behind = s.enter 7 (0) := by simp [St.behind, hm, hs2, h0]
            have HF := Lib.hid hfin
            clear h0 ha hda hs2
            clear hfin
            go_enter Tryz.func70, Tryz.ntmps70
            go_wp2_with fail
            refine (cmd_enter b s jv bv dv _ _ _ h).mono ?_
            rintro e w1 ⟨rfl, hB1, hU1⟩
            go_wp2
            go_end0
            exact fin _ _ _ _ ⟨rfl, hB1, hU1⟩ HF.out
          · have h0' : (s.op.data == 0) = false := by simpa using h0
            cases hi : s.op.inn with
            | false =>
              have hfin : s.behind = s.enter 6 (0) := by simp [St.behind, hm, hs2, h0, hi]
              have HF := Lib.hid hfin
              clear h0 ha hda hs2
              clear hfin
              go_enter Tryz.func70, Tryz.ntmps70
              go_wp2_with fail
              refine (cmd_enter b s jv bv dv _ _ _ h).mono ?_
              rintro e w1 ⟨rfl, hB1, hU1⟩
              go_wp2
              go_end0
              exact fin _ _ _ _ ⟨rfl, hB1, hU1⟩ HF.out
            | true =>
              have hda' := hda hi h0
              have hfin : s.behind = s.enter 5 (8 / s.op.data) := by simp [St.behind, hm, hs2, h0, hi]
              have HF := Lib.hid hfin
              clear h0 ha hda hs2
              clear hfin
              go_enter Tryz.func70, Tryz.ntmps70
              go_wp2_with fail
              refine (lane_many _ hda' _).mono ?_
              rintro e w1 ⟨rfl, rfl⟩
              go_wp2_with fail
              refine (cmd_enter b s jv bv dv _ _ _ h).mono ?_
              rintro e w1 ⟨rfl, hB1, hU1⟩
              go_wp2
              go_end0
              exact fin _ _ _ _ ⟨rfl, hB1, hU1⟩ HF.out
        · have hs' : (s.stage != 4) = true := by simpa using hs
          have hfin : s.behind = s.enter 4 (s.op.dummy) := by simp [St.behind, hm, hd, hs]
          have HF := Lib.hid hfin
          clear hs ha hda
          clear hfin
          go_enter Tryz.func70, Tryz.ntmps70
          go_wp2_with fail
          refine (cmd_enter b s jv bv dv _ _ _ h).mono ?_
          rintro e w1 ⟨rfl, hB1, hU1⟩
          go_wp2
          go_end0
          exact fin _ _ _ _ ⟨rfl, hB1, hU1⟩ HF.out
      · by_cases h0 : s.op.data = 0
        · have h0' : (s.op.data == 0) = true := by simpa using h0
          have hfin : s.behind = s.enter 7 (0) := by simp [St.behind, hm, hd, h0]
          have HF := Lib.hid hfin
          clear h0 ha hda
          clear hfin
          go_enter Tryz.func70, Tryz.ntmps70
          go_wp2_with fail
          refine (cmd_enter b s jv bv dv _ _ _ h).mono ?_
          rintro e w1 ⟨rfl, hB1, hU1⟩
          go_wp2
          go_end0
          exact fin _ _ _ _ ⟨rfl, hB1, hU1⟩ HF.out
        · have h0' : (s.op.data == 0) = false := by simpa using h0
          cases hi : s.op.inn with
          | false =>
            have hfin : s.behind = s.enter 6 (0) := by simp [St.behind, hm, hd, h0, hi]
            have HF := Lib.hid hfin
            clear h0 ha hda
            clear hfin
            go_enter Tryz.func70, Tryz.ntmps70
            go_wp2_with fail
            refine (cmd_enter b s jv bv dv _ _ _ h).mono ?_
            rintro e w1 ⟨rfl, hB1, hU1⟩
            go_wp2
            go_end0
            exact fin _ _ _ _ ⟨rfl, hB1, hU1⟩ HF.out
          | true =>
            have hda' := hda hi h0
            have hfin : s.behind = s.enter 5 (8 / s.op.data) := by simp [St.behind, hm, hd, h0, hi]
            have HF := Lib.hid hfin
            clear h0 ha hda
            clear hfin
            go_enter Tryz.func70, Tryz.ntmps70
            go_wp2_with fail
            refine (lane_many _ hda' _).mono ?_
            rintro e w1 ⟨rfl, rfl⟩
            go_wp2_with fail
            refine (cmd_enter b s jv bv dv _ _ _ h).mono ?_
            rintro e w1 ⟨rfl, hB1, hU1⟩
            go_wp2
            go_end0
            exact fin _ _ _ _ ⟨rfl, hB1, hU1⟩ HF.out
    · by_cases hd : 0 < s.op.dummy
      · by_cases hs : s.stage = 4
        · have hs' : (s.stage != 4) = false := by simp [hs]
          have hs2 : ¬ s.stage ≠ 4 := by simp [hs]
          clear hs
          by_cases h0 : s.op.data = 0
          · have h0' : (s.op.data == 0) = true := by simpa using h0
            have hfin : s.behind = s.enter 7 (0) := by simp [St.behind, hm, hmd, hs2, h0]
            have HF := Lib.hid hfin
            clear h0 ha hda hs2
            clear hfin
            go_enter Tryz.func70, Tryz.ntmps70
            go_wp2_with fail
            refine (cmd_enter b s jv bv dv _ _ _ h).mono ?_
            rintro e w1 ⟨rfl, hB1, hU1⟩
            go_wp2
            go_end0
            exact fin _ _ _ _ ⟨rfl, hB1, hU1⟩ HF.out
          · have h0' : (s.op.data == 0) = false := by simpa using h0
            cases hi : s.op.inn with
            | false =>
              have hfin : s.behind = s.enter 6 (0) := by simp [St.behind, hm, hmd, hs2, h0, hi]
              have HF := Lib.hid hfin
              clear h0 ha hda hs2
              clear hfin
              go_enter Tryz.func70, Tryz.ntmps70
              go_wp2_with fail
              refine (cmd_enter b s jv bv dv _ _ _ h).mono ?_
              rintro e w1 ⟨rfl, hB1, hU1⟩
              go_wp2
              go_end0
              exact fin _ _ _ _ ⟨rfl, hB1, hU1⟩ HF.out
            | true =>
              have hda' := hda hi h0
              have hfin : s.behind = s.enter 5 (8 / s.op.data) := by simp [St.behind, hm, hmd, hs2, h0, hi]
              have HF := Lib.hid hfin
              clear h0 ha hda hs2
              clear hfin
              go_enter Tryz.func70, Tryz.ntmps70
              go_wp2_with fail
              refine (lane_many _ hda' _).mono ?_
              rintro e w1 ⟨rfl, rfl⟩
              go_wp2_with fail
              refine (cmd_enter b s jv bv dv _ _ _ h).mono ?_
              rintro e w1 ⟨rfl, hB1, hU1⟩
              go_wp2
              go_end0
              exact fin _ _ _ _ ⟨rfl, hB1, hU1⟩ HF.out
        · have hs' : (s.stage != 4) = true := by simpa using hs
          have hfin : s.behind = s.enter 4 (s.op.dummy) := by simp [St.behind, hm, hmd, hd, hs]
          have HF := Lib.hid hfin
          clear hs ha hda
          clear hfin
          go_enter Tryz.func70, Tryz.ntmps70
          go_wp2_with fail
          refine (cmd_enter b s jv bv dv _ _ _ h).mono ?_
          rintro e w1 ⟨rfl, hB1, hU1⟩
          go_wp2
          go_end0
          exact fin _ _ _ _ ⟨rfl, hB1, hU1⟩ HF.out
      · by_cases h0 : s.op.data = 0
        · have h0' : (s.op.data == 0) = true := by simpa using h0
          have hfin : s.behind = s.enter 7 (0) := by simp [St.behind, hm, hmd, hd, h0]
          have HF := Lib.hid hfin
          clear h0 ha hda
          clear hfin
          go_enter Tryz.func70, Tryz.ntmps70
          go_wp2_with fail
          refine (cmd_enter b s jv bv dv _ _ _ h).mono ?_
          rintro e w1 ⟨rfl, hB1, hU1⟩
          go_wp2
          go_end0
          exact fin _ _ _ _ ⟨rfl, hB1, hU1⟩ HF.out
        · have h0' : (s.op.data == 0) = false := by simpa using h0
          cases hi : s.op.inn with
          | false =>
            have hfin : s.behind = s.enter 6 (0) := by simp [St.behind, hm, hmd, hd, h0, hi]
            have HF := Lib.hid hfin
            clear h0 ha hda
            clear hfin
            go_enter Tryz.func70, Tryz.ntmps70
            go_wp2_with fail
            refine (cmd_enter b s jv bv dv _ _ _ h).mono ?_
            rintro e w1 ⟨rfl, hB1, hU1⟩
            go_wp2
            go_end0
            exact fin _ _ _ _ ⟨rfl, hB1, hU1⟩ HF.out
          | true =>
            have hda' := hda hi h0
            have hfin : s.behind = s.enter 5 (8 / s.op.data) := by simp [St.behind, hm, hmd, hd, h0, hi]
            have HF := Lib.hid hfin
            clear h0 ha hda
            clear hfin
            go_enter Tryz.func70, Tryz.ntmps70
            go_wp2_with fail
            refine (lane_many _ hda' _).mono ?_
            rintro e w1 ⟨rfl, rfl⟩
            go_wp2_with fail
            refine (cmd_enter b s jv bv dv _ _ _ h).mono ?_
            rintro e w1 ⟨rfl, hB1, hU1⟩
            go_wp2
            go_end0
            exact fin _ _ _ _ ⟨rfl, hB1, hU1⟩ HF.out
end Go.Proofs.YtjdjdfllggpckaaGreat
