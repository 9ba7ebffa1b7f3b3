/- The walks over the small methods of a command and of the chip. · The walk over (*command).behind: a case for each way through. · The walks over works and takes. -/
import Derived.Test.YteombggfmeilaaaGreatChipM
import Derived.Test.YteombggfmeilaaaGreatProg
import Derived.Test.YteombggfmeilaaaGreatLow
namespace Go.Proofs.YteombggfmeilaaaGreat
open Go.RowKit
/-- The chip's block, at pointers' values that are of no concern. -/
abbrev CB (w : World) (b : Nat) (s : St) (jv bv dv : Value) : Prop := Blk w b (s.list jv bv dv) 142
theorem lane_many (n : Int) (hn : n = 1 ∨ n = 4) (w : World) :
    Calls Tryz.prog 92 #[.int .i64 n] w fun e w' => e = .returned (.int .i64 (8 / n)) ∧ w = w' := by
  rcases hn with rfl | rfl
  all_goals
    go_enter Tryz.func92, Tryz.ntmps92
    go_wp2
    go_ret
    exact ⟨rfl, rfl⟩
theorem cmd_enter (b : Nat) (s : St) (jv bv dv : Value) (stage clocks : Int) (w : World) (h : CB w b s jv bv dv) :
    Calls Tryz.prog 151 #[.pointer (some ⟨b, 20, none⟩), .int .i64 stage, .int .i64 clocks] w fun e w' =>
      e = .returned (.tuple #[]) ∧ CB w' b (s.enter stage clocks) jv bv dv ∧ Upd (fun k => k = b) w w' := by
  have c26 := h.cell 26
  have c27 := h.cell 27
  have c28 := h.cell 28
  have f26 := h.frozen 26
  have f27 := h.frozen 27
  have f28 := h.frozen 28
  simp only [St.list, List.getElem?_cons_succ, List.getElem?_cons_zero] at c26 c27 c28
  go_enter Tryz.func151, Tryz.ntmps151
  go_wp2
  go_end0
  refine ⟨rfl, ((h.set 26 (.int .i64 stage)).set 27 (.int .i64 clocks)).set 28 (.int .i64 0), ?_⟩
  exact (((Upd.refl (fun k => k = b) w).setCell ⟨b, 26, none⟩ _ (fun _ => rfl)).setCell ⟨b, 27, none⟩ _ (fun _ => rfl)).setCell ⟨b, 28, none⟩ _ (fun _ => rfl)
theorem cmd_takesIn (b : Nat) (s : St) (jv bv dv : Value) (x lanes : Int) (w : World) (h : CB w b s jv bv dv) (hln : lanes = 1 ∨ lanes = 4) (hg : 0 ≤ s.got ∧ s.got ≤ 1073741824) (hl : 1 ≤ s.left ∧ s.left ≤ 400) :
    Calls Tryz.prog 158 #[.pointer (some ⟨b, 20, none⟩), .int .i64 x, .int .i64 lanes] w fun e w' =>
      e = .returned (.bool (s.left - 1 == 0)) ∧ CB w' b (s.takesIn x lanes) jv bv dv ∧ Upd (fun k => k = b) w w' := by
  have c27 := h.cell 27
  have c28 := h.cell 28
  have f27 := h.frozen 27
  have f28 := h.frozen 28
  simp only [St.list, List.getElem?_cons_succ, List.getElem?_cons_zero] at c27 c28
  rcases hln with rfl | rfl
  · have hgot : (s.takesIn x 1).got = bits BinOp.or IntKind.i64 (s.got * 2) (bits BinOp.and IntKind.i64 x 1) := by
      rw [i64_and1, i64_or1 _ _ (by omega) (by omega) (by omega) (by omega) (by omega)]; rfl
    have HG := Lib.hid hgot
    clear hgot
    go_enter Tryz.func158, Tryz.ntmps158
    go_wp2
    go_region
    all_goals go_wp2
    all_goals go_ret
    refine ⟨rfl, ?_, ?_⟩
    · have := (h.set 28 (.int .i64 (bits BinOp.or IntKind.i64 (s.got * 2) (bits BinOp.and IntKind.i64 x 1)))).set 27 (.int .i64 (s.left - 1))
      rw [← HG.out] at this ⊢
      exact this
    · exact ((Upd.refl (fun k => k = b) w).setCell ⟨b, 28, none⟩ (.int .i64 (bits BinOp.or IntKind.i64 (s.got * 2) (bits BinOp.and IntKind.i64 x 1))) (fun _ => rfl)).setCell ⟨b, 27, none⟩ (.int .i64 (s.left - 1)) (fun _ => rfl) |>.drew
  · have hgot : (s.takesIn x 4).got = bits BinOp.or IntKind.i64 (s.got * 16) (bits BinOp.and IntKind.i64 x 15) := by
      rw [i64_and15, i64_or4 _ _ (by omega) (by omega) (by omega) (by omega) (by omega)]; rfl
    have HG := Lib.hid hgot
    clear hgot
    go_enter Tryz.func158, Tryz.ntmps158
    go_wp2
    go_region
    all_goals go_wp2
    all_goals go_ret
    refine ⟨rfl, ?_, ?_⟩
    · have := (h.set 28 (.int .i64 (bits BinOp.or IntKind.i64 (s.got * 16) (bits BinOp.and IntKind.i64 x 15)))).set 27 (.int .i64 (s.left - 1))
      rw [← HG.out] at this ⊢
      exact this
    · exact ((Upd.refl (fun k => k = b) w).setCell ⟨b, 28, none⟩ (.int .i64 (bits BinOp.or IntKind.i64 (s.got * 16) (bits BinOp.and IntKind.i64 x 15))) (fun _ => rfl)).setCell ⟨b, 27, none⟩ (.int .i64 (s.left - 1)) (fun _ => rfl) |>.drew
end Go.Proofs.YteombggfmeilaaaGreat
namespace Go.Proofs.YteombggfmeilaaaGreat
open Go.RowKit
set_option maxHeartbeats 2000000 in
theorem cmd_behind (b : Nat) (s : St) (jv bv dv : Value) (w : World) (h : CB w b s jv bv dv) (ha : s.op.mode = true → s.op.addr = 1 ∨ s.op.addr = 4) (hda : s.op.inn = true → s.op.data ≠ 0 → s.op.data = 1 ∨ s.op.data = 4) :
    Calls Tryz.prog 152 #[.pointer (some ⟨b, 20, none⟩)] w fun e w' =>
      e = .returned (.tuple #[]) ∧ CB w' b s.behind jv bv dv ∧ Upd (fun k => k = b) w w' := by
  have c21 := h.cell 21
  have c22 := h.cell 22
  have c23 := h.cell 23
  have c24 := h.cell 24
  have c25 := h.cell 25
  have c26 := h.cell 26
  have c31 := h.cell 31
  simp only [St.list, List.getElem?_cons_succ, List.getElem?_cons_zero] at c21 c22 c23 c24 c25 c26 c31
  have fin : ∀ st cl e w', (e = Ending.returned (.tuple #[]) ∧ CB w' b (s.enter st cl) jv bv dv ∧ Upd (fun k => k = b) w w') → s.behind = s.enter st cl → (e = Ending.returned (.tuple #[]) ∧ CB w' b s.behind jv bv dv ∧ Upd (fun k => k = b) w w') := by
    intro st cl e w' h1 h2; rw [h2]; exact h1
  by_cases hA : s.op.mode = true ∧ s.moded = false
  · obtain ⟨hm, hmd⟩ := hA
    have hfin : s.behind = s.enter 3 (8 / s.op.addr) := by simp [St.behind, hm, hmd]
    have HF := Lib.hid hfin
    have ha' := ha hm
    clear hfin ha
    go_enter Tryz.func152, Tryz.ntmps152
    go_wp2_with fail
    refine (lane_many _ ha' _).mono ?_
    rintro e w1 ⟨rfl, rfl⟩
    go_wp2_with fail
    refine (cmd_enter b s jv bv dv _ _ _ h).mono ?_
    rintro e w1 ⟨rfl, hB1, hU1⟩
    go_wp2
    go_end0
    exact fin _ _ _ _ ⟨rfl, hB1, hU1⟩ HF.out
  · rcases (show s.op.mode = false ∨ (s.op.mode = true ∧ s.moded = true) by cases hm : s.op.mode <;> cases hd : s.moded <;> simp_all) with hm | ⟨hm, hmd⟩
    · by_cases hd : 0 < s.op.dummy
      · by_cases hs : s.stage = 4
        · have hs' : (s.stage != 4) = false := by simp [hs]
          have hs2 : ¬ s.stage ≠ 4 := by simp [hs]
          clear hs
          by_cases h0 : s.op.data = 0
          · have h0' : (s.op.data == 0) = true := by simpa using h0
            have hfin : s.behind = s.enter 7 (0) := by simp [St.behind, hm, hs2, h0]
            have HF := Lib.hid hfin
            clear h0 ha hda hs2
            clear hfin
            go_enter Tryz.func152, Tryz.ntmps152
            go_wp2_with fail
            refine (cmd_enter b s jv bv dv _ _ _ h).mono ?_
            rintro e w1 ⟨rfl, hB1, hU1⟩
            go_wp2
            go_end0
            exact fin _ _ _ _ ⟨rfl, hB1, hU1⟩ HF.out
          · have h0' : (s.op.data == 0) = false := by simpa using h0
            cases hi : s.op.inn with
            | false =>
              have hfin : s.behind = s.enter 6 (0) := by simp [St.behind, hm, hs2, h0, hi]
              have HF := Lib.hid hfin
              clear h0 ha hda hs2
              clear hfin
              go_enter Tryz.func152, Tryz.ntmps152
              go_wp2_with fail
              refine (cmd_enter b s jv bv dv _ _ _ h).mono ?_
              rintro e w1 ⟨rfl, hB1, hU1⟩
              go_wp2
              go_end0
              exact fin _ _ _ _ ⟨rfl, hB1, hU1⟩ HF.out
            | true =>
              have hda' := hda hi h0
              have hfin : s.behind = s.enter 5 (8 / s.op.data) := by simp [St.behind, hm, hs2, h0, hi]
              have HF := Lib.hid hfin
              clear h0 ha hda hs2
              clear hfin
              go_enter Tryz.func152, Tryz.ntmps152
              go_wp2_with fail
              refine (lane_many _ hda' _).mono ?_
              rintro e w1 ⟨rfl, rfl⟩
              go_wp2_with fail
              refine (cmd_enter b s jv bv dv _ _ _ h).mono ?_
              rintro e w1 ⟨rfl, hB1, hU1⟩
              go_wp2
              go_end0
              exact fin _ _ _ _ ⟨rfl, hB1, hU1⟩ HF.out
        · have hs' : (s.stage != 4) = true := by simpa using hs
          have hfin : s.behind = s.enter 4 (s.op.dummy) := by simp [St.behind, hm, hd, hs]
          have HF := Lib.hid hfin
          clear hs ha hda
          clear hfin
          go_enter Tryz.func152, Tryz.ntmps152
          go_wp2_with fail
          refine (cmd_enter b s jv bv dv _ _ _ h).mono ?_
          rintro e w1 ⟨rfl, hB1, hU1⟩
          go_wp2
          go_end0
          exact fin _ _ _ _ ⟨rfl, hB1, hU1⟩ HF.out
      · by_cases h0 : s.op.data = 0
        · have h0' : (s.op.data == 0) = true := by simpa using h0
          have hfin : s.behind = s.enter 7 (0) := by simp [St.behind, hm, hd, h0]
          have HF := Lib.hid hfin
          clear h0 ha hda
          clear hfin
          go_enter Tryz.func152, Tryz.ntmps152
          go_wp2_with fail
          refine (cmd_enter b s jv bv dv _ _ _ h).mono ?_
          rintro e w1 ⟨rfl, hB1, hU1⟩
          go_wp2
          go_end0
          exact fin _ _ _ _ ⟨rfl, hB1, hU1⟩ HF.out
        · have h0' : (s.op.data == 0) = false := by simpa using h0
          cases hi : s.op.inn with
          | false =>
            have hfin : s.behind = s.enter 6 (0) := by simp [St.behind, hm, hd, h0, hi]
            have HF := Lib.hid hfin
            clear h0 ha hda
            clear hfin
            go_enter Tryz.func152, Tryz.ntmps152
            go_wp2_with fail
            refine (cmd_enter b s jv bv dv _ _ _ h).mono ?_
            rintro e w1 ⟨rfl, hB1, hU1⟩
            go_wp2
            go_end0
            exact fin _ _ _ _ ⟨rfl, hB1, hU1⟩ HF.out
          | true =>
            have hda' := hda hi h0
            have hfin : s.behind = s.enter 5 (8 / s.op.data) := by simp [St.behind, hm, hd, h0, hi]
            have HF := Lib.hid hfin
            clear h0 ha hda
            clear hfin
            go_enter Tryz.func152, Tryz.ntmps152
            go_wp2_with fail
            refine (lane_many _ hda' _).mono ?_
            rintro e w1 ⟨rfl, rfl⟩
            go_wp2_with fail
            refine (cmd_enter b s jv bv dv _ _ _ h).mono ?_
            rintro e w1 ⟨rfl, hB1, hU1⟩
            go_wp2
            go_end0
            exact fin _ _ _ _ ⟨rfl, hB1, hU1⟩ HF.out
    · by_cases hd : 0 < s.op.dummy
      · by_cases hs : s.stage = 4
        · have hs' : (s.stage != 4) = false := by simp [hs]
          have hs2 : ¬ s.stage ≠ 4 := by simp [hs]
          clear hs
          by_cases h0 : s.op.data = 0
          · have h0' : (s.op.data == 0) = true := by simpa using h0
            have hfin : s.behind = s.enter 7 (0) := by simp [St.behind, hm, hmd, hs2, h0]
            have HF := Lib.hid hfin
            clear h0 ha hda hs2
            clear hfin
            go_enter Tryz.func152, Tryz.ntmps152
            go_wp2_with fail
            refine (cmd_enter b s jv bv dv _ _ _ h).mono ?_
            rintro e w1 ⟨rfl, hB1, hU1⟩
            go_wp2
            go_end0
            exact fin _ _ _ _ ⟨rfl, hB1, hU1⟩ HF.out
          · have h0' : (s.op.data == 0) = false := by simpa using h0
            cases hi : s.op.inn with
            | false =>
              have hfin : s.behind = s.enter 6 (0) := by simp [St.behind, hm, hmd, hs2, h0, hi]
              have HF := Lib.hid hfin
              clear h0 ha hda hs2
              clear hfin
              go_enter Tryz.func152, Tryz.ntmps152
              go_wp2_with fail
              refine (cmd_enter b s jv bv dv _ _ _ h).mono ?_
              rintro e w1 ⟨rfl, hB1, hU1⟩
              go_wp2
              go_end0
              exact fin _ _ _ _ ⟨rfl, hB1, hU1⟩ HF.out
            | true =>
              have hda' := hda hi h0
              have hfin : s.behind = s.enter 5 (8 / s.op.data) := by simp [St.behind, hm, hmd, hs2, h0, hi]
              have HF := Lib.hid hfin
              clear h0 ha hda hs2
              clear hfin
              go_enter Tryz.func152, Tryz.ntmps152
              go_wp2_with fail
              refine (lane_many _ hda' _).mono ?_
              rintro e w1 ⟨rfl, rfl⟩
              go_wp2_with fail
              refine (cmd_enter b s jv bv dv _ _ _ h).mono ?_
              rintro e w1 ⟨rfl, hB1, hU1⟩
              go_wp2
              go_end0
              exact fin _ _ _ _ ⟨rfl, hB1, hU1⟩ HF.out
        · have hs' : (s.stage != 4) = true := by simpa using hs
          have hfin : s.behind = s.enter 4 (s.op.dummy) := by simp [St.behind, hm, hmd, hd, hs]
          have HF := Lib.hid hfin
          clear hs ha hda
          clear hfin
          go_enter Tryz.func152, Tryz.ntmps152
          go_wp2_with fail
          refine (cmd_enter b s jv bv dv _ _ _ h).mono ?_
          rintro e w1 ⟨rfl, hB1, hU1⟩
          go_wp2
          go_end0
          exact fin _ _ _ _ ⟨rfl, hB1, hU1⟩ HF.out
      · by_cases h0 : s.op.data = 0
        · have h0' : (s.op.data == 0) = true := by simpa using h0
          have hfin : s.behind = s.enter 7 (0) := by simp [St.behind, hm, hmd, hd, h0]
          have HF := Lib.hid hfin
          clear h0 ha hda
          clear hfin
          go_enter Tryz.func152, Tryz.ntmps152
          go_wp2_with fail
          refine (cmd_enter b s jv bv dv _ _ _ h).mono ?_
          rintro e w1 ⟨rfl, hB1, hU1⟩
          go_wp2
          go_end0
          exact fin _ _ _ _ ⟨rfl, hB1, hU1⟩ HF.out
        · have h0' : (s.op.data == 0) = false := by simpa using h0
          cases hi : s.op.inn with
          | false =>
            have hfin : s.behind = s.enter 6 (0) := by simp [St.behind, hm, hmd, hd, h0, hi]
            have HF := Lib.hid hfin
            clear h0 ha hda
            clear hfin
            go_enter Tryz.func152, Tryz.ntmps152
            go_wp2_with fail
            refine (cmd_enter b s jv bv dv _ _ _ h).mono ?_
            rintro e w1 ⟨rfl, hB1, hU1⟩
            go_wp2
            go_end0
            exact fin _ _ _ _ ⟨rfl, hB1, hU1⟩ HF.out
          | true =>
            have hda' := hda hi h0
            have hfin : s.behind = s.enter 5 (8 / s.op.data) := by simp [St.behind, hm, hmd, hd, h0, hi]
            have HF := Lib.hid hfin
            clear h0 ha hda
            clear hfin
            go_enter Tryz.func152, Tryz.ntmps152
            go_wp2_with fail
            refine (lane_many _ hda' _).mono ?_
            rintro e w1 ⟨rfl, rfl⟩
            go_wp2_with fail
            refine (cmd_enter b s jv bv dv _ _ _ h).mono ?_
            rintro e w1 ⟨rfl, hB1, hU1⟩
            go_wp2
            go_end0
            exact fin _ _ _ _ ⟨rfl, hB1, hU1⟩ HF.out
end Go.Proofs.YteombggfmeilaaaGreat
namespace Go.Proofs.YteombggfmeilaaaGreat
open Go.RowKit
/-- The job's pointer and what it leads to. -/
def JobV (w : World) (jv : Value) : Option Job → Prop
  | none => jv = .pointer none
  | some j => ∃ g, jv = .pointer (some ⟨g, 0, none⟩) ∧ Blk w g [.int .i64 j.sector, .int .i64 j.page, .string j.data, .int .i64 j.left, .bool j.susp] 152
set_option maxHeartbeats 1000000 in
theorem chip_works (b : Nat) (s : St) (jv bv dv : Value) (w : World) (h : CB w b s jv bv dv) (hj : JobV w jv s.job) :
    Calls Tryz.prog 110 #[.pointer (some ⟨b, 0, none⟩)] w fun e w' => e = .returned (.bool s.works) ∧ w' = w := by
  have c18 := h.cell 18
  simp only [St.list, List.getElem?_cons_succ, List.getElem?_cons_zero] at c18
  unfold St.works
  cases hs : s.job with
  | none =>
    rw [hs] at hj
    simp only [JobV] at hj
    subst hj
    clear hs
    go_enter Tryz.func110, Tryz.ntmps110
    go_wp2
    go_ret
    exact ⟨rfl, rfl⟩
  | some j =>
    rw [hs] at hj
    obtain ⟨g, rfl, hB⟩ := hj
    have d4 := hB.cell 4
    simp only [List.getElem?_cons_succ, List.getElem?_cons_zero] at d4
    clear hs
    go_enter Tryz.func110, Tryz.ntmps110
    go_wp2
    go_ret
    exact ⟨rfl, rfl⟩
set_option maxHeartbeats 2000000 in
theorem chip_takes (b q : Nat) (c : Int) (s : St) (jv bv dv : Value) (w : World) (h : CB w b s jv bv dv) (hj : JobV w jv s.job) (hq : w.cell? ⟨q, 0, none⟩ = some (.int .i64 c)) :
    Calls Tryz.prog 189 #[.pointer (some ⟨b, 0, none⟩), .pointer (some ⟨q, 0, none⟩)] w fun e w' => e = .returned (.bool (s.takes c)) ∧ w = w' := by
  have c2 := h.cell 2
  have c18 := h.cell 18
  simp only [St.list, List.getElem?_cons_succ, List.getElem?_cons_zero] at c2 c18
  by_cases h1 : c = 5 ∨ c = 53 ∨ c = 117
  · have e1 : s.takes c = true := by simp only [St.takes, if_pos h1]
    have E1 := Lib.hid e1
    clear e1
    rcases h1 with rfl | rfl | rfl
    all_goals
      go_enter Tryz.func189, Tryz.ntmps189
      go_wp2
      go_ret
      exact ⟨by rw [E1.out]; rfl, rfl⟩
  · by_cases h2 : c = 107 ∨ c = 235
    · have e1 : s.takes c = (s.quad && !s.works) := by simp only [St.takes, if_neg h1, if_pos h2]
      have E1 := Lib.hid e1
      clear e1 h1
      cases hqd : s.quad with
      | false =>
        have e2 : (s.quad && !s.works) = false := by simp [hqd]
        have E2 := Lib.hid e2
        clear e2
        rw [hqd] at c2
        have HQ := Lib.hid hqd
        clear hqd
        rcases h2 with rfl | rfl
        all_goals
          go_enter Tryz.func189, Tryz.ntmps189
          go_wp2
          go_ret
          exact ⟨by rw [E1.out, E2.out]; rfl, rfl⟩
      | true =>
        have e2 : (s.quad && !s.works) = !s.works := by simp [hqd]
        have E2 := Lib.hid e2
        clear e2
        rw [hqd] at c2
        have HQ := Lib.hid hqd
        clear hqd
        rcases h2 with rfl | rfl
        all_goals
          go_enter Tryz.func189, Tryz.ntmps189
          go_wp2_with (go_at_call 110; refine (chip_works b s jv bv dv _ (by assumption) (by assumption)).mono ?_; rintro e w' ⟨rfl, rfl⟩)
          go_ret
          exact ⟨by rw [E1.out, E2.out]; rfl, rfl⟩
    · by_cases h3 : c = 1 ∨ c = 2 ∨ c = 32
      · have e1 : s.takes c = s.job.isNone := by simp only [St.takes, if_neg h1, if_neg h2, if_pos h3]
        have E1 := Lib.hid e1
        clear e1 h1 h2
        cases hs : s.job with
        | none =>
          rw [hs] at hj
          simp only [JobV] at hj
          subst hj
          have HS := Lib.hid hs
          clear hs
          rcases h3 with rfl | rfl | rfl
          all_goals
            go_enter Tryz.func189, Tryz.ntmps189
            go_wp2
            go_ret
            exact ⟨by rw [E1.out, HS.out]; rfl, rfl⟩
        | some j =>
          rw [hs] at hj
          obtain ⟨g, rfl, hB⟩ := hj
          have HS := Lib.hid hs
          clear hs
          rcases h3 with rfl | rfl | rfl
          all_goals
            go_enter Tryz.func189, Tryz.ntmps189
            go_wp2
            go_ret
            exact ⟨by rw [E1.out, HS.out]; rfl, rfl⟩
      · have e1 : s.takes c = !s.works := by simp only [St.takes, if_neg h1, if_neg h2, if_neg h3]
        have E1 := Lib.hid e1
        clear e1
        simp only [not_or] at h1 h2 h3
        have g1 : (c == 5) = false := by simpa using h1.1
        have g2 : (c == 53) = false := by simpa using h1.2.1
        have g3 : (c == 117) = false := by simpa using h1.2.2
        have g4 : (c == 107) = false := by simpa using h2.1
        have g5 : (c == 235) = false := by simpa using h2.2
        have g6 : (c == 1) = false := by simpa using h3.1
        have g7 : (c == 2) = false := by simpa using h3.2.1
        have g8 : (c == 32) = false := by simpa using h3.2.2
        clear h1 h2 h3
        go_enter Tryz.func189, Tryz.ntmps189
        go_wp2_with (go_at_call 110; refine (chip_works b s jv bv dv _ (by assumption) (by assumption)).mono ?_; rintro e w' ⟨rfl, rfl⟩)
        go_ret
        exact ⟨by rw [E1.out]; rfl, rfl⟩
end Go.Proofs.YteombggfmeilaaaGreat
