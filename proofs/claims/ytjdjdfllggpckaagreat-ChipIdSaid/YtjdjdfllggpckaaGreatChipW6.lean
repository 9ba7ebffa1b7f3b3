/- The walks over (*job).cells and pass. -/
import Derived.Test.YtjdjdfllggpckaaGreatCellW
import Derived.Test.YtjdjdfllggpckaaGreatChipI
import Derived.Test.YtjdjdfllggpckaaGreatChipW5
namespace Go.Proofs.YtjdjdfllggpckaaGreat
open Go.RowKit
def jobCells (j : Job) : List Value := [.int .i64 j.sector, .int .i64 j.page, .string j.data, .int .i64 j.left, .bool j.susp]
theorem job_cells (g : Nat) (j : Job) (a mask : ByteArray) (w : World) (hB : Blk w g (jobCells j) 96) (hj1 : j.Form) (ha : a.size = 4096) (hs : mask.size ≤ 4611686018427387904) :
    Calls Tryz.prog 55 #[.pointer (some ⟨g, 0, none⟩), .string a, .string mask] w fun e w' =>
      e = .returned (.string (j.cells a mask)) ∧ Upd none' w w' := by
  have c0 := hB.cell 0
  have c1 := hB.cell 1
  have c2 := hB.cell 2
  simp only [jobCells, List.getElem?_cons_succ, List.getElem?_cons_zero] at c0 c1 c2
  rcases hj1 with ⟨h1, h2, h3, h4⟩ | ⟨h1, h2⟩
  · obtain ⟨pg, hpg⟩ := Int.eq_ofNat_of_zero_le h2
    have hfin : j.cells a mask = progCut a pg j.data mask := by rw [Job.cells, if_pos h1, hpg]; rfl
    have HF := Lib.hid hfin
    rw [h1] at c0
    rw [hpg] at c1
    have HP := Lib.hid hpg
    have H4 := Lib.hid h4
    have h5 : pg + 32 ≤ 4096 := by omega
    clear hfin h1 hpg h4 h2 h3
    go_enter Tryz.func55, Tryz.ntmps55
    go_wp2_with fail
    go_region_with (go_at_call 77; refine (cell_program a pg j.data mask _ ha (by rw [H4.out]; exact h5) hs).mono ?_; rintro e w' ⟨rfl, hU1⟩)
    all_goals go_wp2
    all_goals go_ret
    all_goals exact ⟨by rw [HF.out]; rfl, ((Upd.refl none' w).drew).trans hU1 (fun _ _ f => f)⟩
  · obtain ⟨se, hse⟩ := Int.eq_ofNat_of_zero_le h1
    have hfin : j.cells a mask = eraseCut a se mask := by rw [Job.cells, if_neg (by omega), hse]; rfl
    have HF := Lib.hid hfin
    rw [hse] at c0
    have HS := Lib.hid hse
    have h5 : se < 8 := by omega
    have hne : ((se : Int) == -1) = false := by rw [beq_eq_false_iff_ne]; omega
    clear hfin h1 h2 hse
    go_enter Tryz.func55, Tryz.ntmps55
    go_wp2_with (go_at_call 78; refine (cell_erase a se mask _ ha h5 hs).mono ?_; rintro e w' ⟨rfl, hU1⟩)
    go_ret
    exact ⟨by rw [HF.out]; rfl, hU1⟩
theorem all255_le : (⟨#[255]⟩ : ByteArray).size ≤ 4611686018427387904 := by decide
theorem turned_size (a : ByteArray) (lo n : Nat) (turn : Nat → UInt8 → UInt8) : (turned a lo n turn).size = a.size := by
  unfold turned
  show Array.size _ = Array.size _
  simp
theorem Job.cells_size (j : Job) (a mask : ByteArray) : (j.cells a mask).size = a.size := by
  unfold Job.cells progCut eraseCut
  split <;> exact turned_size _ _ _ _
set_option maxHeartbeats 1000000 in
theorem chip_pass (b : Nat) (s : St) (jv bv dv : Value) (w : World) (h : CB w b s jv bv dv) (hj : JobV w jv s.job) (hok : ∀ j, s.job = some j → j.Ok) (ha : s.a.size = 4096) (hjb : jv ≠ .pointer (some ⟨b, 0, none⟩)) :
    Calls Tryz.prog 44 #[.pointer (some ⟨b, 0, none⟩)] w fun e w' =>
      e = .returned (.tuple #[]) ∧ ∃ jv', CB w' b s.pass jv' bv dv ∧ JobV w' jv' s.pass.job ∧ (jv' = jv ∨ jv' = .pointer none) ∧ Upd (fun k => k = b ∨ jv = .pointer (some ⟨k, 0, none⟩)) w w' := by
  have c0 := h.cell 0
  have c16 := h.cell 16
  have c18 := h.cell 18
  have f0 := h.frozen 0
  have f16 := h.frozen 16
  have f18 := h.frozen 18
  simp only [St.list, List.getElem?_cons_succ, List.getElem?_cons_zero] at c0 c16 c18
  have hw := chip_works b s jv bv dv w h hj
  by_cases hwk : s.works = true
  · cases hs : s.job with
    | none => simp [St.works, hs] at hwk
    | some j =>
      rw [hs] at hj
      obtain ⟨g, rfl, hB⟩ := hj
      have hsu : j.susp = false := by simpa [St.works, hs] using hwk
      have hjok := hok j hs
      obtain ⟨hj1, hj2, hj3⟩ := hjok
      have hgb : g ≠ b := fun e => hjb (by rw [e])
      have d3 := hB.cell 3
      have e3 := hB.frozen 3
      simp only [List.getElem?_cons_succ, List.getElem?_cons_zero] at d3
      rw [hwk] at hw
      by_cases hl : j.left - 1 ≤ 0
      · have hfin : s.pass = { s with a := j.cells s.a all255, job := none, en := false } := by simp [St.pass, hs, hsu, hl]
        have HF := Lib.hid hfin
        have HW := Lib.hid hw
        have hB1 : Blk (w.setCell ⟨g, 3, none⟩ (.int .i64 (j.left - 1))) g (jobCells { j with left := j.left - 1 }) 96 := hB.set 3 (.int .i64 (j.left - 1))
        have hC1 : CB (w.setCell ⟨g, 3, none⟩ (.int .i64 (j.left - 1))) b s (.pointer (some ⟨g, 0, none⟩)) bv dv := h.set_ne 3 _ (Ne.symm hgb)
        clear hfin hw hs hsu hwk
        go_enter Tryz.func44, Tryz.ntmps44
        go_wp2_with (go_at_call 47; refine HW.out.mono ?_; rintro e w' ⟨rfl, hw'⟩; obtain rfl := hw'.symm)
        have hUb : Upd (fun k => k = b ∨ Value.pointer (some ⟨g, 0, none⟩) = Value.pointer (some ⟨k, 0, none⟩)) w (w.setCell ⟨g, 3, none⟩ (.int .i64 (j.left - 1))) := (Upd.refl _ w).setCell ⟨g, 3, none⟩ _ (fun _ => .inr rfl)
        generalize w.setCell ⟨g, 3, none⟩ (.int .i64 (j.left - 1)) = w2 at *
        have a0 := hC1.cell 0
        have a16 := hC1.cell 16
        have a18 := hC1.cell 18
        have z0 := hC1.frozen 0
        have z16 := hC1.frozen 16
        have z18 := hC1.frozen 18
        simp only [St.list, List.getElem?_cons_succ, List.getElem?_cons_zero] at a0 a16 a18
        have ha' := Lib.hid ha
        clear ha c0 c16 c18 f0 f16 f18 d3 e3
        go_region_with (go_at_call 55; go_must (refine (job_cells g { j with left := j.left - 1 } s.a ⟨#[255]⟩ _ ?_ hj1 ha'.out all255_le).mono ?_; exact hB1.drew; rintro e w3 ⟨rfl, hU3⟩; have hC3 := Blk.upd (S := none') hC1.drew hU3 (fun f => f); have b0 := hC3.cell 0; have y0 := hC3.frozen 0; have b16 := hC3.cell 16; have y16 := hC3.frozen 16; have b18 := hC3.cell 18; have y18 := hC3.frozen 18; simp only [St.list, List.getElem?_cons_succ, List.getElem?_cons_zero] at b0 b16 b18))
        all_goals go_wp2
        all_goals go_end0
        all_goals
          refine ⟨rfl, .pointer none, ?_, ?_, .inr rfl, ?_⟩
          · rw [HF.out]; exact ((hC3.set 0 (.string ((({ j with left := j.left - 1 } : Job).cells s.a ⟨#[255]⟩)))).set 18 (.pointer none)).set 16 (.bool false)
          · rw [HF.out]; exact rfl
          · exact (((hUb.drew.trans hU3 (fun _ _ f => f.elim)).setCell ⟨b, 0, none⟩ _ (fun _ => .inl rfl)).setCell ⟨b, 18, none⟩ _ (fun _ => .inl rfl)).setCell ⟨b, 16, none⟩ _ (fun _ => .inl rfl)
      · have hfin : s.pass = { s with job := some { j with left := j.left - 1 } } := by simp [St.pass, hs, hsu, hl]
        have HF := Lib.hid hfin
        have HW := Lib.hid hw
        clear hfin hw hs hsu hwk
        go_enter Tryz.func44, Tryz.ntmps44
        go_wp2_with (go_at_call 47; refine HW.out.mono ?_; rintro e w' ⟨rfl, hw'⟩; obtain rfl := hw'.symm)
        go_end0
        refine ⟨rfl, .pointer (some ⟨g, 0, none⟩), ?_, ?_, .inl rfl, ?_⟩
        · rw [HF.out]; exact h.set_ne 3 _ (Ne.symm hgb)
        · rw [HF.out]; exact ⟨g, rfl, hB.set 3 (.int .i64 (j.left - 1))⟩
        · exact (Upd.refl _ w).setCell ⟨g, 3, none⟩ _ (fun _ => .inr rfl)
  · have hwk' : s.works = false := by simpa using hwk
    have hfin : s.pass = s := by
      cases hs : s.job with
      | none => simp [St.pass, hs]
      | some j =>
        have hsu : j.susp = true := by simpa [St.works, hs] using hwk'
        simp [St.pass, hs, hsu]
    rw [hwk'] at hw
    have HF := Lib.hid hfin
    have HW := Lib.hid hw
    clear hfin hw hwk hwk' c0 c16 c18 f0 f16 f18
    go_enter Tryz.func44, Tryz.ntmps44
    go_wp2_with (go_at_call 47; refine HW.out.mono ?_; rintro e w' ⟨rfl, hw'⟩; obtain rfl := hw'.symm)
    refine bodyPost_ret (results_none rfl _ _ _) rfl ?_
    rw [HF.out]
    exact ⟨rfl, jv, h, hj, .inl rfl, Upd.refl _ _⟩
end Go.Proofs.YtjdjdfllggpckaaGreat
