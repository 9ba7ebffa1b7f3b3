/- The walk over says. -/
import Derived.Test.YtjdjdfllggpckaaGreatChipW8
import Derived.Deep.RegionHeld3
namespace Go.Proofs.YtjdjdfllggpckaaGreat
open Go.RowKit
theorem or13 (q : Int) : bits BinOp.or IntKind.i64 13 (wrap64 (q % 2 * 2)) = 13 + 2 * (q % 2) := by
  rcases (show q % 2 = 0 ∨ q % 2 = 1 by omega) with h | h <;> rw [h] <;> decide +kernel
set_option maxHeartbeats 2000000 in
theorem chip_says (ht : TableSaid) (b : Nat) (s : St) (jv bv dv : Value) (w : World) (h : CB w b s jv bv dv) (hj : JobV w jv s.job) (ha : s.a.size = 4096) (hi : 0 ≤ s.told ∧ s.told ≤ 1099511627776) (had : 0 ≤ s.addr ∧ s.addr < 4096)
    (hd : s.op.data = 1 ∧ 0 ≤ s.left ∧ s.left ≤ 7 ∨ s.op.data = 4 ∧ 0 ≤ s.left ∧ s.left ≤ 1) (hn : 0 ≤ s.now ∧ s.now ≤ 255) (hby : 0 ≤ s.byteAt s.told ∧ s.byteAt s.told ≤ 255) :
    Calls Tryz.prog 71 #[.pointer (some ⟨b, 0, none⟩)] w fun e w' =>
      e = .returned (.int .i64 s.says.2) ∧ CB w' b s.says.1 jv bv dv ∧ Upd (fun k => k = b) w w' := by
  have hdd : s.op.data = 1 ∨ s.op.data = 4 := by omega
  have hb1 : 0 ≤ s.says1.now ∧ s.says1.now ≤ 255 ∧ (s.op.data = 1 ∧ 1 ≤ s.says1.left ∧ s.says1.left ≤ 8 ∨ s.op.data = 4 ∧ 1 ≤ s.says1.left ∧ s.says1.left ≤ 2) := by
    unfold St.says1
    split
    · refine ⟨hby.1, hby.2, ?_⟩
      rcases hd with ⟨h1, _⟩ | ⟨h1, _⟩
      · left; rw [h1]; exact ⟨rfl, by dsimp only; decide, by dsimp only; decide⟩
      · right; rw [h1]; exact ⟨rfl, by dsimp only; decide, by dsimp only; decide⟩
    · exact ⟨hn.1, hn.2, by omega⟩
  go_enter Tryz.func71, Tryz.ntmps71
  have c27 := h.cell 27
  simp only [St.list, List.getElem?_cons_succ, List.getElem?_cons_zero] at c27
  go_upto_if 13 with (fail)
  go_cut [] (fun wx => CB wx b s.says1 jv bv dv ∧ Upd (fun k => k = b) w wx)
  case first =>
    clear hd hb1
    by_cases hl : s.left = 0
    · have hby' := chip_byteAt ht b s.told s jv bv dv
      have hs1 : s.says1 = { s with now := s.byteAt s.told, left := 8 / s.op.data, told := s.told + 1, tabled := s.tabled || decide (s.op.byte = 90) } := by unfold St.says1; rw [if_pos hl]
      have c24 := h.cell 24
      have c33 := h.cell 33
      simp only [St.list, List.getElem?_cons_succ, List.getElem?_cons_zero] at c24 c33
      rw [hl] at c27
      have HL := Lib.hid hl
      have HB := Lib.hid hby'
      have HS := Lib.hid hs1
      have hl0 : (s.left == 0) = true := by simpa using hl
      clear hl hby' hs1
      go_upto_region 3 with (fail)
      go_region_held3 (fun w' => w'.cell? ⟨b, 24, none⟩ = some (.int .i64 s.op.data) ∧ w'.cell? ⟨b, 33, none⟩ = some (.int .i64 s.told)) (first | exact ⟨c24, c33⟩ | exact ⟨d24, d33⟩ | exact ⟨by go_simp, by go_simp⟩)
        (first
        | (go_at_call 87; refine (HB.out _ (Blk.drew h) hj ha hi had).mono ?_; rintro e w2 ⟨rfl, hB2, hU2⟩; have d24 := hB2.cell 24; have d33 := hB2.cell 33; have d27 := hB2.cell 27; have d34 := hB2.cell 34; have y27 := hB2.frozen 27; have y34 := hB2.frozen 34; have y33 := hB2.frozen 33; simp only [St.list, List.getElem?_cons_succ, List.getElem?_cons_zero] at d24 d33 d27 d34)
        | (go_at_call 53; refine (lane_many _ hdd _).mono ?_; rintro e w3 ⟨rfl, rfl⟩))
      go_wp2_with fail
      go_meet
      refine ⟨?_, ?_⟩
      · rw [HS.out]; exact ((hB2.set 34 (.int .i64 (s.byteAt s.told))).set 27 (.int .i64 (8 / s.op.data))).set 33 (.int .i64 (s.told + 1))
      · exact ((((Upd.refl (fun k => k = b) w).drew.trans hU2 (fun _ _ k => k)).setCell ⟨b, 34, none⟩ _ (fun _ => rfl)).setCell ⟨b, 27, none⟩ _ (fun _ => rfl)).setCell ⟨b, 33, none⟩ _ (fun _ => rfl)
    · have hs1 : s.says1 = s := by unfold St.says1; rw [if_neg hl]
      have hl0 : (s.left == 0) = false := by simpa using hl
      have HS := Lib.hid hs1
      clear hl hs1
      go_wp2_with fail
      go_meet
      exact ⟨by rw [HS.out]; exact h, Upd.refl _ _⟩
  case rest =>
    obtain ⟨hB, hU⟩ := hcut
    have hop : s.says1.op = s.op := by unfold St.says1; split <;> rfl
    have hsay : s.says = (let s1 := s.says1; let s2 := { s1 with left := s1.left - 1 }; if s.op.data = 1 then (s2, 13 + 2 * (s1.now / 2 ^ (s1.left - 1).toNat % 2)) else (s2, s1.now / 16 ^ (s1.left - 1).toNat % 16)) := rfl
    have HY := Lib.hid hsay
    generalize s.says1 = s1 at *
    have e27 := hB.cell 27
    have e34 := hB.cell 34
    have e24 := hB.cell 24
    have y27 := hB.frozen 27
    simp only [St.list, List.getElem?_cons_succ, List.getElem?_cons_zero] at e27 e34 e24
    rw [hop] at e24
    obtain ⟨hn0, hn1, hdl⟩ := hb1
    clear hop hsay
    rcases hdl with ⟨h1, hl1, hl2⟩ | ⟨h1, hl1, hl2⟩
    · rw [h1] at e24
      have H1 := Lib.hid h1
      clear h1 hd hdd c27
      go_wp2_with fail
      go_region
      all_goals go_wp2
      all_goals go_ret
      all_goals
        refine ⟨ret_int ?_, ?_, ?_⟩
        · rw [HY.out]
          simp only [if_pos H1.out]
          rw [i64_and1, show (s1.left - 1).toNat = s1.left.toNat - 1 by omega]
          exact or13 _
        · rw [HY.out]
          simp only [if_pos H1.out]
          exact hB.set 27 (.int .i64 (s1.left - 1))
        · exact (hU.setCell ⟨b, 27, none⟩ _ (fun _ => rfl)).drew
    · rw [h1] at e24
      have H1 := Lib.hid h1
      clear h1 hd hdd c27
      go_wp2_with fail
      go_region
      all_goals go_wp2
      all_goals go_ret
      all_goals
        refine ⟨ret_int ?_, ?_, ?_⟩
        · rw [HY.out]
          simp only [if_neg (show ¬ s.op.data = 1 by rw [H1.out]; decide)]
          rw [i64_and15]
          rcases (show s1.left = 1 ∨ s1.left = 2 by omega) with h2 | h2 <;> rw [h2] <;> rfl
        · rw [HY.out]
          simp only [if_neg (show ¬ s.op.data = 1 by rw [H1.out]; decide)]
          exact hB.set 27 (.int .i64 (s1.left - 1))
        · exact (hU.setCell ⟨b, 27, none⟩ _ (fun _ => rfl)).drew
end Go.Proofs.YtjdjdfllggpckaaGreat
