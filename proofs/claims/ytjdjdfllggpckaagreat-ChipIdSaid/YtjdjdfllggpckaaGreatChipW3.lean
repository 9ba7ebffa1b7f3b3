/- The walks over works and takes. -/
import Derived.Test.YtjdjdfllggpckaaGreatChipW1
namespace Go.Proofs.YtjdjdfllggpckaaGreat
open Go.RowKit
/-- The job's pointer and what it leads to. -/
def JobV (w : World) (jv : Value) : Option Job → Prop
  | none => jv = .pointer none
  | some j => ∃ g, jv = .pointer (some ⟨g, 0, none⟩) ∧ Blk w g [.int .i64 j.sector, .int .i64 j.page, .string j.data, .int .i64 j.left, .bool j.susp] 96
set_option maxHeartbeats 1000000 in
theorem chip_works (b : Nat) (s : St) (jv bv dv : Value) (w : World) (h : CB w b s jv bv dv) (hj : JobV w jv s.job) :
    Calls Tryz.prog 47 #[.pointer (some ⟨b, 0, none⟩)] w fun e w' => e = .returned (.bool s.works) ∧ w' = w := by
  have c18 := h.cell 18
  simp only [St.list, List.getElem?_cons_succ, List.getElem?_cons_zero] at c18
  unfold St.works
  cases hs : s.job with
  | none =>
    rw [hs] at hj
    simp only [JobV] at hj
    subst hj
    clear hs
    go_enter Tryz.func47, Tryz.ntmps47
    go_wp2
    go_ret
    exact ⟨rfl, rfl⟩
  | some j =>
    rw [hs] at hj
    obtain ⟨g, rfl, hB⟩ := hj
    have d4 := hB.cell 4
    simp only [List.getElem?_cons_succ, List.getElem?_cons_zero] at d4
    clear hs
    go_enter Tryz.func47, Tryz.ntmps47
    go_wp2
    go_ret
    exact ⟨rfl, rfl⟩
set_option maxHeartbeats 2000000 in
theorem chip_takes (b q : Nat) (c : Int) (s : St) (jv bv dv : Value) (w : World) (h : CB w b s jv bv dv) (hj : JobV w jv s.job) (hq : w.cell? ⟨q, 0, none⟩ = some (.int .i64 c)) :
    Calls Tryz.prog 90 #[.pointer (some ⟨b, 0, none⟩), .pointer (some ⟨q, 0, none⟩)] w fun e w' => e = .returned (.bool (s.takes c)) ∧ w = w' := by
  have c2 := h.cell 2
  have c18 := h.cell 18
  simp only [St.list, List.getElem?_cons_succ, List.getElem?_cons_zero] at c2 c18
  by_cases h1 : c = 5 ∨ c = 53 ∨ c = 117
  · have e1 : s.takes c = true := by simp only [St.takes, if_pos h1]
    have E1 := Lib.hid e1
    clear e1
    rcases h1 with rfl | rfl | rfl
    all_goals
      go_enter Tryz.func90, Tryz.ntmps90
      go_wp2
      go_ret
      exact ⟨by rw [E1.out]; rfl, rfl⟩
  · by_cases h2 : c = 107 ∨ c = 235
    · have e1 : s.takes c = (s.quad && !s.works) := by simp only [St.takes, if_neg h1, if_pos h2]
      have E1 := Lib.hid e1
      clear e1 h1
      cases hqd : s.quad with
      | false =>
        have e2 : (s.quad && !s.works) = false := by simp [hqd]
        have E2 := Lib.hid e2
        clear e2
        rw [hqd] at c2
        have HQ := Lib.hid hqd
        clear hqd
        rcases h2 with rfl | rfl
        all_goals
          go_enter Tryz.func90, Tryz.ntmps90
          go_wp2
          go_ret
          exact ⟨by rw [E1.out, E2.out]; rfl, rfl⟩
      | true =>
        have e2 : (s.quad && !s.works) = !s.works := by simp [hqd]
        have E2 := Lib.hid e2
        clear e2
        rw [hqd] at c2
        have HQ := Lib.hid hqd
        clear hqd
        rcases h2 with rfl | rfl
        all_goals
          go_enter Tryz.func90, Tryz.ntmps90
          go_wp2_with (go_at_call 47; refine (chip_works b s jv bv dv _ (by assumption) (by assumption)).mono ?_; rintro e w' ⟨rfl, rfl⟩)
          go_ret
          exact ⟨by rw [E1.out, E2.out]; rfl, rfl⟩
    · by_cases h3 : c = 1 ∨ c = 2 ∨ c = 32
      · have e1 : s.takes c = s.job.isNone := by simp only [St.takes, if_neg h1, if_neg h2, if_pos h3]
        have E1 := Lib.hid e1
        clear e1 h1 h2
        cases hs : s.job with
        | none =>
          rw [hs] at hj
          simp only [JobV] at hj
          subst hj
          have HS := Lib.hid hs
          clear hs
          rcases h3 with rfl | rfl | rfl
          all_goals
            go_enter Tryz.func90, Tryz.ntmps90
            go_wp2
            go_ret
            exact ⟨by rw [E1.out, HS.out]; rfl, rfl⟩
        | some j =>
          rw [hs] at hj
          obtain ⟨g, rfl, hB⟩ := hj
          have HS := Lib.hid hs
          clear hs
          rcases h3 with rfl | rfl | rfl
          all_goals
            go_enter Tryz.func90, Tryz.ntmps90
            go_wp2
            go_ret
            exact ⟨by rw [E1.out, HS.out]; rfl, rfl⟩
      · have e1 : s.takes c = !s.works := by simp only [St.takes, if_neg h1, if_neg h2, if_neg h3]
        have E1 := Lib.hid e1
        clear e1
        simp only [not_or] at h1 h2 h3
        have g1 : (c == 5) = false := by simpa using h1.1
        have g2 : (c == 53) = false := by simpa using h1.2.1
        have g3 : (c == 117) = false := by simpa using h1.2.2
        have g4 : (c == 107) = false := by simpa using h2.1
        have g5 : (c == 235) = false := by simpa using h2.2
        have g6 : (c == 1) = false := by simpa using h3.1
        have g7 : (c == 2) = false := by simpa using h3.2.1
        have g8 : (c == 32) = false := by simpa using h3.2.2
        clear h1 h2 h3
        go_enter Tryz.func90, Tryz.ntmps90
        go_wp2_with (go_at_call 47; refine (chip_works b s jv bv dv _ (by assumption) (by assumption)).mono ?_; rintro e w' ⟨rfl, rfl⟩)
        go_ret
        exact ⟨by rw [E1.out]; rfl, rfl⟩
end Go.Proofs.YtjdjdfllggpckaaGreat
