/- wire.may. -/
import Derived.Test.YtepnljeojlbliaaGreatWireB
namespace Go.Proofs.YtepnljeojlbliaaGreat
open Go.RowKit
theorem all_not (bs : List Int) : bs.all byteB = !(bs.any notB) := by
  induction bs with
  | nil => rfl
  | cons b bs ih => rw [List.all_cons, List.any_cons, ih]; unfold notB; cases byteB b <;> rfl
theorem may_some (la cl rd : Int) (bs : List Int) (h : bs ≠ []) : Ph.may ⟨la, bs, cl, rd⟩ = (lanesB la && decide (1 ≤ (bs.length : Int) ∧ (bs.length : Int) ≤ 512) && !(bs.any notB) && decide (cl = 0) && decide (rd = 0)) := by
  have hl := List.length_pos_iff.2 h
  unfold Ph.may
  dsimp only
  rw [if_pos h, all_not]
  have e : decide (bs.length ≤ 512) = decide (1 ≤ (bs.length : Int) ∧ (bs.length : Int) ≤ 512) := by
    congr 1; apply propext; omega
  rw [e]
theorem may_read (la cl rd : Int) (h : rd ≠ 0) : Ph.may ⟨la, [], cl, rd⟩ = (lanesB la && decide (1 ≤ rd ∧ rd ≤ 512) && decide (cl = 0)) := by
  unfold Ph.may
  dsimp only
  rw [if_neg (fun f => f rfl), if_pos h]
theorem may_none (la cl : Int) : Ph.may ⟨la, [], cl, 0⟩ = (decide (la = 0) && decide (1 ≤ cl ∧ cl ≤ 400)) := by
  unfold Ph.may
  dsimp only
  rw [if_neg (fun f => f rfl), if_neg (fun f => f rfl)]
set_option maxRecDepth 100000 in
set_option maxHeartbeats 4000000 in
theorem wire_may (w : World) (p : Ph) (bv : Value) (hr : RS w bv (ints p.bytes)) :
    Calls Tryz.prog 120 #[.agg #[.int .i64 p.lanes, bv, .int .i64 p.clocks, .int .i64 p.read]] w fun e w' => e = .returned (.bool p.may) ∧ Upd none' w w' := by
  obtain ⟨la, bs, cl, rd⟩ := p
  dsimp only at hr ⊢
  have hr2 := hr.upd ((Upd.refl none' w).alloc (.cells #[.int .i64 la, bv, .int .i64 cl, .int .i64 rd] 156)) (fun _ _ _ f => f)
  have hco := contains_wmay _ bv bs hr2
  obtain ⟨_, a, cap, rfl, -⟩ := hr
  rw [ints_len] at hco ⊢
  have hla := lane_lanes la
  have hU := Lib.hid ((Upd.refl none' w).alloc (.cells #[.int .i64 la, .slice a bs.length cap, .int .i64 cl, .int .i64 rd] 156))
  have hbd := hr2.1
  rw [ints_len] at hbd
  unfold clo_wmay at hco
  clear hr2
  by_cases hb : bs = []
  · subst hb
    clear hco hbd
    by_cases hrd : rd = 0
    · subst hrd
      have hm := Lib.hid (may_none la cl)
      have hs := may1 cl 400
      generalize decide (1 ≤ cl ∧ cl ≤ 400) = b2 at hm hs
      clear hla
      by_cases hl : la = 0
      · subst hl
        cases b2
        all_goals
          go_enter Tryz.func120, Tryz.ntmps120
          go_wp2_with (go_at_call 173; refine (hs _).mono ?_; rintro e w1 ⟨rfl, rfl⟩)
          go_ret
          exact ⟨by rw [hm.out]; rfl, hU.out⟩
      · have hl2 : (la == 0) = false := by simpa using hl
        rw [decide_eq_false hl] at hm
        go_enter Tryz.func120, Tryz.ntmps120
        go_wp2_with (go_at_call 173; refine (hs _).mono ?_; rintro e w1 ⟨rfl, rfl⟩)
        go_ret
        exact ⟨by rw [hm.out]; rfl, hU.out⟩
    · have hrd2 : (rd == 0) = false := by simpa using hrd
      have hm := Lib.hid (may_read la cl rd hrd)
      have hs := may1 rd 512
      generalize decide (1 ≤ rd ∧ rd ≤ 512) = b2 at hm hs
      generalize lanesB la = b1 at hm hla
      by_cases hl : cl = 0
      · subst hl
        cases b1 <;> cases b2
        all_goals
          go_enter Tryz.func120, Tryz.ntmps120
          go_wp2_with (first | (go_at_call 173; refine (hs _).mono ?_; rintro e w1 ⟨rfl, rfl⟩) | (go_at_call 176; refine (hla _).mono ?_; rintro e w1 ⟨rfl, rfl⟩))
          go_ret
          exact ⟨by rw [hm.out]; rfl, hU.out⟩
      · have hl2 : (cl == 0) = false := by simpa using hl
        rw [decide_eq_false hl] at hm
        cases b1 <;> cases b2
        all_goals
          go_enter Tryz.func120, Tryz.ntmps120
          go_wp2_with (first | (go_at_call 173; refine (hs _).mono ?_; rintro e w1 ⟨rfl, rfl⟩) | (go_at_call 176; refine (hla _).mono ?_; rintro e w1 ⟨rfl, rfl⟩))
          go_ret
          exact ⟨by rw [hm.out]; rfl, hU.out⟩
  · have hm := Lib.hid (may_some la cl rd bs hb)
    have hpos := List.length_pos_iff.2 hb
    clear hb
    have hs := may1 (bs.length : Int) 512
    generalize decide (1 ≤ (bs.length : Int) ∧ (bs.length : Int) ≤ 512) = b2 at hm hs
    generalize lanesB la = b1 at hm hla
    generalize bs.any notB = b3 at hm hco
    generalize bs.length = n at *
    have hn0 : (0 : Int) < (n : Int) := by omega
    by_cases hl : cl = 0
    · subst hl
      by_cases hrd : rd = 0
      · subst hrd
        cases b1 <;> cases b2 <;> cases b3
        all_goals
          go_enter Tryz.func120, Tryz.ntmps120
          go_wp2_with (first | (go_at_call 173; refine (hs _).mono ?_; rintro e w1 ⟨rfl, rfl⟩) | (go_at_call 176; refine (hla _).mono ?_; rintro e w1 ⟨rfl, rfl⟩) | (go_at_call 104; refine hco.mono ?_; rintro e w1 ⟨rfl, rfl⟩))
          go_ret
          exact ⟨by rw [hm.out]; rfl, hU.out⟩
      · have hrd2 : (rd == 0) = false := by simpa using hrd
        rw [decide_eq_false hrd] at hm
        cases b1 <;> cases b2 <;> cases b3
        all_goals
          go_enter Tryz.func120, Tryz.ntmps120
          go_wp2_with (first | (go_at_call 173; refine (hs _).mono ?_; rintro e w1 ⟨rfl, rfl⟩) | (go_at_call 176; refine (hla _).mono ?_; rintro e w1 ⟨rfl, rfl⟩) | (go_at_call 104; refine hco.mono ?_; rintro e w1 ⟨rfl, rfl⟩))
          go_ret
          exact ⟨by rw [hm.out]; rfl, hU.out⟩
    · have hl2 : (cl == 0) = false := by simpa using hl
      rw [decide_eq_false hl] at hm
      cases b1 <;> cases b2 <;> cases b3
      all_goals
        go_enter Tryz.func120, Tryz.ntmps120
        go_wp2_with (first | (go_at_call 173; refine (hs _).mono ?_; rintro e w1 ⟨rfl, rfl⟩) | (go_at_call 176; refine (hla _).mono ?_; rintro e w1 ⟨rfl, rfl⟩) | (go_at_call 104; refine hco.mono ?_; rintro e w1 ⟨rfl, rfl⟩))
        go_ret
        exact ⟨by rw [hm.out]; rfl, hU.out⟩
end Go.Proofs.YtepnljeojlbliaaGreat
