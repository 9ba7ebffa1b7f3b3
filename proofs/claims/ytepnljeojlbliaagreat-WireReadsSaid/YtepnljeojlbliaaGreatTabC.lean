/- table.Find, fits; what a command's phases are, in plain. · table.fits, the closure of table.Command; what a command's phases are, in plain. · slices.ContainsFunc of numbers, with one function. -/
import Derived.Test.YtepnljeojlbliaaGreatOpOf
import Derived.Test.YtepnljeojlbliaaGreatChip
import Derived.Test.YtepnljeojlbliaaGreatWireB
import Derived.Test.YtepnljeojlbliaaGreatWireM
namespace Go.Proofs.YtepnljeojlbliaaGreat
open Go.RowKit
set_option maxHeartbeats 2000000 in
theorem tab_find (c : Int) (hc : opIs c = true) (w : World) :
    Calls Tryz.prog 125 #[.int .i64 c] w fun e w' => e = .returned (.tuple #[.agg (opOf c).cells, .int .i64 0]) ∧ Upd none' w w' := by
  have hof := op_of c hc
  obtain ⟨o, ho⟩ : ∃ o, opOf c = o := ⟨_, rfl⟩
  rw [ho] at hof ⊢
  obtain ⟨by', ad, mo, du, da, inn⟩ := o
  unfold POp.cells at hof ⊢
  dsimp only at hof ⊢
  clear ho
  go_enter Tryz.func125, Tryz.ntmps125
  go_wp2_with (go_at_call 179; refine (hof _).mono ?_; rintro e w1 ⟨rfl, hU1⟩; have hb := (Blk.new w [.int .i64 0, .int .i64 0, .bool false, .int .i64 0, .int .i64 0, .bool false] 52).upd hU1 (fun f => f); have c0 := hb.cell 0; have f0 := hb.frozen 0; have c1 := hb.cell 1; have f1 := hb.frozen 1; have c2 := hb.cell 2; have f2 := hb.frozen 2; have c3 := hb.cell 3; have f3 := hb.frozen 3; have c4 := hb.cell 4; have f4 := hb.frozen 4; have c5 := hb.cell 5; have f5 := hb.frozen 5; simp only [List.getElem?_cons_succ, List.getElem?_cons_zero] at c0 c1 c2 c3 c4 c5; have HU1 := Lib.hid hU1; have hlt1 := hb.lt; have HB := Lib.hid hb; clear hb hU1)
  clear c0 c1 c2 c3 c4 c5 f0 f1 f2 f3 f4 f5
  have hno : w.heap.size < w.heap.size → none' w.heap.size := fun h => absurd h (Nat.lt_irrefl _)
  have HU1' := ((Upd.refl none' w).alloc (.cells #[.int .i64 0, .int .i64 0, .bool false, .int .i64 0, .int .i64 0, .bool false] 52)).trans HU1.out (fun _ _ f => f)
  have hb2 := ((((((HB.out.set 0 (.int .i64 by')).set 1 (.int .i64 ad)).set 2 (.bool mo)).set 3 (.int .i64 du)).set 4 (.int .i64 da)).set 5 (.bool inn)).alloc (.cells #[.int .i64 by', .int .i64 ad, .bool mo, .int .i64 du, .int .i64 da, .bool inn] 52)
  have hu2 := ((((((HU1'.setCell ⟨w.heap.size, 0, none⟩ (.int .i64 by') hno).setCell ⟨w.heap.size, 1, none⟩ (.int .i64 ad) hno).setCell ⟨w.heap.size, 2, none⟩ (.bool mo) hno).setCell ⟨w.heap.size, 3, none⟩ (.int .i64 du) hno).setCell ⟨w.heap.size, 4, none⟩ (.int .i64 da) hno).setCell ⟨w.heap.size, 5, none⟩ (.bool inn) hno).alloc (.cells #[.int .i64 by', .int .i64 ad, .bool mo, .int .i64 du, .int .i64 da, .bool inn] 52)
  have d0 := hb2.cell 0
  have d1 := hb2.cell 1
  have d2 := hb2.cell 2
  have d3 := hb2.cell 3
  have d4 := hb2.cell 4
  have d5 := hb2.cell 5
  simp only [List.set_cons_zero, List.set_cons_succ, List.getElem?_cons_succ, List.getElem?_cons_zero] at d0 d1 d2 d3 d4 d5
  clear hb2 hno HU1' hlt1
  refine bodyPost_ret (v := .tuple #[.agg #[.int .i64 by', .int .i64 ad, .bool mo, .int .i64 du, .int .i64 da, .bool inn], .int .i64 0]) ?_ rfl ⟨rfl, hu2⟩
  generalize ((((((w1.setCell ⟨w.heap.size, 0, none⟩ (.int .i64 by')).setCell ⟨w.heap.size, 1, none⟩ (.int .i64 ad)).setCell ⟨w.heap.size, 2, none⟩ (.bool mo)).setCell ⟨w.heap.size, 3, none⟩ (.int .i64 du)).setCell ⟨w.heap.size, 4, none⟩ (.int .i64 da)).setCell ⟨w.heap.size, 5, none⟩ (.bool inn)).alloc (.cells #[.int .i64 by', .int .i64 ad, .bool mo, .int .i64 du, .int .i64 da, .bool inn] 52) = W at *
  clear hu2
  simp [results, Tryz.results125, go_sem, d0, d1, d2, d3, d4, d5]
set_option maxHeartbeats 2000000 in
theorem tab_find_no (c : Int) (hc : opIs c = false) (w : World) :
    Calls Tryz.prog 125 #[.int .i64 c] w fun e w' => e = .returned (.tuple #[.agg op0.cells, .int .i64 900]) ∧ Upd none' w w' := by
  have hof := op_of_no c hc
  have hcells : op0.cells = #[.int .i64 0, .int .i64 0, .bool false, .int .i64 0, .int .i64 0, .bool false] := rfl
  rw [hcells] at hof ⊢
  clear hcells
  go_enter Tryz.func125, Tryz.ntmps125
  go_wp2_with (go_at_call 179; refine (hof _).mono ?_; rintro e w1 ⟨rfl, hU1⟩; have hb := (Blk.new w [.int .i64 0, .int .i64 0, .bool false, .int .i64 0, .int .i64 0, .bool false] 52).upd hU1 (fun f => f); have c0 := hb.cell 0; have f0 := hb.frozen 0; have c1 := hb.cell 1; have f1 := hb.frozen 1; have c2 := hb.cell 2; have f2 := hb.frozen 2; have c3 := hb.cell 3; have f3 := hb.frozen 3; have c4 := hb.cell 4; have f4 := hb.frozen 4; have c5 := hb.cell 5; have f5 := hb.frozen 5; simp only [List.getElem?_cons_succ, List.getElem?_cons_zero] at c0 c1 c2 c3 c4 c5; have HU1 := Lib.hid hU1; have hlt1 := hb.lt; have HB := Lib.hid hb; clear hb hU1)
  clear c0 c1 c2 c3 c4 c5 f0 f1 f2 f3 f4 f5
  have hno : w.heap.size < w.heap.size → none' w.heap.size := fun h => absurd h (Nat.lt_irrefl _)
  have HU1' := ((Upd.refl none' w).alloc (.cells #[.int .i64 0, .int .i64 0, .bool false, .int .i64 0, .int .i64 0, .bool false] 52)).trans HU1.out (fun _ _ f => f)
  have hb2 := ((((((HB.out.set 0 (.int .i64 0)).set 1 (.int .i64 0)).set 2 (.bool false)).set 3 (.int .i64 0)).set 4 (.int .i64 0)).set 5 (.bool false)).alloc (.cells #[.int .i64 0, .int .i64 0, .bool false, .int .i64 0, .int .i64 0, .bool false] 52)
  have hu2 := ((((((HU1'.setCell ⟨w.heap.size, 0, none⟩ (.int .i64 0) hno).setCell ⟨w.heap.size, 1, none⟩ (.int .i64 0) hno).setCell ⟨w.heap.size, 2, none⟩ (.bool false) hno).setCell ⟨w.heap.size, 3, none⟩ (.int .i64 0) hno).setCell ⟨w.heap.size, 4, none⟩ (.int .i64 0) hno).setCell ⟨w.heap.size, 5, none⟩ (.bool false) hno).alloc (.cells #[.int .i64 0, .int .i64 0, .bool false, .int .i64 0, .int .i64 0, .bool false] 52)
  have d0 := hb2.cell 0
  have d1 := hb2.cell 1
  have d2 := hb2.cell 2
  have d3 := hb2.cell 3
  have d4 := hb2.cell 4
  have d5 := hb2.cell 5
  simp only [List.set_cons_zero, List.set_cons_succ, List.getElem?_cons_succ, List.getElem?_cons_zero] at d0 d1 d2 d3 d4 d5
  clear hb2 hno HU1' hlt1
  refine bodyPost_ret (v := .tuple #[.agg #[.int .i64 0, .int .i64 0, .bool false, .int .i64 0, .int .i64 0, .bool false], .int .i64 900]) ?_ rfl ⟨rfl, hu2⟩
  generalize ((((((w1.setCell ⟨w.heap.size, 0, none⟩ (.int .i64 0)).setCell ⟨w.heap.size, 1, none⟩ (.int .i64 0)).setCell ⟨w.heap.size, 2, none⟩ (.bool false)).setCell ⟨w.heap.size, 3, none⟩ (.int .i64 0)).setCell ⟨w.heap.size, 4, none⟩ (.int .i64 0)).setCell ⟨w.heap.size, 5, none⟩ (.bool false)).alloc (.cells #[.int .i64 0, .int .i64 0, .bool false, .int .i64 0, .int .i64 0, .bool false] 52) = W at *
  clear hu2
  simp [results, Tryz.results125, go_sem, d0, d1, d2, d3, d4, d5]
end Go.Proofs.YtepnljeojlbliaaGreat
namespace Go.Proofs.YtepnljeojlbliaaGreat
open Go.RowKit
theorem tcmd1 (x : Int) (w : World) : Calls Tryz.prog 180 #[.int .i64 x] w fun e w' => e = .returned (.bool (notB x)) ∧ w = w' := by
  have hb := lane_byte x
  unfold notB
  cases h : byteB x
  all_goals
    rw [h] at hb
    go_enter Tryz.func180, Tryz.ntmps180
    go_wp2_with (go_at_call 175; refine (hb _).mono ?_; rintro e w1 ⟨rfl, rfl⟩)
    go_ret
    exact ⟨rfl, rfl⟩
/-- May a command have so many data, read so many? -/
def fitsB (o : POp) (n r : Int) : Bool := if o.data = 0 then decide (n = 0) && decide (r = 0) else if o.inn then decide (r = 0) else if o.mode then decide (n = 1) else decide (n = 0)
set_option maxHeartbeats 1000000 in
theorem tab_fits (w : World) (k : Nat) (o : POp) (n r : Int) (h2 : w.cell? ⟨k, 2, none⟩ = some (.bool o.mode)) (h4 : w.cell? ⟨k, 4, none⟩ = some (.int .i64 o.data)) (h5 : w.cell? ⟨k, 5, none⟩ = some (.bool o.inn)) :
    Calls Tryz.prog 181 #[.pointer (some ⟨k, 0, none⟩), .int .i64 n, .int .i64 r] w fun e w' => e = .returned (.bool (fitsB o n r)) ∧ w = w' := by
  obtain ⟨by', ad, mo, du, da, inn⟩ := o
  dsimp only at h2 h4 h5
  by_cases hd : da = 0
  · subst hd
    by_cases hn : n = 0
    · subst hn
      by_cases hr : r = 0
      · subst hr
        go_enter Tryz.func181, Tryz.ntmps181
        go_wp2
        go_ret
        exact ⟨rfl, rfl⟩
      · have hr2 : (r == 0) = false := by simpa using hr
        go_enter Tryz.func181, Tryz.ntmps181
        go_wp2
        go_ret
        exact ⟨by unfold fitsB; dsimp only; rw [if_pos rfl, decide_eq_false hr]; rfl, rfl⟩
    · have hn2 : (n == 0) = false := by simpa using hn
      go_enter Tryz.func181, Tryz.ntmps181
      go_wp2
      go_ret
      exact ⟨by unfold fitsB; dsimp only; rw [if_pos rfl, decide_eq_false hn]; rfl, rfl⟩
  · have hd2 : (da == 0) = false := by simpa using hd
    have hf : fitsB ⟨by', ad, mo, du, da, inn⟩ n r = if inn then decide (r = 0) else if mo then decide (n = 1) else decide (n = 0) := by unfold fitsB; dsimp only; rw [if_neg hd]
    have HF := Lib.hid hf
    clear hf
    by_cases hr : r = 0
    · subst hr
      by_cases hn : n = 0
      · subst hn
        cases inn <;> cases mo
        all_goals
          go_enter Tryz.func181, Tryz.ntmps181
          go_wp2
          go_ret
          exact ⟨by rw [HF.out]; rfl, rfl⟩
      · have hn2 : (n == 0) = false := by simpa using hn
        have hn3 : decide (n = 0) = false := decide_eq_false hn
        by_cases hn1 : n = 1
        · subst hn1
          cases inn <;> cases mo
          all_goals
            go_enter Tryz.func181, Tryz.ntmps181
            go_wp2
            go_ret
            exact ⟨by rw [HF.out]; rfl, rfl⟩
        · have hn4 : (n == 1) = false := by simpa using hn1
          have hn5 : decide (n = 1) = false := decide_eq_false hn1
          rw [hn3, hn5] at HF
          clear hn3 hn5
          cases inn <;> cases mo
          all_goals
            go_enter Tryz.func181, Tryz.ntmps181
            go_wp2
            go_ret
            exact ⟨by rw [HF.out]; rfl, rfl⟩
    · have hr2 : (r == 0) = false := by simpa using hr
      rw [decide_eq_false hr] at HF
      by_cases hn : n = 0
      · subst hn
        cases inn <;> cases mo
        all_goals
          go_enter Tryz.func181, Tryz.ntmps181
          go_wp2
          go_ret
          exact ⟨by rw [HF.out]; rfl, rfl⟩
      · have hn2 : (n == 0) = false := by simpa using hn
        have hn3 : decide (n = 0) = false := decide_eq_false hn
        by_cases hn1 : n = 1
        · subst hn1
          cases inn <;> cases mo
          all_goals
            go_enter Tryz.func181, Tryz.ntmps181
            go_wp2
            go_ret
            exact ⟨by rw [HF.out]; rfl, rfl⟩
        · have hn4 : (n == 1) = false := by simpa using hn1
          have hn5 : decide (n = 1) = false := decide_eq_false hn1
          rw [hn3, hn5] at HF
          clear hn3 hn5
          cases inn <;> cases mo
          all_goals
            go_enter Tryz.func181, Tryz.ntmps181
            go_wp2
            go_ret
            exact ⟨by rw [HF.out]; rfl, rfl⟩
/-- A command's phases. -/
def cmdPhs (o : POp) (k : Int) (data : List Int) (read : Int) : List Ph :=
  ⟨1, [o.byte], 0, 0⟩ :: ((if 0 < o.addr then [⟨o.addr, [k / 65536, k / 256 % 256, k % 256], 0, 0⟩] else []) ++ (if o.mode then [⟨o.addr, data, 0, 0⟩] else []) ++ (if 0 < o.dummy then [⟨0, [], o.dummy, 0⟩] else []) ++ (if o.inn ∧ data ≠ [] then [⟨o.data, data, 0, 0⟩] else []) ++ (if 0 < read then [⟨o.data, [], 0, read⟩] else []))
/-- May a command be so? -/
def cmdMay (o : POp) (k : Int) (data : List Int) (read : Int) : Bool :=
  decide (0 ≤ k ∧ k < 4096) && !(decide (o.addr = 0) && decide (k ≠ 0)) && decide (data.length ≤ 512) && data.all byteB && decide (0 ≤ read ∧ read ≤ 512) && fitsB o data.length read
end Go.Proofs.YtepnljeojlbliaaGreat
namespace Go.Proofs.YtepnljeojlbliaaGreat
open Go.RowKit
def clo_tcmd : Value := .func (.func 180) #[] #[]
set_option maxHeartbeats 1000000 in
theorem index_tcmd (w : World) (v : Value) (xs : List Int) (h : RS w v (ints xs)) :
    Calls Tryz.prog 163 #[v, clo_tcmd] w fun e w' => (∃ r : Int, e = .returned (.int .i64 r) ∧ (xs.any notB = true → 0 ≤ r) ∧ (xs.any notB = false → r = -1)) ∧ w = w' := by
  obtain ⟨h1, a, cap, rfl, h4, h5⟩ := h
  rw [ints_len] at h1 h4 h5 ⊢
  unfold clo_tcmd
  go_enter Tryz.func163, Tryz.ntmps163
  go_wp2_with fail
  go_loopw [8] (fun iv wr => ∃ i : Nat, i ≤ xs.length ∧ iv = .int .i64 i ∧ Hid (w = wr) ∧ ∀ j, j < i → notB (xs.getD j 0) = false) (fun iv _ => xs.length - (intOf iv).toNat)
  case atStart => exact ⟨0, by omega, rfl, Lib.hid rfl, fun j hj => by omega⟩
  case round =>
    obtain ⟨i, hi, rfl, hw, hno⟩ := hrel
    by_cases hlt : i < xs.length
    · obtain ⟨bb, oo, rfl, hbb, hcc⟩ := h5 (by intro h; simp [ints] at h; simp [h] at hlt)
      have hcell : wr.cell? ⟨bb, oo + i, none⟩ = some (.int .i64 (xs.getD i 0)) := by
        rw [← hw.out, hcc i hlt, ints_at _ _ hlt]
      clear hcc
      obtain ⟨y, hy⟩ : ∃ y, xs.getD i 0 = y := ⟨_, rfl⟩
      rw [hy] at hcell
      have HY := Lib.hid hy
      clear hy
      have hmem : y ∈ xs := by rw [← HY.out, List.getD_eq_getElem?_getD, List.getElem?_eq_getElem hlt]; exact List.getElem_mem hlt
      cases hb : notB y with
      | true =>
        have hany : xs.any notB = true := List.any_eq_true.2 ⟨y, hmem, hb⟩
        have HA := Lib.hid hany
        have hnb := hb ▸ tcmd1 y wr
        clear hany hmem
        go_wp2_with (go_at_call 180; refine hnb.mono ?_; rintro e w' ⟨rfl, rfl⟩)
        go_ret
        exact ⟨⟨_, rfl, fun _ => by omega, fun e => by rw [HA.out] at e; cases e⟩, hw.out⟩
      | false =>
        have hnb := hb ▸ tcmd1 y wr
        clear hmem
        go_wp2_with (go_at_call 180; refine hnb.mono ?_; rintro e w' ⟨rfl, rfl⟩)
        refine ⟨?rel, ?measure⟩
        case rel => exact ⟨i + 1, by omega, by go_num, hw, fun j hj => by
          rcases Nat.lt_succ_iff_lt_or_eq.1 hj with h | h
          · exact hno j h
          · subst h; rw [HY.out]; exact hb⟩
        case measure => simp [intOf]; omega
    · have hieq : i = xs.length := by omega
      subst hieq
      go_wp2
      go_ret
      refine ⟨⟨_, rfl, fun e => ?_, fun _ => rfl⟩, hw.out⟩
      obtain ⟨y, hy, hb⟩ := List.any_eq_true.1 e
      obtain ⟨j, hj, rfl⟩ := List.getElem_of_mem hy
      have := hno j hj
      rw [List.getD_eq_getElem?_getD, List.getElem?_eq_getElem hj] at this
      simp only [Option.getD_some] at this
      rw [hb] at this
      cases this
theorem contains_tcmd (w : World) (v : Value) (xs : List Int) (h : RS w v (ints xs)) :
    Calls Tryz.prog 104 #[v, clo_tcmd] w fun e w' => e = .returned (.bool (xs.any notB)) ∧ w = w' := by
  have hi := index_tcmd w v xs h
  obtain ⟨_, a, cap, rfl, -⟩ := h
  unfold clo_tcmd at hi ⊢
  go_enter Tryz.func104, Tryz.ntmps104
  go_wp2_with fail
  refine hi.mono ?_
  rintro e w1 ⟨⟨r, rfl, hr1, hr2⟩, rfl⟩
  cases hb : xs.any notB with
  | true =>
    have := hr1 hb
    clear hr1 hr2
    go_wp2
    go_ret
    exact ⟨by rw [hb]; rfl, rfl⟩
  | false =>
    have := hr2 hb
    subst this
    clear hr1 hr2
    go_wp2
    go_ret
    exact ⟨by rw [hb]; rfl, rfl⟩
end Go.Proofs.YtepnljeojlbliaaGreat
