/- Registers that are read; what is run by registers; a controller that is none. -/
import Derived.Test.YtkjdhkpkcepilaaGreatCtlS
namespace Go.Proofs.YtkjdhkpkcepilaaGreat
open Go.RowKit
theorem reg_r0 {c : Cor} {b k : Nat} {r0 r1 r2 L n q : Int} {xs ys : List Int} {w0 w : World} {rows : List (Value × List Value)} (h : Reg c b k r0 r1 r2 L xs ys n q w0 w rows) :
    Calls Tryz.prog 44 #[.pointer (some ⟨k, 0, none⟩), .int .i64 0] w fun e w' => e = .returned (.tuple #[.int .i64 r0, .int .i64 0]) ∧ w = w' := by
  obtain ⟨s, N, fo, fi, hA, hC, hrest⟩ := h
  obtain ⟨c1, c2, c3, c4, c5, hf⟩ := q_cells hC
  have hst := k_state hC
  clear hC hA hrest hf
  go_enter Tryz.func44, Tryz.ntmps44
  go_wp2_with (go_at_call 63; refine hst.mono ?_; rintro e w1 ⟨rfl, rfl⟩)
  go_ret2
  exact ⟨rfl, rfl⟩
theorem reg_r1 {c : Cor} {b k : Nat} {r0 r1 r2 L n q : Int} {xs ys : List Int} {w0 w : World} {rows : List (Value × List Value)} (h : Reg c b k r0 r1 r2 L xs ys n q w0 w rows) :
    Calls Tryz.prog 44 #[.pointer (some ⟨k, 0, none⟩), .int .i64 1] w fun e w' => e = .returned (.tuple #[.int .i64 r1, .int .i64 0]) ∧ w = w' := by
  obtain ⟨s, N, fo, fi, hA, hC, hrest⟩ := h
  obtain ⟨c1, c2, c3, c4, c5, hf⟩ := q_cells hC
  have hst := k_state hC
  clear hC hA hrest hf
  go_enter Tryz.func44, Tryz.ntmps44
  go_wp2_with (go_at_call 63; refine hst.mono ?_; rintro e w1 ⟨rfl, rfl⟩)
  go_ret2
  exact ⟨rfl, rfl⟩
theorem reg_r2 {c : Cor} {b k : Nat} {r0 r1 r2 L n q : Int} {xs ys : List Int} {w0 w : World} {rows : List (Value × List Value)} (h : Reg c b k r0 r1 r2 L xs ys n q w0 w rows) :
    Calls Tryz.prog 44 #[.pointer (some ⟨k, 0, none⟩), .int .i64 2] w fun e w' => e = .returned (.tuple #[.int .i64 r2, .int .i64 0]) ∧ w = w' := by
  obtain ⟨s, N, fo, fi, hA, hC, hrest⟩ := h
  obtain ⟨c1, c2, c3, c4, c5, hf⟩ := q_cells hC
  have hst := k_state hC
  clear hC hA hrest hf
  go_enter Tryz.func44, Tryz.ntmps44
  go_wp2_with (go_at_call 63; refine hst.mono ?_; rintro e w1 ⟨rfl, rfl⟩)
  go_ret2
  exact ⟨rfl, rfl⟩
/-- How many came. -/
theorem reg_rs {c : Cor} {b k : Nat} {r0 r1 r2 L n q : Int} {xs ys : List Int} {w0 w : World} {rows : List (Value × List Value)} (h : Reg c b k r0 r1 r2 L xs ys n q w0 w rows) :
    Calls Tryz.prog 44 #[.pointer (some ⟨k, 0, none⟩), .int .i64 3] w fun e w' => e = .returned (.tuple #[.int .i64 (ys.length : Int), .int .i64 0]) ∧ Reg c b k r0 r1 r2 L xs ys n q w0 w' rows := by
  have HR := Lib.hid h
  obtain ⟨s, N, fo, fi, hA, hC, hrest⟩ := h
  obtain ⟨c1, c2, c3, c4, c5, hf⟩ := q_cells hC
  have hst := k_state hC
  have hl := fifo_len fi ys w (q_in hC)
  clear hC hA hrest hf
  go_enter Tryz.func44, Tryz.ntmps44
  go_wp2_with (first | (go_at_call 63; refine hst.mono ?_; rintro e w1 ⟨rfl, rfl⟩) | (go_at_call 78; refine hl.mono ?_; rintro e w1 ⟨rfl, hF, hU⟩))
  go_ret2
  exact ⟨rfl, HR.out.fr hU⟩
/-- The first one that came is taken. -/
theorem reg_rd {c : Cor} {b k : Nat} {r0 r1 r2 L n q y : Int} {xs ys : List Int} {w0 w : World} {rows : List (Value × List Value)} (h : Reg c b k r0 r1 r2 L xs (y :: ys) n q w0 w rows) :
    Calls Tryz.prog 44 #[.pointer (some ⟨k, 0, none⟩), .int .i64 4] w fun e w' => e = .returned (.tuple #[.int .i64 y, .int .i64 0]) ∧ Reg c b k r0 r1 r2 L xs ys n q w0 w' rows := by
  obtain ⟨s, N, fo, fi, hA, hC, hrest⟩ := h
  obtain ⟨c1, c2, c3, c4, c5, hf⟩ := q_cells hC
  have hst := k_state hC
  have hl := fifo_pop_ok fi y ys w (q_in hC)
  have HR := Lib.hid (And.intro hA (And.intro hC hrest))
  clear hC hA hrest hf
  go_enter Tryz.func44, Tryz.ntmps44
  go_wp2_with (first | (go_at_call 63; refine hst.mono ?_; rintro e w1 ⟨rfl, rfl⟩) | (go_at_call 79; refine hl.mono ?_; rintro e w1 ⟨rfl, hF, hU⟩))
  go_ret2
  exact ⟨rfl, s, N, fo, fi, HR.out.1, q_in' HR.out.2.1 hF hU, HR.out.2.2⟩
theorem reg_rempty {c : Cor} {b k : Nat} {r0 r1 r2 L n q : Int} {xs : List Int} {w0 w : World} {rows : List (Value × List Value)} (h : Reg c b k r0 r1 r2 L xs [] n q w0 w rows) :
    Calls Tryz.prog 44 #[.pointer (some ⟨k, 0, none⟩), .int .i64 4] w fun e w' => e = .returned (.tuple #[.int .i64 0, .int .i64 800]) ∧ Reg c b k r0 r1 r2 L xs [] n q w0 w' rows := by
  obtain ⟨s, N, fo, fi, hA, hC, hrest⟩ := h
  obtain ⟨c1, c2, c3, c4, c5, hf⟩ := q_cells hC
  have hst := k_state hC
  have hl := fifo_pop_no fi w (q_in hC)
  have HR := Lib.hid (And.intro hA (And.intro hC hrest))
  clear hC hA hrest hf
  go_enter Tryz.func44, Tryz.ntmps44
  go_wp2_with (first | (go_at_call 63; refine hst.mono ?_; rintro e w1 ⟨rfl, rfl⟩) | (go_at_call 79; refine hl.mono ?_; rintro e w1 ⟨rfl, hF, hU⟩))
  go_ret2
  exact ⟨rfl, s, N, fo, fi, HR.out.1, q_in' HR.out.2.1 hF hU, HR.out.2.2⟩
theorem reg_rno {c : Cor} {b k : Nat} {r0 r1 r2 L n q : Int} {xs ys : List Int} {w0 w : World} {rows : List (Value × List Value)} (h : Reg c b k r0 r1 r2 L xs ys n q w0 w rows) (r : Int) (hr : r < 0 ∨ 4 < r) :
    Calls Tryz.prog 44 #[.pointer (some ⟨k, 0, none⟩), .int .i64 r] w fun e w' => e = .returned (.tuple #[.int .i64 0, .int .i64 1100]) ∧ w = w' := by
  obtain ⟨s, N, fo, fi, hA, hC, -⟩ := h
  have hst := k_state hC
  have m0 : (r == 0) = false := by simp; omega
  have m1 : (r == 1) = false := by simp; omega
  have m2 : (r == 2) = false := by simp; omega
  have m3 : (r == 3) = false := by simp; omega
  have m4 : (r == 4) = false := by simp; omega
  clear hC hA
  go_enter Tryz.func44, Tryz.ntmps44
  go_wp2_with (go_at_call 63; refine hst.mono ?_; rintro e w1 ⟨rfl, rfl⟩)
  go_ret2
  exact ⟨rfl, rfl⟩
set_option maxHeartbeats 2000000 in
/-- Nothing is queued. -/
theorem queued_none {c : Cor} {b k : Nat} {r0 r1 r2 L n q : Int} {ys : List Int} {w0 w : World} {rows : List (Value × List Value)} (h : Reg c b k r0 r1 r2 L [] ys n q w0 w rows) :
    Calls Tryz.prog 80 #[.pointer (some ⟨k, 0, none⟩)] w fun e w' => e = .returned (.slice none 0 0) ∧ Upd none' w w' := by
  obtain ⟨s, N, fo, fi, hA, hC, hrest⟩ := h
  obtain ⟨c1, c2, c3, c4, c5, hf⟩ := q_cells hC
  have hl := fifo_len fo [] w (q_out hC)
  clear hC hA hrest hf
  go_enter Tryz.func80, Tryz.ntmps80
  go_wp2_with (go_at_call 78; refine hl.mono ?_; rintro e w1 ⟨rfl, hF, hU⟩)
  clear hl hF
  go_loopw [3, 11] (fun ov iv wr => ov = .slice none 0 0 ∧ iv = .int .i64 0 ∧ Upd none' w wr) (fun _ _ _ => 0)
  case atStart => exact ⟨rfl, rfl, hU⟩
  case round =>
    obtain ⟨rfl, rfl, hU2⟩ := hrel
    go_wp2
    go_ret
    exact ⟨rfl, hU2⟩
theorem Reg.cells {c : Cor} {b k : Nat} {r0 r1 r2 L n q : Int} {xs ys : List Int} {w0 w : World} {rows : List (Value × List Value)} (h : Reg c b k r0 r1 r2 L xs ys n q w0 w rows) :
    ∃ fo fi, w.cell? ⟨k, 1, none⟩ = some (.int .i64 r0) ∧ w.cell? ⟨k, 2, none⟩ = some (.int .i64 r1) ∧ w.cell? ⟨k, 3, none⟩ = some (.int .i64 r2) ∧ w.cell? ⟨k, 4, none⟩ = some (.pointer (some ⟨fo, 0, none⟩)) ∧ w.cell? ⟨k, 5, none⟩ = some (.pointer (some ⟨fi, 0, none⟩)) ∧ (∀ j, w.frozen? ⟨k, j, none⟩ = false) ∧ FifoAt w fi ys ∧ k < w.heap.size := by
  obtain ⟨s, N, fo, fi, hA, hC, -⟩ := h
  obtain ⟨c1, c2, c3, c4, c5, hf⟩ := q_cells hC
  obtain ⟨-, -, -, -, -, -, hk⟩ := ctl_cells hC
  exact ⟨fo, fi, c1, c2, c3, c4, c5, hf, q_in hC, hk⟩
theorem Reg.fresh {c : Cor} {b k : Nat} {r0 r1 r2 L n q : Int} {xs ys : List Int} {w0 w w' : World} {rows : List (Value × List Value)} (h : Reg c b k r0 r1 r2 L xs ys n q w0 w rows) (hu : Upd none' w w') {fo2 : Nat} (hf : FifoAt w' fo2 []) (hn : w.heap.size ≤ fo2) : Reg c b k r0 r1 r2 L [] ys n q w0 (w'.setCell ⟨k, 4, none⟩ (.pointer (some ⟨fo2, 0, none⟩))) rows := by
  obtain ⟨s, N, fo, fi, hA, hC, h3⟩ := h
  exact ⟨s, N, fo2, fi, hA, q_fresh hC hu hf hn, h3⟩
/-- One more has come. -/
theorem Reg.came {c : Cor} {b k : Nat} {r0 r1 r2 L n q : Int} {xs ys : List Int} {w0 w : World} {rows : List (Value × List Value)} (h : Reg c b k r0 r1 r2 L xs ys n q w0 w rows) (y : Int) (hl : ys.length < 16) : ∃ fi, w.cell? ⟨k, 5, none⟩ = some (.pointer (some ⟨fi, 0, none⟩)) ∧ Calls Tryz.prog 77 #[.pointer (some ⟨fi, 0, none⟩), .int .i64 y] w fun e w' => e = .returned (.int .i64 0) ∧ Reg c b k r0 r1 r2 L xs (ys ++ [y]) n q w0 w' rows := by
  obtain ⟨s, N, fo, fi, hA, hC, h3⟩ := h
  obtain ⟨c1, c2, c3, c4, c5, hf⟩ := q_cells hC
  refine ⟨fi, c5, (fifo_push_ok fi y ys w (q_in hC) hl).mono ?_⟩
  rintro e w' ⟨rfl, hF, hU⟩
  exact ⟨rfl, s, N, fo, fi, hA, q_in' hC hF hU, h3⟩
/-- There is no room for what would come. -/
theorem go_full {c : Cor} {b k : Nat} {r0 r1 r2 L n q : Int} {xs ys : List Int} {w0 w : World} {rows : List (Value × List Value)} (h : Reg c b k r0 r1 r2 L xs ys n q w0 w rows) (hl : ys.length ≤ 16) (hr : 16 < r2 + (ys.length : Int)) :
    Calls Tryz.prog 45 #[.pointer (some ⟨k, 0, none⟩)] w fun e w' => e = .returned (.int .i64 801) ∧ Upd none' w w' := by
  obtain ⟨fo, fi, c1, c2, c3, c4, c5, hf, hF, -⟩ := h.cells
  obtain ⟨s, N, fo2, fi2, hA, hC, hrest⟩ := h
  have hst := k_state hC
  have hlen := fifo_len fi ys w hF
  have hw : IntKind.i64.wrap (16 - (ys.length : Int)) = 16 - (ys.length : Int) := IntWalk.i64_in _ (by omega)
  have hgt : 16 - (ys.length : Int) < r2 := by omega
  clear hC hA hrest hf hF
  go_enter Tryz.func45, Tryz.ntmps45
  go_wp2_with (first | (go_at_call 63; refine hst.mono ?_; rintro e w1 ⟨rfl, rfl⟩) | (go_at_call 78; refine hlen.mono ?_; rintro e w1 ⟨rfl, hF, hU⟩))
  go_ret
  exact ⟨rfl, hU⟩
set_option maxRecDepth 100000 in
set_option maxHeartbeats 4000000 in
/-- What the registers tell is run; what came is queued. -/
theorem go_ok {c c' : Cor} {b k : Nat} {r0 r1 r2 L L' n n' q q' : Int} {ys out : List Int} {w0 w : World} {rows : List (Value × List Value)} (h : Reg c b k r0 r1 r2 L [] ys n q w0 w rows) (hl : ys.length ≤ 16) (hr : r2 + (ys.length : Int) ≤ 16) (hol : out.length + ys.length ≤ 16) (m : Nat) (hm : out.length = m) (e1 : Int) (he1 : e1 ≠ 1101)
    (hrun : ∀ w1, Upd none' w w1 → Calls Tryz.prog 36 #[.pointer (some ⟨k, 0, none⟩), .int .i64 r0, .int .i64 r1, .slice none 0 0, .int .i64 r2] w1 fun e w' => ∃ oa oc, e = .returned (.tuple #[.slice oa m oc, .int .i64 e1]) ∧ Reg c' b k r0 r1 r2 L' [] ys n' q' w0 w' ((.slice oa m oc, ints out) :: rows)) :
    Calls Tryz.prog 45 #[.pointer (some ⟨k, 0, none⟩)] w fun e w' => e = .returned (.int .i64 e1) ∧ Reg c' b k r0 r1 r2 L' [] (ys ++ out) n' q' w0 w' rows := by
  obtain ⟨fo, fi, c1, c2, c3, c4, c5, hf, hF, -⟩ := h.cells
  have hst : Calls Tryz.prog 63 #[.pointer (some ⟨k, 0, none⟩)] w fun e w' => e = .returned (.int .i64 0) ∧ w = w' := by
    obtain ⟨s, N, fo2, fi2, hA, hC, hrest⟩ := h
    exact k_state hC
  have hlen := fifo_len fi ys w hF
  have hw : IntKind.i64.wrap (16 - (ys.length : Int)) = 16 - (ys.length : Int) := IntWalk.i64_in _ (by omega)
  have hgt : ¬ 16 - (ys.length : Int) < r2 := by omega
  have HR := Lib.hid h
  have HRUN := Lib.hid hrun
  have HOL := Lib.hid (And.intro hol hm)
  clear h hrun hf hF hol hm
  go_enter Tryz.func45, Tryz.ntmps45
  go_upto_region 7 with (first | (go_at_call 63; refine hst.mono ?_; rintro e w1 ⟨rfl, rfl⟩) | (go_at_call 78; refine hlen.mono ?_; rintro e w1 ⟨rfl, hF, hU⟩))
  have hR1 := (HR.out.fr hU).fr (Upd.refl none' w1).drew
  obtain ⟨fo1, fi1, d1, d2, -, -, -, -, -, -⟩ := (HR.out.fr hU).cells
  have HQ := Lib.hid (queued_none hR1)
  have HR1 := Lib.hid hR1
  have HU := Lib.hid ((hU.trans (Upd.refl none' w1).drew (fun _ _ f => f)))
  clear hlen hst hF hU hR1 c1 c2 c3 c4 c5 HR
  go_region_held3 (fun w' => w'.cell? ⟨k, 1, none⟩ = some (.int .i64 r0) ∧ w'.cell? ⟨k, 2, none⟩ = some (.int .i64 r1)) (first | exact ⟨d1, d2⟩ | exact ⟨x1, x2⟩ | exact ⟨y1, y2⟩) (first | (go_at_call 80; refine HQ.out.mono ?_; rintro e w2 ⟨rfl, hU2⟩; obtain ⟨fo2, fi2, x1, x2, -, -, -, -, -, -⟩ := (HR1.out.fr hU2).cells; have HR2 := Lib.hid (HRUN.out _ (HU.out.trans hU2 (fun _ _ f => f)))) | (go_at_call 36; refine HR2.out.mono ?_; rintro e w3 ⟨oa, oc, rfl, hR3⟩; obtain ⟨fo3, fi3, y1, y2, -, y4, -, -, -, hk3⟩ := hR3.cells))
  have hne : (e1 == 1101) = false := by simpa using he1
  have HR3 := Lib.hid hR3
  have HF4 : Hid (∀ w', Upd none' w3 w' → w'.frozen? ⟨k, 4, none⟩ = false ∧ w'.cell? ⟨k, 4, none⟩ = some (.pointer (some ⟨fo3, 0, none⟩))) := Lib.hid (fun w' u => by
    obtain ⟨fo5, fi5, -, -, -, c5, -, hf5, -, hk5⟩ := (hR3.fr u).cells
    exact ⟨hf5 4, (u.cell (p := ⟨k, 4, none⟩) hk3 (fun f => f)).trans y4⟩)
  clear hR3 HR2 HR1 HQ HRUN HU d1 d2 x1 x2 y1 y2 y4 hk3 he1 hgt hw
  go_wp2_with (go_at_call 58; refine (fifo_new_ok _).mono ?_; rintro e w4 ⟨fo4, rfl, hs4, hF4, hU4⟩; obtain ⟨hz4, hz5⟩ := HF4.out _ hU4)
  have HR5 := Lib.hid (HR3.out.fresh hU4 hF4 hs4)
  clear hF4 hs4 hU4 hz4 hz5 HR3 HF4
  have hm16 : m ≤ 16 := by have := HOL.out; omega
  go_loopw [53] (fun iv wr => ∃ i : Nat, i ≤ m ∧ iv = .int .i64 (i : Int) ∧ Hid (Reg c' b k r0 r1 r2 L' [] (ys ++ out.take i) n' q' w0 wr ((.slice oa m oc, ints out) :: rows))) (fun iv _ => m - (intOf iv).toNat)
  case atStart => exact ⟨0, Nat.zero_le _, rfl, Lib.hid (by rw [List.take_zero, List.append_nil]; exact HR5.out)⟩
  case round =>
    clear HR5
    rename World => W2
    obtain ⟨i, hi, rfl, hR⟩ := hrel
    by_cases hlt : i < m
    · obtain ⟨gx, ox, rfl, hgx, hcc⟩ := (hR.out.rs List.mem_cons_self).cells (by omega)
      have hcell := hcc i hlt
      rw [ints_at _ _ (by rw [HOL.out.2]; exact hlt)] at hcell
      obtain ⟨y, hy⟩ : ∃ y, out.getD i 0 = y := ⟨_, rfl⟩
      rw [hy] at hcell
      obtain ⟨fi6, z5, hpush⟩ := hR.out.came y (by rw [List.length_append, List.length_take]; have := HOL.out; omega)
      have htk : ys ++ out.take i ++ [y] = ys ++ out.take (i + 1) := by
        rw [List.append_assoc, List.take_add_one, ← hy]
        congr 1
        simp [List.getD_eq_getElem?_getD, List.getElem?_eq_getElem (show i < out.length by rw [HOL.out.2]; exact hlt)]
      rw [htk] at hpush
      have HP := Lib.hid hpush
      clear hpush hR hcc hgx hy htk
      go_wp2_with (go_at_call 77; refine HP.out.mono ?_; rintro e w6 ⟨rfl, hR6⟩)
      refine ⟨?rel, ?measure⟩
      case rel => exact ⟨i + 1, by omega, by go_num, Lib.hid hR6⟩
      case measure => simp [intOf]; omega
    · obtain rfl : i = m := by omega
      have hfin := hR.out
      rw [List.take_of_length_le (by rw [HOL.out.2]; exact Nat.le_refl _)] at hfin
      have HFIN := Lib.hid hfin
      clear hfin hR
      go_wp2
      go_ret
      exact ⟨rfl, HFIN.out.rowsub fun r hr => List.mem_cons_of_mem _ hr⟩
theorem ctlnew_nil (w : World) : Calls Tryz.prog 28 #[.pointer none] w fun e w' => e = .returned (.tuple #[.pointer none, .int .i64 1]) ∧ w = w' := by
  go_enter Tryz.func28, Tryz.ntmps28
  go_wp2
  go_ret2
  exact ⟨rfl, rfl⟩
theorem state_nil (w : World) : Calls Tryz.prog 63 #[.pointer none] w fun e w' => e = .returned (.int .i64 1) ∧ w = w' := by
  go_enter Tryz.func63, Tryz.ntmps63
  go_wp2
  go_ret
  exact ⟨rfl, rfl⟩
theorem go_nil (w : World) : Calls Tryz.prog 45 #[.pointer none] w fun e w' => e = .returned (.int .i64 1) ∧ w = w' := by
  go_enter Tryz.func45, Tryz.ntmps45
  go_wp2_with (go_at_call 63; refine (state_nil _).mono ?_; rintro e w1 ⟨rfl, rfl⟩)
  go_ret
  exact ⟨rfl, rfl⟩
/-- A read on one lane. -/
theorem rd3_may (at_ : Int) (hk : 0 ≤ at_ ∧ at_ < 4096) (m : Nat) (hm : m ≤ 512) : cmdMay (opOf 3) at_ [] (m : Int) = true := by
  have e1 : opOf 3 = ⟨3, 1, false, 0, 1, false⟩ := by kernel_rfl
  rw [e1]
  unfold cmdMay fitsB
  simp
  omega
theorem rd3_many (at_ : Int) (m : Nat) : phsMany (cmdPhs (opOf 3) at_ [] (m : Int)) = 32 + 8 * (m : Int) := by
  have e1 : opOf 3 = ⟨3, 1, false, 0, 1, false⟩ := by kernel_rfl
  have e : cmdPhs (opOf 3) at_ [] m = [⟨1, [3], 0, 0⟩, ⟨1, [at_ / 65536, at_ / 256 % 256, at_ % 256], 0, 0⟩] ++ if 0 < (m : Int) then [⟨1, [], 0, (m : Int)⟩] else [] := by
    rw [e1]
    unfold cmdPhs
    dsimp only
    rw [if_pos (by decide), if_neg (by decide), if_neg (by decide), if_neg (by simp)]
    rfl
  rw [e]
  by_cases h0 : 0 < (m : Int)
  · rw [if_pos h0]
    show 0 + ((0 : Int) + ((1 : Int) + 0) * 8) + ((0 : Int) + ((3 : Int) + 0) * 8) + ((0 : Int) + ((0 : Int) + m) * 8) = _
    omega
  · rw [if_neg h0, show m = 0 by omega]
    rfl
theorem id_may (m : Nat) (hm : m ≤ 512) : cmdMay (opOf 159) 0 [] (m : Int) = true := by
  have e1 : opOf 159 = ⟨159, 0, false, 0, 1, false⟩ := by kernel_rfl
  rw [e1]
  unfold cmdMay fitsB
  simp
  omega
theorem id_many (m : Nat) : phsMany (cmdPhs (opOf 159) 0 [] (m : Int)) = 8 + 8 * (m : Int) := by
  have e1 : opOf 159 = ⟨159, 0, false, 0, 1, false⟩ := by kernel_rfl
  have e : cmdPhs (opOf 159) 0 [] m = [⟨1, [159], 0, 0⟩] ++ if 0 < (m : Int) then [⟨1, [], 0, (m : Int)⟩] else [] := by rw [e1]; rfl
  rw [e]
  by_cases h0 : 0 < (m : Int)
  · rw [if_pos h0]
    show 0 + ((0 : Int) + ((1 : Int) + 0) * 8) + ((0 : Int) + ((0 : Int) + m) * 8) = _
    omega
  · rw [if_neg h0, show m = 0 by omega]
    rfl
theorem idL_len (m : Nat) : (idL m).length = m := by unfold idL; rw [List.length_map, List.length_range]
theorem reg_read3 {c : Cor} {b k : Nat} {r0 r1 r2 L n q : Int} {xs ys : List Int} {w0 w : World} {rows : List (Value × List Value)} (h : Reg c b k r0 r1 r2 L xs ys n q w0 w rows) (hg : c.goes = false) (hj : c.job = none) (at_ : Int) (hk : 0 ≤ at_ ∧ at_ < 4096) (m : Nat) (hm : m ≤ 512) (hn : n + (33 + 8 * (m : Int)) ≤ 1048575) (L' : Int) (hL : L = -1 ∧ L' = -1 ∨ 32 + 8 * (m : Int) ≤ L ∧ L' = L - (32 + 8 * (m : Int))) :
    Calls Tryz.prog 36 #[.pointer (some ⟨k, 0, none⟩), .int .i64 3, .int .i64 at_, .slice none 0 0, .int .i64 (m : Int)] w fun e w' => ∃ oa oc, e = .returned (.tuple #[.slice oa m oc, .int .i64 0]) ∧ Reg c b k r0 r1 r2 L' xs ys (n + (33 + 8 * (m : Int))) (q + (32 + 8 * (m : Int))) w0 w' ((.slice oa m oc, ints (intsOf (fetched c.a at_ m))) :: rows) := by
  have hr := reg_run h.nil 3 (by decide) (by decide) at_ none 0 [] List.mem_cons_self (m : Int) (rd3_may at_ hk m hm) c (intsOf (fetched c.a at_ m)) (32 + 8 * (m : Int)) (rd3_many at_ m) (by omega) L' hL (fun t ht => by
    obtain ⟨d, h1, h2, h3, h4⟩ := rd3_all ht hg hj at_ hk m
    refine ⟨d, h1, h2, ?_, h4⟩
    rw [h3]
    unfold intsOf fetched byteOf
    rw [List.map_map]
    rfl)
  rw [show (intsOf (fetched c.a at_ m)).length = m from by unfold intsOf; rw [List.length_map, fetched_len]] at hr
  refine hr.mono ?_
  rintro e w' ⟨oa, oc, rfl, h2⟩
  refine ⟨oa, oc, rfl, ?_⟩
  rw [show n + (33 + 8 * (m : Int)) = n + (32 + 8 * (m : Int)) + 1 by omega]
  refine h2.rowsub fun r hr => ?_
  rcases List.mem_cons.1 hr with h | h
  · exact List.mem_cons.2 (.inl h)
  · exact List.mem_cons.2 (.inr (List.mem_cons_of_mem _ h))
theorem reg_id {c : Cor} {b k : Nat} {r0 r1 r2 L n q : Int} {xs ys : List Int} {w0 w : World} {rows : List (Value × List Value)} (h : Reg c b k r0 r1 r2 L xs ys n q w0 w rows) (hg : c.goes = false) (hj : c.job = none) (m : Nat) (hm : m ≤ 512) (hn : n + (9 + 8 * (m : Int)) ≤ 1048575) (L' : Int) (hL : L = -1 ∧ L' = -1 ∨ 8 + 8 * (m : Int) ≤ L ∧ L' = L - (8 + 8 * (m : Int))) :
    Calls Tryz.prog 36 #[.pointer (some ⟨k, 0, none⟩), .int .i64 159, .int .i64 0, .slice none 0 0, .int .i64 (m : Int)] w fun e w' => ∃ oa oc, e = .returned (.tuple #[.slice oa m oc, .int .i64 0]) ∧ Reg c b k r0 r1 r2 L' xs ys (n + (9 + 8 * (m : Int))) (q + (8 + 8 * (m : Int))) w0 w' ((.slice oa m oc, ints (idL m)) :: rows) := by
  have hr := reg_run h.nil 159 (by decide) (by decide) 0 none 0 [] List.mem_cons_self (m : Int) (id_may m hm) c (idL m) (8 + 8 * (m : Int)) (id_many m) (by omega) L' hL (fun t ht => id_all ht hg hj m)
  rw [idL_len] at hr
  refine hr.mono ?_
  rintro e w' ⟨oa, oc, rfl, h2⟩
  refine ⟨oa, oc, rfl, ?_⟩
  rw [show n + (9 + 8 * (m : Int)) = n + (8 + 8 * (m : Int)) + 1 by omega]
  refine h2.rowsub fun r hr => ?_
  rcases List.mem_cons.1 hr with h | h
  · exact List.mem_cons.2 (.inl h)
  · exact List.mem_cons.2 (.inr (List.mem_cons_of_mem _ h))
end Go.Proofs.YtkjdhkpkcepilaaGreat
