/- lichenlaw11.CtlForms. -/
import Derived.Test.YtkjdhkpkcepilaaGreatAwake11
import Derived.Test.YtkjdhkpkcepilaaGreatNums
import Derived.BigQuiet
namespace Go.Proofs.YtkjdhkpkcepilaaGreat
open Go.RowKit
set_option maxRecDepth 100000 in
set_option maxHeartbeats 4000000 in
/-- No command reads beyond the chip. -/
theorem command_at3 (at_ : Int) (h : 4096 ≤ at_) (v : Value) (w : World) :
    Calls Tryz.prog 65 #[.agg #[.int .i64 3, .int .i64 1, .bool false, .int .i64 0, .int .i64 1, .bool false], .int .i64 at_, v, .int .i64 1] w fun e w' => e = .returned (.tuple #[.slice none 0 0, .int .i64 900]) ∧ Upd none' w w' := by
  have hof := op_of 3 (by decide)
  have hcells : (opOf 3).cells = #[.int .i64 3, .int .i64 1, .bool false, .int .i64 0, .int .i64 1, .bool false] := by kernel_rfl
  rw [hcells] at hof
  have hn0 : ¬ at_ < 0 := by omega
  clear hcells
  go_enter Tryz.func65, Tryz.ntmps65
  obtain ⟨kb, hkb⟩ : ∃ kb, w.heap.size = kb := ⟨_, rfl⟩
  go_upto_region 3 with (go_at_call 98; refine (hof _).mono ?_; rintro e w1 ⟨rfl, hU1⟩; have hb1 := (Blk.new w [.int .i64 3, .int .i64 1, .bool false, .int .i64 0, .int .i64 1, .bool false] 28).upd hU1 (fun f => f); rw [hkb] at hb1; have hb2 := hb1.alloc (.cells #[.int .i64 3, .int .i64 1, .bool false, .int .i64 0, .int .i64 1, .bool false] 28); have hU2 := Lib.hid ((((Upd.refl none' w).alloc (.cells #[.int .i64 3, .int .i64 1, .bool false, .int .i64 0, .int .i64 1, .bool false] 28)).trans hU1 (fun _ _ f => f)).alloc (.cells #[.int .i64 3, .int .i64 1, .bool false, .int .i64 0, .int .i64 1, .bool false] 28)); have c0 := hb2.cell 0; have c1 := hb2.cell 1; have c2 := hb2.cell 2; have c3 := hb2.cell 3; have c4 := hb2.cell 4; have c5 := hb2.cell 5; simp only [List.getElem?_cons_succ, List.getElem?_cons_zero] at c0 c1 c2 c3 c4 c5; clear hb1 hb2 hU1)
  go_wp2
  go_ret2
  exact ⟨rfl, hU2.out⟩
theorem reg_at3 {c : Cor} {b k : Nat} {r0 r1 r2 L n q : Int} {xs ys : List Int} {w0 w : World} {rows : List (Value × List Value)} (h : Reg c b k r0 r1 r2 L xs ys n q w0 w rows) (at_ : Int) (ha : 4096 ≤ at_) (v : Value) :
    Calls Tryz.prog 36 #[.pointer (some ⟨k, 0, none⟩), .int .i64 3, .int .i64 at_, v, .int .i64 1] w fun e w' => e = .returned (.tuple #[.slice none 0 0, .int .i64 1100]) ∧ Upd none' w w' := by
  obtain ⟨s, N, fo, fi, hA, hC, -⟩ := h
  have hst := k_state hC
  have hfi := tab_find 3 (by decide)
  have hcells : (opOf 3).cells = #[.int .i64 3, .int .i64 1, .bool false, .int .i64 0, .int .i64 1, .bool false] := by kernel_rfl
  rw [hcells] at hfi
  have HCM := Lib.hid (fun w => command_at3 at_ ha v w)
  clear hC hA hcells ha
  go_enter Tryz.func36, Tryz.ntmps36
  go_wp2_with (first | (go_at_call 63; refine hst.mono ?_; rintro e w1 ⟨rfl, rfl⟩) | (go_at_call 64; refine (hfi _).mono ?_; rintro e w2 ⟨rfl, hU2⟩) | (go_at_call 65; refine (HCM.out _).mono ?_; rintro e w3 ⟨rfl, hU3⟩))
  go_ret2
  exact ⟨rfl, (hU2.alloc _).trans hU3 (fun _ _ f => f)⟩
theorem cut_no (k : Nat) (x : Int) (hx : x < 0) (w : World) : Calls Tryz.prog 32 #[.pointer (some ⟨k, 0, none⟩), .int .i64 x] w fun e w' => e = .returned (.int .i64 1100) ∧ w = w' := by
  go_enter Tryz.func32, Tryz.ntmps32
  go_wp2
  go_ret
  exact ⟨rfl, rfl⟩
theorem run_nil (o at_ read : Int) (v : Value) (w : World) : Calls Tryz.prog 36 #[.pointer none, .int .i64 o, .int .i64 at_, v, .int .i64 read] w fun e w' => e = .returned (.tuple #[.slice none 0 0, .int .i64 1]) ∧ w = w' := by
  go_enter Tryz.func36, Tryz.ntmps36
  go_wp2_with (go_at_call 63; refine (state_nil _).mono ?_; rintro e w1 ⟨rfl, rfl⟩)
  go_ret2
  exact ⟨rfl, rfl⟩
theorem read_nil (r : Int) (w : World) : Calls Tryz.prog 44 #[.pointer none, .int .i64 r] w fun e w' => e = .returned (.tuple #[.int .i64 0, .int .i64 1]) ∧ w = w' := by
  go_enter Tryz.func44, Tryz.ntmps44
  go_wp2_with (go_at_call 63; refine (state_nil _).mono ?_; rintro e w1 ⟨rfl, rfl⟩)
  go_ret2
  exact ⟨rfl, rfl⟩
theorem write_nil (r x : Int) (w : World) : Calls Tryz.prog 43 #[.pointer none, .int .i64 r, .int .i64 x] w fun e w' => e = .returned (.int .i64 1) ∧ w = w' := by
  go_enter Tryz.func43, Tryz.ntmps43
  go_wp2_with (go_at_call 63; refine (state_nil _).mono ?_; rintro e w1 ⟨rfl, rfl⟩)
  go_ret
  exact ⟨rfl, rfl⟩
theorem cut_nil (x : Int) (w : World) : Calls Tryz.prog 32 #[.pointer none, .int .i64 x] w fun e w' => e = .returned (.int .i64 1) ∧ w = w' := by
  go_enter Tryz.func32, Tryz.ntmps32
  go_wp2
  go_ret
  exact ⟨rfl, rfl⟩
theorem clocks_nil (w : World) : Calls Tryz.prog 31 #[.pointer none] w fun e w' => e = .returned (.int .i64 0) ∧ w = w' := by
  go_enter Tryz.func31, Tryz.ntmps31
  go_wp2
  go_ret
  exact ⟨rfl, rfl⟩
theorem lost_nil (w : World) : Calls Tryz.prog 46 #[.pointer none] w fun e w' => e = .returned (.bool false) ∧ w = w' := by
  go_enter Tryz.func46, Tryz.ntmps46
  go_wp2
  go_ret
  exact ⟨rfl, rfl⟩
theorem Reg.lit {c : Cor} {b k : Nat} {r0 r1 r2 L n q : Int} {xs ys : List Int} {w0 w : World} {rows : List (Value × List Value)} (h : Reg c b k r0 r1 r2 L xs ys n q w0 w rows) (vs : List Value) (t : TypeId) (m : Nat) (hm : vs.length = m) (hb : m ≤ 1048576) : Reg c b k r0 r1 r2 L xs ys n q w0 (w.alloc (.cells vs.toArray t)) ((.slice (some ⟨w.heap.size, 0, none⟩) m m, vs) :: rows) := by
  obtain ⟨s, N, fo, fi, h1, h2, h3⟩ := h
  exact ⟨s, N, fo, fi, h1, h2.lit vs t m hm hb, h3⟩
theorem upd_drewM (w : World) (n : Nat) : Upd none' w (w.drewN n) := (Upd.refl none' w).drewN n
def cRegs (m : Int) : List Int := [-m, 4 + m, 3, 0, 1, 2, 4, 4]
def cXs (m : Int) : List Int := [0, 0, 0, -m, 4095 + m, 16 + m, 255 + m, -m]
theorem cforms (m : Int) (hm : 1 ≤ m ∧ m ≤ 1024) (j : Nat) (hj : j < 8) : regB ((cRegs m).getD j 0) ((cXs m).getD j 0) = false := by
  refine decide_eq_false ?_
  rcases (show j = 0 ∨ j = 1 ∨ j = 2 ∨ j = 3 ∨ j = 4 ∨ j = 5 ∨ j = 6 ∨ j = 7 by omega) with rfl | rfl | rfl | rfl | rfl | rfl | rfl | rfl
  all_goals
    simp only [cRegs, cXs, List.getD_cons_zero, List.getD_cons_succ]
    omega
set_option maxRecDepth 100000 in
set_option maxHeartbeats 8000000 in
theorem lawCtlForms (w : World) (which : Int) (_ : (Lit.int .i64 which).wf = true) (x : Int) (_ : (Lit.int .i64 x).wf = true) :
    Calls Tryz.prog 11 #[.int .i64 which, .int .i64 x] w fun e w' => e = .returned (.bool true) ∧ Upd none' w w' := by
  obtain ⟨m, hm1, hm2, hmand, hmw⟩ := many_1023 x
  obtain ⟨j, hj, hj8⟩ := uN which 8 (by decide) (by decide)
  rw [show ((8 : Nat) : Int) = 8 from rfl] at hj
  have hand1 := i64_and1 which
  obtain ⟨p, hp⟩ : ∃ p : Nat, which % 2 = (p : Int) := ⟨(which % 2).toNat, by omega⟩
  have hp2 : p < 2 := by omega
  rw [hp] at hand1
  have hw1 : IntKind.i64.wrap (4 + (m : Int)) = 4 + (m : Int) := IntWalk.i64_in _ (by omega)
  have hw2 : IntKind.i64.wrap (4095 + (m : Int)) = 4095 + (m : Int) := IntWalk.i64_in _ (by omega)
  have hw3 : IntKind.i64.wrap (-(m : Int)) = -(m : Int) := IntWalk.i64_in _ (by omega)
  have hw4 : IntKind.i64.wrap (16 + (m : Int)) = 16 + (m : Int) := IntWalk.i64_in _ (by omega)
  have hw5 : IntKind.i64.wrap (255 + (m : Int)) = 255 + (m : Int) := IntWalk.i64_in _ (by omega)
  obtain ⟨fa, hfa⟩ : ∃ fa : ByteArray, (⟨(freshL ⟨#[97]⟩).toArray⟩ : ByteArray) = fa := ⟨_, rfl⟩
  have HFA := Lib.hid hfa
  clear hfa hp
  go_enter Tryz.func11, Tryz.ntmps11
  go_upto_region 5 with (first | (go_at_call 41; refine (awake11 _).mono ?_; rintro e w0 ⟨rfl, hU1⟩) | (go_at_call 42; refine (c_twins11 hU1 _ (by decide) fa HFA.out).mono ?_; rintro e w1 ⟨b, r, rfl, hC1⟩))
  have HN := Lib.hid (reg_new (at_new fa) hC1 (Int.le_refl 0) (by decide))
  clear hC1
  go_upto_region 8 with (first | (go_at_call 28; refine HN.out.mono ?_; rintro e w2 ⟨kk, rfl, hR2⟩) | (go_at_call 25; refine (num_any _ _).mono ?_; rintro e w' ⟨rfl, rfl⟩))
  have hR3 := ((hR2.lit (ints (cRegs m)) 3 8 rfl (by decide)).lit (ints (cXs m)) 3 8 rfl (by decide))
  have hsz1 : ∀ (W : World) (c : Array Value) (t : TypeId), (W.alloc (.cells c t)).heap.size = W.heap.size + 1 := fun W c t => by simp
  simp only [hsz1] at hR3
  obtain ⟨g1, o1, e1, hg1, hc1⟩ := (hR3.rs (List.mem_cons_of_mem _ List.mem_cons_self)).cells (by decide)
  obtain ⟨g2, o2, e2, hg2, hc2⟩ := (hR3.rs List.mem_cons_self).cells (by decide)
  simp only [Option.some.injEq, Addr.mk.injEq, and_true] at e1 e2
  obtain ⟨rfl, rfl⟩ := e1
  obtain ⟨rfl, rfl⟩ := e2
  have k1 := hc1 j hj8
  have k2 := hc2 j hj8
  rw [ints_at _ _ (by exact hj8)] at k1 k2
  rw [Nat.zero_add] at k1 k2
  have hno := cforms m (by omega) j hj8
  obtain ⟨A, hA⟩ : ∃ A, (cRegs m).getD j 0 = A := ⟨_, rfl⟩
  obtain ⟨B, hB⟩ : ∃ B, (cXs m).getD j 0 = B := ⟨_, rfl⟩
  rw [hA] at k1 hno
  rw [hB] at k2 hno
  have hjI : (j : Int) < 8 := by omega
  have HR := Lib.hid hR3
  clear hR2 hR3 hc1 hc2 hA hB hg1 hg2 HN HFA hsz1
  go_upto_region 11 with fail
  obtain ⟨W5, hW5⟩ : ∃ W5 : World, W5 = (w2.alloc (.cells (ints (cRegs m)).toArray 3)).alloc (.cells (ints (cXs m)).toArray 3) := ⟨_, rfl⟩
  change Code.wp _ _ _ _ ((w2.alloc (.cells (ints (cRegs m)).toArray 3)).alloc (.cells (ints (cXs m)).toArray 3))
  rw [← hW5] at k1 k2 HR ⊢
  clear hW5 hj
  generalize w2.heap.size = g1 at *
  have HNO := Lib.hid (fun w (u : Upd none' W5 w) => reg_wno (HR.out.fr u) A B hno)
  go_quiet ((go_at_call 43; refine Calls.quiet_of_same ((HNO.out _ (upd_drewM _ _)).mono (fun _ _ h => ⟨h.1, h.2.symm⟩))))
  have hR6 := HR.out.fr (upd_drewM W5 nq)
  generalize W5.drewN nq = W6 at *
  clear k1 k2 HNO hno HR hw2 hw4
  have hR7 : Reg (Cor.new fa) b kk 0 0 0 (-1) [] [] 0 0 w (W6.alloc (.cells #[.int .i64 (-(m : Int)), .int .i64 (4 + (m : Int))] 3)) ((.slice (some ⟨W6.heap.size, 0, none⟩) 2 2, ints [-(m : Int), 4 + (m : Int)]) :: _) := hR6.lit (ints [-(m : Int), 4 + (m : Int)]) 3 2 rfl (by decide)
  obtain ⟨x1, o1, e1, -, hc1⟩ := (hR7.rs List.mem_cons_self).cells (by decide)
  simp only [Option.some.injEq, Addr.mk.injEq, and_true] at e1
  obtain ⟨rfl, rfl⟩ := e1
  have k1 := hc1 p hp2
  rw [ints_at _ _ (by exact hp2), Nat.zero_add] at k1
  have hA2 : ([-(m : Int), 4 + (m : Int)] : List Int).getD p 0 < 0 ∨ 4 < ([-(m : Int), 4 + (m : Int)] : List Int).getD p 0 := by
    rcases (show p = 0 ∨ p = 1 by omega) with rfl | rfl
    · left; show -(m : Int) < 0; omega
    · right; show 4 < 4 + (m : Int); omega
  obtain ⟨A2, hA2e⟩ : ∃ A2, ([-(m : Int), 4 + (m : Int)] : List Int).getD p 0 = A2 := ⟨_, rfl⟩
  rw [hA2e] at k1 hA2
  have HRN := Lib.hid (reg_rno hR7 A2 hA2)
  have HRE := Lib.hid (reg_rempty hR7)
  have HR7 := Lib.hid hR7
  have hpI : (p : Int) < 2 := by omega
  clear hR6 hR7 hc1 hA2e hA2
  go_upto_region 13 with (go_at_call 44; refine HRN.out.mono ?_; rintro e w7 ⟨rfl, rfl⟩)
  clear k1 HRN HR7 hand1
  go_upto_region 14 with (go_at_call 44; refine HRE.out.mono ?_; rintro e w8 ⟨rfl, hR8⟩)
  have HCN := Lib.hid (cut_no kk (-(m : Int)) (by omega))
  have HNN := Lib.hid (reg_none hR8 (255 + (m : Int)) 0 0 (decide_eq_false (by omega)) (.slice none 0 0))
  have HR8 := Lib.hid hR8
  clear hR8 HRE
  go_upto_region 15 with (go_at_call 32; refine (HCN.out _).mono ?_; rintro e w9 ⟨rfl, rfl⟩)
  go_upto_region 16 with (go_at_call 36; refine HNN.out.mono ?_; rintro e w10 ⟨rfl, hU10⟩)
  have hR10 := HR8.out.fr hU10
  have HAT := Lib.hid (reg_at3 hR10 (4095 + (m : Int)) (by omega) (.slice none 0 0))
  have HR10 := Lib.hid hR10
  have hw2 : IntKind.i64.wrap (4095 + (m : Int)) = 4095 + (m : Int) := IntWalk.i64_in _ (by omega)
  clear hR10 hU10 HR8 HNN HCN
  go_upto_region 17 with (go_at_call 36; refine HAT.out.mono ?_; rintro e w11 ⟨rfl, hU11⟩)
  have hR11 := HR10.out.fr hU11
  have HGO := Lib.hid (go_ok hR11 (by decide) (by decide) (out := []) (by decide) 0 rfl 1100 (by decide) (fun w1 u => (reg_none (hR11.fr u) 0 0 0 (by decide) (.slice none 0 0)).mono (by
    rintro e w' ⟨rfl, hU⟩
    exact ⟨none, 0, rfl, ((hR11.fr u).fr hU).nil⟩)))
  clear hR11 hU11 HR10 HAT
  go_upto_region 19 with (go_at_call 45; refine HGO.out.mono ?_; rintro e w12 ⟨rfl, hR12⟩)
  have HR12 : Hid (Reg (Cor.new fa) b kk 0 0 0 (-1) [] [] 0 0 w w12 _) := Lib.hid hR12
  clear hR12 HGO hw1 hw2 hw3 hw5 hmand hmw
  go_loopw [24] (fun iv wr => ∃ (i : Nat) (xs : List Int), i ≤ 16 ∧ iv = .int .i64 (i : Int) ∧ Hid (xs.length = i ∧ Reg (Cor.new fa) b kk 0 0 0 (-1) xs [] 0 0 w wr [])) (fun iv _ => 16 - (intOf iv).toNat)
  case atStart => exact ⟨0, [], Nat.zero_le _, rfl, Lib.hid ⟨rfl, HR12.out.rowsub fun r hr => (by cases hr)⟩⟩
  case round =>
    clear HR12
    rename World => W2
    obtain ⟨i, xs, hi, rfl, hR⟩ := hrel
    by_cases hlt : i < 16
    · have HW := Lib.hid (reg_wd hR.out.2 (i : Int) (decide_eq_true (by omega)) (by rw [hR.out.1]; exact hlt))
      go_wp2_with (go_at_call 43; refine HW.out.mono ?_; rintro e w13 ⟨rfl, hR13⟩)
      refine ⟨?rel, ?measure⟩
      case rel => exact ⟨i + 1, xs ++ [(i : Int)], by omega, by go_num, Lib.hid ⟨by rw [List.length_append, hR.out.1]; rfl, hR13⟩⟩
      case measure => simp [intOf]; omega
    · obtain rfl : i = 16 := by omega
      have HWF := Lib.hid (reg_wfull hR.out.2 1 (by decide) (by rw [hR.out.1]; exact Nat.le_refl _))
      clear hR
      go_upto_region 23 with (go_at_call 43; refine HWF.out.mono ?_; rintro e w13 ⟨rfl, hR13⟩)
      have HR2 := Lib.hid (reg_r2 hR13)
      have HCK := Lib.hid (reg_clocks hR13)
      have HLO := Lib.hid (reg_lost hR13)
      have HU := Lib.hid hR13.up
      clear hR13 HWF
      go_upto_region 25 with (go_at_call 44; refine HR2.out.mono ?_; rintro e w14 ⟨rfl, rfl⟩)
      go_upto_region 26 with (go_at_call 36; refine (run_nil _ _ _ _ _).mono ?_; rintro e w14 ⟨rfl, rfl⟩)
      go_wp2_with (first | (go_at_call 44; refine (read_nil _ _).mono ?_; rintro e w14 ⟨rfl, rfl⟩) | (go_at_call 25; refine (num_any _ _).mono ?_; rintro e w' ⟨rfl, rfl⟩) | (go_at_call 31; first | (with_reducible refine HCK.out.mono ?_; rintro e w7 ⟨rfl, rfl⟩) | (with_reducible refine (clocks_nil _).mono ?_; rintro e w7 ⟨rfl, rfl⟩)) | (go_at_call 46; first | (with_reducible refine HLO.out.mono ?_; rintro e w7 ⟨rfl, rfl⟩) | (with_reducible refine (lost_nil _).mono ?_; rintro e w7 ⟨rfl, rfl⟩)) | (go_at_call 43; refine (write_nil _ _ _).mono ?_; rintro e w7 ⟨rfl, rfl⟩) | (go_at_call 32; refine (cut_nil _ _).mono ?_; rintro e w7 ⟨rfl, rfl⟩))
      all_goals
        go_ret
        exact ⟨rfl, HU.out⟩
end Go.Proofs.YtkjdhkpkcepilaaGreat
