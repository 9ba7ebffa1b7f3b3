/- lichenlaw15.ProbeBits. -/
import Derived.Test.YtkjdhkpkcepilaaGreatAwake15
namespace Go.Proofs.YtkjdhkpkcepilaaGreat
open Go.RowKit
theorem Rdy.bounds {Q : Own} {c : Cor} {b k fo fi : Nat} {n q : Int} {w0 w : World} {rows : List (Value × List Value)} (h : Rdy Q c b k fo fi n q w0 w rows) : 0 ≤ q ∧ q ≤ n ∧ n ≤ 1048575 := by
  obtain ⟨s, N, K, hQ, hA, hC, hN0, hN, hl, hlo, hgo, hkc, hq0, hqn, hn⟩ := h
  exact ⟨hq0, hqn, hn⟩
def bitsC (fa : ByteArray) (p q : Bool) : Cor := { Cor.new fa with prot := p, quad := q }
set_option maxRecDepth 100000 in
set_option maxHeartbeats 8000000 in
theorem lawProbeBits (w : World) (v0 : Value) (zs : List Int) (h0 : IntsR w v0 zs) :
    Calls Tryz.prog 10 #[v0] w fun e w' => e = .returned (.bool true) ∧ Upd none' w w' := by
  obtain ⟨fa, hfa⟩ : ∃ fa : ByteArray, (⟨(freshL ⟨#[97]⟩).toArray⟩ : ByteArray) = fa := ⟨_, rfl⟩
  have hsz : fa.size = 4096 := by rw [← hfa]; simpa [ByteArray.size] using freshL_len _
  have HFA := Lib.hid hfa
  obtain ⟨k1, k2, a0, cap0, rfl, k4, k5⟩ := h0
  obtain ⟨M, hM⟩ : ∃ M, zs.length = M := ⟨_, rfl⟩
  rw [hM] at k4 k5 ⊢
  have HK := Lib.hid k5
  have HM := Lib.hid hM
  clear hfa k2 k5 hM k1
  go_enter Tryz.func10, Tryz.ntmps10
  go_upto_region 4 with (first | (go_at_call 34; refine (awake15 _).mono ?_; rintro e w0 ⟨rfl, hU1⟩) | (go_at_call 35; refine (c_twins15 hU1 _ (by decide) fa HFA.out).mono ?_; rintro e w1 ⟨b, r, rfl, hC1⟩))
  have HN := Lib.hid (rdy_new Own.emp_ok (at_new fa) hC1 (Int.le_refl 0) (by decide))
  clear hC1
  go_upto_region 7 with (first | (go_at_call 28; refine HN.out.mono ?_; rintro e w2 ⟨kk, fo, fi, rfl, hR2⟩) | (go_at_call 25; refine (num_any _ _).mono ?_; rintro e w' ⟨rfl, rfl⟩))
  have HC := Lib.hid (rdy_cells hR2 fa rfl)
  have HR2 : Hid (Rdy .emp (bitsC fa false false) b kk fo fi (0 + 68 * ((0 : Nat) : Int)) 0 w w2 []) := Lib.hid hR2
  clear hR2 HN
  go_upto_region 12 with (go_at_call 24; refine HC.out.mono ?_; rintro e w3 ⟨rfl, rfl⟩)
  clear HC
  go_loopw [8, 9, 10] (fun pv qv iv wr => ∃ (i : Nat) (q : Int) (P Q : Bool), i ≤ M ∧ i ≤ 8 ∧ pv = .int .i64 (if P then 4 else 0) ∧ qv = .int .i64 (if Q then 2 else 0) ∧ iv = .int .i64 (i : Int) ∧ Hid (Rdy .emp (bitsC fa P Q) b kk fo fi (0 + 68 * (i : Int)) q w wr [])) (fun _ _ iv _ => 8 - (intOf iv).toNat)
  case atStart => exact ⟨0, 0, false, false, Nat.zero_le _, Nat.zero_le _, rfl, rfl, rfl, HR2⟩
  case round =>
    clear HR2
    rename World => W2
    obtain ⟨i, q, P, Q, hi1, hi2, rfl, rfl, rfl, hR⟩ := hrel
    by_cases hlt : i < M ∧ i < 8
    · obtain ⟨hl1, hl2⟩ := hlt
      obtain ⟨bb, oo, rfl, hbb, hcc⟩ := HK.out (by intro h; have := HM.out; rw [h] at this; simp at this; omega)
      obtain ⟨x, hx⟩ : ∃ x, zs.getD i 0 = x := ⟨_, rfl⟩
      have hcell : W2.cell? ⟨bb, oo + i, none⟩ = some (.int .i64 x) := by
        rw [hR.out.up.cell (p := ⟨bb, oo + i, none⟩) hbb (fun f => f), hcc i hl1, hx]
      have ha1 := i64_and1 x
      have hbd := hR.out.bounds
      have HCK := Lib.hid (rdy_clocks hR.out)
      have HB := Lib.hid (show 0 ≤ q ∧ q ≤ 600 by omega)
      clear hcc hx hbb hbd
      rcases (show x % 2 = 1 ∨ x % 2 = 0 by omega) with hb | hb
      all_goals
        rw [hb] at ha1
        clear hb
      all_goals cases P <;> cases Q
      · have hr : Calls Tryz.prog 38 #[.pointer (some ⟨kk, 0, none⟩)] W2 fun e w' => e = .returned (.int .i64 0) ∧ Rdy .emp (bitsC fa false true) b kk fo fi (0 + 68 * (i : Int) + 68) (q + 64) w w' [] := rdy_quad hR.out rfl rfl rfl (by omega)
        have HR := Lib.hid hr
        have hw1 : IntKind.i64.wrap (q + 16) = q + 16 := IntWalk.i64_in _ (by have := HB.out; omega)
        have hw2 : IntKind.i64.wrap (q + 16 + 16) = q + 32 := by rw [IntWalk.i64_in _ (by have := HB.out; omega)]; omega
        have hw3 : IntKind.i64.wrap (q + 32 + 8) = q + 40 := by rw [IntWalk.i64_in _ (by have := HB.out; omega)]; omega
        have hw4 : IntKind.i64.wrap (q + 40 + 24) = q + 64 := by rw [IntWalk.i64_in _ (by have := HB.out; omega)]; omega
        clear hr hR
        go_upto_region 24 with (first | (go_at_call 31; refine HCK.out.mono ?_; rintro e w4 ⟨rfl, rfl⟩) | (go_at_call 38; refine HR.out.mono ?_; rintro e w4 ⟨rfl, hR4⟩) | (go_at_call 25; refine (num_any _ _).mono ?_; rintro e w' ⟨rfl, rfl⟩))
        have HST := Lib.hid (rdy_status hR4 rfl 0 2 rfl rfl)
        clear hR4 HR HCK hcell ha1
        go_upto_region 25 with (go_at_call 40; refine HST.out.mono ?_; rintro e w5 ⟨rfl, hR5⟩)
        have HCK2 := Lib.hid (rdy_clocks hR5)
        have HR5 := Lib.hid hR5
        clear hR5 HST
        go_wp2_with (go_at_call 31; refine HCK2.out.mono ?_; rintro e w6 ⟨rfl, rfl⟩)
        refine ⟨?rel, ?measure⟩
        case rel =>
          refine ⟨i + 1, q + 64, false, true, by omega, by omega, rfl, rfl, by go_num, Lib.hid ?_⟩
          rw [show (0 : Int) + 68 * ((i + 1 : Nat) : Int) = 0 + 68 * (i : Int) + 68 by omega]
          exact HR5.out
        case measure => simp [intOf]; omega
      · have hr : Calls Tryz.prog 38 #[.pointer (some ⟨kk, 0, none⟩)] W2 fun e w' => e = .returned (.int .i64 0) ∧ Rdy .emp (bitsC fa false true) b kk fo fi (0 + 68 * (i : Int) + 68) (q + 16) w w' [] := rdy_quad hR.out rfl rfl rfl (by omega)
        have HR := Lib.hid hr
        have hw1 : IntKind.i64.wrap (q + 16) = q + 16 := IntWalk.i64_in _ (by have := HB.out; omega)
        have hw2 : IntKind.i64.wrap (q + 16 + 16) = q + 32 := by rw [IntWalk.i64_in _ (by have := HB.out; omega)]; omega
        have hw3 : IntKind.i64.wrap (q + 32 + 8) = q + 40 := by rw [IntWalk.i64_in _ (by have := HB.out; omega)]; omega
        have hw4 : IntKind.i64.wrap (q + 40 + 24) = q + 64 := by rw [IntWalk.i64_in _ (by have := HB.out; omega)]; omega
        clear hr hR
        go_upto_region 24 with (first | (go_at_call 31; refine HCK.out.mono ?_; rintro e w4 ⟨rfl, rfl⟩) | (go_at_call 38; refine HR.out.mono ?_; rintro e w4 ⟨rfl, hR4⟩) | (go_at_call 25; refine (num_any _ _).mono ?_; rintro e w' ⟨rfl, rfl⟩))
        have HST := Lib.hid (rdy_status hR4 rfl 0 2 rfl rfl)
        clear hR4 HR HCK hcell ha1
        go_upto_region 25 with (go_at_call 40; refine HST.out.mono ?_; rintro e w5 ⟨rfl, hR5⟩)
        have HCK2 := Lib.hid (rdy_clocks hR5)
        have HR5 := Lib.hid hR5
        clear hR5 HST
        go_wp2_with (go_at_call 31; refine HCK2.out.mono ?_; rintro e w6 ⟨rfl, rfl⟩)
        refine ⟨?rel, ?measure⟩
        case rel =>
          refine ⟨i + 1, q + 16, false, true, by omega, by omega, rfl, rfl, by go_num, Lib.hid ?_⟩
          rw [show (0 : Int) + 68 * ((i + 1 : Nat) : Int) = 0 + 68 * (i : Int) + 68 by omega]
          exact HR5.out
        case measure => simp [intOf]; omega
      · have hr : Calls Tryz.prog 38 #[.pointer (some ⟨kk, 0, none⟩)] W2 fun e w' => e = .returned (.int .i64 0) ∧ Rdy .emp (bitsC fa true true) b kk fo fi (0 + 68 * (i : Int) + 68) (q + 64) w w' [] := rdy_quad hR.out rfl rfl rfl (by omega)
        have HR := Lib.hid hr
        have hw1 : IntKind.i64.wrap (q + 16) = q + 16 := IntWalk.i64_in _ (by have := HB.out; omega)
        have hw2 : IntKind.i64.wrap (q + 16 + 16) = q + 32 := by rw [IntWalk.i64_in _ (by have := HB.out; omega)]; omega
        have hw3 : IntKind.i64.wrap (q + 32 + 8) = q + 40 := by rw [IntWalk.i64_in _ (by have := HB.out; omega)]; omega
        have hw4 : IntKind.i64.wrap (q + 40 + 24) = q + 64 := by rw [IntWalk.i64_in _ (by have := HB.out; omega)]; omega
        clear hr hR
        go_upto_region 24 with (first | (go_at_call 31; refine HCK.out.mono ?_; rintro e w4 ⟨rfl, rfl⟩) | (go_at_call 38; refine HR.out.mono ?_; rintro e w4 ⟨rfl, hR4⟩) | (go_at_call 25; refine (num_any _ _).mono ?_; rintro e w' ⟨rfl, rfl⟩))
        have HST := Lib.hid (rdy_status hR4 rfl 4 2 rfl rfl)
        clear hR4 HR HCK hcell ha1
        go_upto_region 25 with (go_at_call 40; refine HST.out.mono ?_; rintro e w5 ⟨rfl, hR5⟩)
        have HCK2 := Lib.hid (rdy_clocks hR5)
        have HR5 := Lib.hid hR5
        clear hR5 HST
        go_wp2_with (go_at_call 31; refine HCK2.out.mono ?_; rintro e w6 ⟨rfl, rfl⟩)
        refine ⟨?rel, ?measure⟩
        case rel =>
          refine ⟨i + 1, q + 64, true, true, by omega, by omega, rfl, rfl, by go_num, Lib.hid ?_⟩
          rw [show (0 : Int) + 68 * ((i + 1 : Nat) : Int) = 0 + 68 * (i : Int) + 68 by omega]
          exact HR5.out
        case measure => simp [intOf]; omega
      · have hr : Calls Tryz.prog 38 #[.pointer (some ⟨kk, 0, none⟩)] W2 fun e w' => e = .returned (.int .i64 0) ∧ Rdy .emp (bitsC fa true true) b kk fo fi (0 + 68 * (i : Int) + 68) (q + 16) w w' [] := rdy_quad hR.out rfl rfl rfl (by omega)
        have HR := Lib.hid hr
        have hw1 : IntKind.i64.wrap (q + 16) = q + 16 := IntWalk.i64_in _ (by have := HB.out; omega)
        have hw2 : IntKind.i64.wrap (q + 16 + 16) = q + 32 := by rw [IntWalk.i64_in _ (by have := HB.out; omega)]; omega
        have hw3 : IntKind.i64.wrap (q + 32 + 8) = q + 40 := by rw [IntWalk.i64_in _ (by have := HB.out; omega)]; omega
        have hw4 : IntKind.i64.wrap (q + 40 + 24) = q + 64 := by rw [IntWalk.i64_in _ (by have := HB.out; omega)]; omega
        clear hr hR
        go_upto_region 24 with (first | (go_at_call 31; refine HCK.out.mono ?_; rintro e w4 ⟨rfl, rfl⟩) | (go_at_call 38; refine HR.out.mono ?_; rintro e w4 ⟨rfl, hR4⟩) | (go_at_call 25; refine (num_any _ _).mono ?_; rintro e w' ⟨rfl, rfl⟩))
        have HST := Lib.hid (rdy_status hR4 rfl 4 2 rfl rfl)
        clear hR4 HR HCK hcell ha1
        go_upto_region 25 with (go_at_call 40; refine HST.out.mono ?_; rintro e w5 ⟨rfl, hR5⟩)
        have HCK2 := Lib.hid (rdy_clocks hR5)
        have HR5 := Lib.hid hR5
        clear hR5 HST
        go_wp2_with (go_at_call 31; refine HCK2.out.mono ?_; rintro e w6 ⟨rfl, rfl⟩)
        refine ⟨?rel, ?measure⟩
        case rel =>
          refine ⟨i + 1, q + 16, true, true, by omega, by omega, rfl, rfl, by go_num, Lib.hid ?_⟩
          rw [show (0 : Int) + 68 * ((i + 1 : Nat) : Int) = 0 + 68 * (i : Int) + 68 by omega]
          exact HR5.out
        case measure => simp [intOf]; omega
      · have hr : Calls Tryz.prog 39 #[.pointer (some ⟨kk, 0, none⟩)] W2 fun e w' => e = .returned (.int .i64 0) ∧ Rdy .emp (bitsC fa true false) b kk fo fi (0 + 68 * (i : Int) + 68) (q + 64) w w' [] := rdy_protect hR.out rfl rfl rfl (by omega)
        have HR := Lib.hid hr
        have hw1 : IntKind.i64.wrap (q + 16) = q + 16 := IntWalk.i64_in _ (by have := HB.out; omega)
        have hw2 : IntKind.i64.wrap (q + 16 + 16) = q + 32 := by rw [IntWalk.i64_in _ (by have := HB.out; omega)]; omega
        have hw3 : IntKind.i64.wrap (q + 32 + 8) = q + 40 := by rw [IntWalk.i64_in _ (by have := HB.out; omega)]; omega
        have hw4 : IntKind.i64.wrap (q + 40 + 24) = q + 64 := by rw [IntWalk.i64_in _ (by have := HB.out; omega)]; omega
        clear hr hR
        go_upto_region 24 with (first | (go_at_call 31; refine HCK.out.mono ?_; rintro e w4 ⟨rfl, rfl⟩) | (go_at_call 39; refine HR.out.mono ?_; rintro e w4 ⟨rfl, hR4⟩) | (go_at_call 25; refine (num_any _ _).mono ?_; rintro e w' ⟨rfl, rfl⟩))
        have HST := Lib.hid (rdy_status hR4 rfl 4 0 rfl rfl)
        clear hR4 HR HCK hcell ha1
        go_upto_region 25 with (go_at_call 40; refine HST.out.mono ?_; rintro e w5 ⟨rfl, hR5⟩)
        have HCK2 := Lib.hid (rdy_clocks hR5)
        have HR5 := Lib.hid hR5
        clear hR5 HST
        go_wp2_with (go_at_call 31; refine HCK2.out.mono ?_; rintro e w6 ⟨rfl, rfl⟩)
        refine ⟨?rel, ?measure⟩
        case rel =>
          refine ⟨i + 1, q + 64, true, false, by omega, by omega, rfl, rfl, by go_num, Lib.hid ?_⟩
          rw [show (0 : Int) + 68 * ((i + 1 : Nat) : Int) = 0 + 68 * (i : Int) + 68 by omega]
          exact HR5.out
        case measure => simp [intOf]; omega
      · have hr : Calls Tryz.prog 39 #[.pointer (some ⟨kk, 0, none⟩)] W2 fun e w' => e = .returned (.int .i64 0) ∧ Rdy .emp (bitsC fa true true) b kk fo fi (0 + 68 * (i : Int) + 68) (q + 64) w w' [] := rdy_protect hR.out rfl rfl rfl (by omega)
        have HR := Lib.hid hr
        have hw1 : IntKind.i64.wrap (q + 16) = q + 16 := IntWalk.i64_in _ (by have := HB.out; omega)
        have hw2 : IntKind.i64.wrap (q + 16 + 16) = q + 32 := by rw [IntWalk.i64_in _ (by have := HB.out; omega)]; omega
        have hw3 : IntKind.i64.wrap (q + 32 + 8) = q + 40 := by rw [IntWalk.i64_in _ (by have := HB.out; omega)]; omega
        have hw4 : IntKind.i64.wrap (q + 40 + 24) = q + 64 := by rw [IntWalk.i64_in _ (by have := HB.out; omega)]; omega
        clear hr hR
        go_upto_region 24 with (first | (go_at_call 31; refine HCK.out.mono ?_; rintro e w4 ⟨rfl, rfl⟩) | (go_at_call 39; refine HR.out.mono ?_; rintro e w4 ⟨rfl, hR4⟩) | (go_at_call 25; refine (num_any _ _).mono ?_; rintro e w' ⟨rfl, rfl⟩))
        have HST := Lib.hid (rdy_status hR4 rfl 4 2 rfl rfl)
        clear hR4 HR HCK hcell ha1
        go_upto_region 25 with (go_at_call 40; refine HST.out.mono ?_; rintro e w5 ⟨rfl, hR5⟩)
        have HCK2 := Lib.hid (rdy_clocks hR5)
        have HR5 := Lib.hid hR5
        clear hR5 HST
        go_wp2_with (go_at_call 31; refine HCK2.out.mono ?_; rintro e w6 ⟨rfl, rfl⟩)
        refine ⟨?rel, ?measure⟩
        case rel =>
          refine ⟨i + 1, q + 64, true, true, by omega, by omega, rfl, rfl, by go_num, Lib.hid ?_⟩
          rw [show (0 : Int) + 68 * ((i + 1 : Nat) : Int) = 0 + 68 * (i : Int) + 68 by omega]
          exact HR5.out
        case measure => simp [intOf]; omega
      · have hr : Calls Tryz.prog 39 #[.pointer (some ⟨kk, 0, none⟩)] W2 fun e w' => e = .returned (.int .i64 0) ∧ Rdy .emp (bitsC fa true false) b kk fo fi (0 + 68 * (i : Int) + 68) (q + 16) w w' [] := rdy_protect hR.out rfl rfl rfl (by omega)
        have HR := Lib.hid hr
        have hw1 : IntKind.i64.wrap (q + 16) = q + 16 := IntWalk.i64_in _ (by have := HB.out; omega)
        have hw2 : IntKind.i64.wrap (q + 16 + 16) = q + 32 := by rw [IntWalk.i64_in _ (by have := HB.out; omega)]; omega
        have hw3 : IntKind.i64.wrap (q + 32 + 8) = q + 40 := by rw [IntWalk.i64_in _ (by have := HB.out; omega)]; omega
        have hw4 : IntKind.i64.wrap (q + 40 + 24) = q + 64 := by rw [IntWalk.i64_in _ (by have := HB.out; omega)]; omega
        clear hr hR
        go_upto_region 24 with (first | (go_at_call 31; refine HCK.out.mono ?_; rintro e w4 ⟨rfl, rfl⟩) | (go_at_call 39; refine HR.out.mono ?_; rintro e w4 ⟨rfl, hR4⟩) | (go_at_call 25; refine (num_any _ _).mono ?_; rintro e w' ⟨rfl, rfl⟩))
        have HST := Lib.hid (rdy_status hR4 rfl 4 0 rfl rfl)
        clear hR4 HR HCK hcell ha1
        go_upto_region 25 with (go_at_call 40; refine HST.out.mono ?_; rintro e w5 ⟨rfl, hR5⟩)
        have HCK2 := Lib.hid (rdy_clocks hR5)
        have HR5 := Lib.hid hR5
        clear hR5 HST
        go_wp2_with (go_at_call 31; refine HCK2.out.mono ?_; rintro e w6 ⟨rfl, rfl⟩)
        refine ⟨?rel, ?measure⟩
        case rel =>
          refine ⟨i + 1, q + 16, true, false, by omega, by omega, rfl, rfl, by go_num, Lib.hid ?_⟩
          rw [show (0 : Int) + 68 * ((i + 1 : Nat) : Int) = 0 + 68 * (i : Int) + 68 by omega]
          exact HR5.out
        case measure => simp [intOf]; omega
      · have hr : Calls Tryz.prog 39 #[.pointer (some ⟨kk, 0, none⟩)] W2 fun e w' => e = .returned (.int .i64 0) ∧ Rdy .emp (bitsC fa true true) b kk fo fi (0 + 68 * (i : Int) + 68) (q + 16) w w' [] := rdy_protect hR.out rfl rfl rfl (by omega)
        have HR := Lib.hid hr
        have hw1 : IntKind.i64.wrap (q + 16) = q + 16 := IntWalk.i64_in _ (by have := HB.out; omega)
        have hw2 : IntKind.i64.wrap (q + 16 + 16) = q + 32 := by rw [IntWalk.i64_in _ (by have := HB.out; omega)]; omega
        have hw3 : IntKind.i64.wrap (q + 32 + 8) = q + 40 := by rw [IntWalk.i64_in _ (by have := HB.out; omega)]; omega
        have hw4 : IntKind.i64.wrap (q + 40 + 24) = q + 64 := by rw [IntWalk.i64_in _ (by have := HB.out; omega)]; omega
        clear hr hR
        go_upto_region 24 with (first | (go_at_call 31; refine HCK.out.mono ?_; rintro e w4 ⟨rfl, rfl⟩) | (go_at_call 39; refine HR.out.mono ?_; rintro e w4 ⟨rfl, hR4⟩) | (go_at_call 25; refine (num_any _ _).mono ?_; rintro e w' ⟨rfl, rfl⟩))
        have HST := Lib.hid (rdy_status hR4 rfl 4 2 rfl rfl)
        clear hR4 HR HCK hcell ha1
        go_upto_region 25 with (go_at_call 40; refine HST.out.mono ?_; rintro e w5 ⟨rfl, hR5⟩)
        have HCK2 := Lib.hid (rdy_clocks hR5)
        have HR5 := Lib.hid hR5
        clear hR5 HST
        go_wp2_with (go_at_call 31; refine HCK2.out.mono ?_; rintro e w6 ⟨rfl, rfl⟩)
        refine ⟨?rel, ?measure⟩
        case rel =>
          refine ⟨i + 1, q + 16, true, true, by omega, by omega, rfl, rfl, by go_num, Lib.hid ?_⟩
          rw [show (0 : Int) + 68 * ((i + 1 : Nat) : Int) = 0 + 68 * (i : Int) + 68 by omega]
          exact HR5.out
        case measure => simp [intOf]; omega
    · have HU := Lib.hid hR.out.up
      have HC := Lib.hid (rdy_cells hR.out fa rfl)
      have hor : M ≤ i ∨ i < M ∧ i = 8 := by omega
      clear hR hlt
      rcases hor with h | ⟨h, rfl⟩
      all_goals
        go_wp2_with (go_at_call 24; refine HC.out.mono ?_; rintro e w3 ⟨rfl, rfl⟩)
        all_goals
          go_ret
          exact ⟨rfl, HU.out⟩
end Go.Proofs.YtkjdhkpkcepilaaGreat
