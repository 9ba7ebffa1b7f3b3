/- ChipGuards: without being enabled, of a protected sector, in part, with a clock too many: nothing is programmed, or erased: for every two numbers. No condition. -/
import Derived.Test.YtjdjdfllggpckaaGreatCtxE
import Derived.Test.YtjdjdfllggpckaaGreatAwake6
import Derived.Test.YtjdjdfllggpckaaGreatPureG
import Derived.Deep.RegionHeld3
namespace Go.Proofs.YtjdjdfllggpckaaGreat
open Go.RowKit
theorem at_2048 (x : Int) : ∃ k : Nat, (IntKind.u64.wrap x).tmod 2048 = (k : Int) ∧ k < 2048 := by
  have h : IntKind.u64.wrap x = x % 18446744073709551616 := by first | exact IntKind.wrap_u64 x | rfl
  refine ⟨(x % 18446744073709551616 % 2048).toNat, ?_, by omega⟩
  rw [h, Int.tmod_eq_emod_of_nonneg (by omega)]
  omega
theorem make_ints8 (u : World) : (Instr.makeSlice 27 (.int .i64 8) (.int .i64 8)).run Tryz.prog u = .ok (.slice (some ⟨u.heap.size, 0, none⟩) 8 8) (u.alloc (.cells (ints [0, 0, 0, 0, 0, 0, 0, 0]).toArray 3)) := by
  have := run_make (P := Tryz.prog) u 27 3 Tryz.t3 (.int .i64 0) Tryz.underlying27 (by kernel_rfl) (by kernel_rfl) .i64 .i64 8 8 (by decide) (by decide) (by show ((8 : Nat) : Int) * 8 ≤ _; decide) (by decide)
  rw [this, show madeCells (Value.int .i64 0).cells (Int.toNat 8 * Tryz.t3.size) = (ints [0, 0, 0, 0, 0, 0, 0, 0]).toArray from by kernel_rfl]
  rfl
theorem tk_in {xs : List Int} (h : ∀ x ∈ xs, 0 ≤ x ∧ x ≤ 15) (n : Nat) : ∀ x ∈ xs.take n, 0 ≤ x ∧ x ≤ 15 := fun x hx => h x (List.mem_of_mem_take hx)
theorem in14 : ∀ x ∈ [(14 : Int)], 0 ≤ x ∧ x ≤ 15 := by decide
set_option maxRecDepth 100000 in
set_option maxHeartbeats 4000000 in
theorem lawGuards0 (w : World) (wh at' : Int) (hwh : (IntKind.u64.wrap wh).tmod 9 = 0) :
    Calls Tryz.prog 8 #[.int .i64 wh, .int .i64 at'] w fun e w' => e = .returned (.bool true) ∧ Upd none' w w' := by
  obtain ⟨k, hat, hk⟩ := at_2048 at'
  obtain ⟨fa, hfa⟩ : ∃ fa : ByteArray, (⟨(freshL ⟨#[113]⟩).toArray⟩ : ByteArray) = fa := ⟨_, rfl⟩
  have hsz : fa.size = 4096 := by rw [← hfa]; simpa [ByteArray.size] using freshL_len ⟨#[113]⟩
  have HFA := Lib.hid hfa
  have hkand := i64_and255 (k : Int)
  have HW1 := Lib.hid (word4_in 32 k (by decide) (by omega))
  have HW2 := Lib.hid (word5_in 2 k 0 (by decide) (by omega) (by decide))
  have hmk := make_ints8
  clear hfa
  go_enter Tryz.func8, Tryz.ntmps8
  go_upto_region 9 with (first | (go_at_call 11; refine (awake6 _).mono ?_; rintro e w0 ⟨rfl, hU0⟩) | (go_at_call 12; refine (c_fresh hU0 _ (by decide) fa HFA.out).mono ?_; rintro e w1 ⟨b, rfl, hC1⟩) | (go_at_call 13; refine (c_cells hC1 fa rfl).mono ?_; rintro e w2 ⟨rfl, rfl⟩))
  go_upto_region 12 with (first | (go_at_call 16; refine (c_wordl hC3 [2, 0, (k : Int) / 256, (k : Int) % 256, 0] 5 40 rfl rfl (by decide) HW2.out).mono ?_; rintro e w4 ⟨a3, c3, rfl, hn3, hC4⟩) | (go_at_call 16; refine (c_wordl hC2 [32, 0, (k : Int) / 256, (k : Int) % 256] 4 32 rfl rfl (by decide) HW1.out).mono ?_; rintro e w3 ⟨a2, c2, rfl, hn2, hC3⟩) | (go_at_call 16; refine (c_wordl hC1 [6] 1 8 rfl rfl (by decide) (by decide)).mono ?_; rintro e w2 ⟨a1, c1, rfl, hn1, hC2⟩))
  clear hU0 hC1 hC2 hC3 HFA HW1 HW2 hat hkand
  obtain ⟨y1, hy1⟩ := af_said (St.new fa) (erX k)
  have HY1 := Lib.hid hy1
  clear hy1
  go_upto_region 46 with (go_at_call 14; refine (c_say hC4 1 _ 32 _ (erX k) rfl (by omega) rfl (word_in _) (gd0 fa k) _ HY1.out).mono ?_; rintro e w5 ⟨sa1, sc1, rfl, sn1, hC5'⟩; have hC5 := hC5'.tl)
  obtain ⟨M, hM, hF⟩ : ∃ M : Int, M ≤ 1000 ∧ Ctx (ChipP b (gd0 fa k) M) .emp w w5 [] := ⟨_, by omega, hC5.drop⟩
  obtain ⟨hr, hp⟩ := gd0_rest fa (k : Int)
  obtain ⟨t, ht⟩ : ∃ t, gd0 fa k = t := ⟨_, rfl⟩
  rw [ht] at hF hr hp
  have HR := Lib.hid hr
  have HP : Hid (True ∧ t.first = 0) := ⟨trivial, hp⟩
  clear ht hr hp hC4 hC5 hC5' HY1
  go_wp2_with fail
  go_loopw [13] (fun iv wr => ∃ n : Nat, n ≤ 20 ∧ iv = .int .i64 n ∧ Ctx (ChipP b t (M + (n : Int))) .emp w wr []) (fun iv _ => 20 - (intOf iv).toNat)
  case atStart => exact ⟨0, by omega, rfl, by rw [Int.natCast_zero, Int.add_zero]; exact hF⟩
  case round =>
    clear hF
    obtain ⟨n, hn, rfl, hC⟩ := hrel
    by_cases hlt : n < 20
    · go_wp2_with (go_at_call 19; refine (c_clock hC 15 (by decide) (by omega) _ _ (rest_clock HR.out 15)).mono ?_; rintro e wv ⟨rfl, hC2⟩)
      refine ⟨?rel, ?measure⟩
      case rel => exact ⟨n + 1, by omega, by go_num, by rw [show ((n + 1 : Nat) : Int) = (n : Int) + 1 by omega, ← Int.add_assoc]; exact hC2⟩
      case measure => simp [intOf]; omega
    · obtain rfl : n = 20 := by omega
      have hp1 : bits .and .i64 0 1 = 0 := by decide +kernel
      go_upto_region 51 with (go_at_call 20; refine (c_status hC 0 _ HP.out.2 rfl).mono ?_; rintro e wS ⟨rfl, hS⟩)
      have hSd := hS.drew
      have HSZ := Lib.hid (hSd.lit (ints [0, 0, 0, 0, 0, 0, 0, 0]) 3 8 rfl (by decide))
      have HA : Hid (True ∧ t.a = fa) := ⟨trivial, HR.out.a⟩
      have HWI := Lib.hid HR.out.wipes
      have HSAME : Hid (True ∧ sameB ([0, 0, 0, 0, 0, 0, 0, 0] : List Int) [0, 0, 0, 0, 0, 0, 0, 0] = true) := ⟨trivial, by decide⟩
      clear hC hS
      go_region_held3 (fun _ => True) (first | exact trivial) (first | (go_at_call 13; with_reducible refine (c_cells hSd fa HA.out.2).mono ?_; rintro e wx ⟨rfl, rfl⟩) | (go_at_call 24; first | (with_reducible refine (c_wipes hSd _ HWI.out).mono ?_; rintro e wV ⟨aw, cw, rfl, hnw, hV⟩; have HV := Lib.hid (hV.lit (ints [0, 0, 0, 0, 0, 0, 0, 0]) 3 8 rfl (by decide))) | (refine (c_wipes HSZ.out _ HWI.out).mono ?_; rintro e wW ⟨aw, cw, rfl, hnw, hW⟩)) | (go_at_call 22; first | (refine (c_same hW 0 1 _ _ _ _ rfl rfl true HSAME.out.2).mono ?_; rintro e wE ⟨rfl, hE⟩) | (refine (c_same HV.out 1 0 _ _ _ _ rfl rfl true HSAME.out.2).mono ?_; rintro e wE ⟨rfl, hE⟩)))
      all_goals
        go_wp2
        go_ret
        exact ⟨rfl, hE.upd⟩
set_option maxRecDepth 100000 in
set_option maxHeartbeats 4000000 in
theorem lawGuards1 (w : World) (wh at' : Int) (hwh : (IntKind.u64.wrap wh).tmod 9 = 1) :
    Calls Tryz.prog 8 #[.int .i64 wh, .int .i64 at'] w fun e w' => e = .returned (.bool true) ∧ Upd none' w w' := by
  obtain ⟨k, hat, hk⟩ := at_2048 at'
  obtain ⟨fa, hfa⟩ : ∃ fa : ByteArray, (⟨(freshL ⟨#[113]⟩).toArray⟩ : ByteArray) = fa := ⟨_, rfl⟩
  have hsz : fa.size = 4096 := by rw [← hfa]; simpa [ByteArray.size] using freshL_len ⟨#[113]⟩
  have HFA := Lib.hid hfa
  have hkand := i64_and255 (k : Int)
  have HW1 := Lib.hid (word4_in 32 k (by decide) (by omega))
  have HW2 := Lib.hid (word5_in 2 k 0 (by decide) (by omega) (by decide))
  have hmk := make_ints8
  clear hfa
  go_enter Tryz.func8, Tryz.ntmps8
  go_upto_region 9 with (first | (go_at_call 11; refine (awake6 _).mono ?_; rintro e w0 ⟨rfl, hU0⟩) | (go_at_call 12; refine (c_fresh hU0 _ (by decide) fa HFA.out).mono ?_; rintro e w1 ⟨b, rfl, hC1⟩) | (go_at_call 13; refine (c_cells hC1 fa rfl).mono ?_; rintro e w2 ⟨rfl, rfl⟩))
  go_upto_region 12 with (first | (go_at_call 16; refine (c_wordl hC3 [2, 0, (k : Int) / 256, (k : Int) % 256, 0] 5 40 rfl rfl (by decide) HW2.out).mono ?_; rintro e w4 ⟨a3, c3, rfl, hn3, hC4⟩) | (go_at_call 16; refine (c_wordl hC2 [32, 0, (k : Int) / 256, (k : Int) % 256] 4 32 rfl rfl (by decide) HW1.out).mono ?_; rintro e w3 ⟨a2, c2, rfl, hn2, hC3⟩) | (go_at_call 16; refine (c_wordl hC1 [6] 1 8 rfl rfl (by decide) (by decide)).mono ?_; rintro e w2 ⟨a1, c1, rfl, hn1, hC2⟩))
  clear hU0 hC1 hC2 hC3 HFA HW1 HW2 hat hkand
  obtain ⟨y1, hy1⟩ := af_said (St.new fa) (prX k)
  have HY1 := Lib.hid hy1
  clear hy1
  go_upto_region 46 with (go_at_call 14; refine (c_say hC4 0 _ 40 _ (prX k) rfl (by omega) rfl (word_in _) (gd1 fa k) _ HY1.out).mono ?_; rintro e w5 ⟨sa1, sc1, rfl, sn1, hC5'⟩; have hC5 := hC5'.tl)
  obtain ⟨M, hM, hF⟩ : ∃ M : Int, M ≤ 1000 ∧ Ctx (ChipP b (gd1 fa k) M) .emp w w5 [] := ⟨_, by omega, hC5.drop⟩
  obtain ⟨hr, hp⟩ := gd1_rest fa (k : Int)
  obtain ⟨t, ht⟩ : ∃ t, gd1 fa k = t := ⟨_, rfl⟩
  rw [ht] at hF hr hp
  have HR := Lib.hid hr
  have HP : Hid (True ∧ t.first = 0) := ⟨trivial, hp⟩
  clear ht hr hp hC4 hC5 hC5' HY1
  go_wp2_with fail
  go_loopw [13] (fun iv wr => ∃ n : Nat, n ≤ 20 ∧ iv = .int .i64 n ∧ Ctx (ChipP b t (M + (n : Int))) .emp w wr []) (fun iv _ => 20 - (intOf iv).toNat)
  case atStart => exact ⟨0, by omega, rfl, by rw [Int.natCast_zero, Int.add_zero]; exact hF⟩
  case round =>
    clear hF
    obtain ⟨n, hn, rfl, hC⟩ := hrel
    by_cases hlt : n < 20
    · go_wp2_with (go_at_call 19; refine (c_clock hC 15 (by decide) (by omega) _ _ (rest_clock HR.out 15)).mono ?_; rintro e wv ⟨rfl, hC2⟩)
      refine ⟨?rel, ?measure⟩
      case rel => exact ⟨n + 1, by omega, by go_num, by rw [show ((n + 1 : Nat) : Int) = (n : Int) + 1 by omega, ← Int.add_assoc]; exact hC2⟩
      case measure => simp [intOf]; omega
    · obtain rfl : n = 20 := by omega
      have hp1 : bits .and .i64 0 1 = 0 := by decide +kernel
      go_upto_region 51 with (go_at_call 20; refine (c_status hC 0 _ HP.out.2 rfl).mono ?_; rintro e wS ⟨rfl, hS⟩)
      have hSd := hS.drew
      have HSZ := Lib.hid (hSd.lit (ints [0, 0, 0, 0, 0, 0, 0, 0]) 3 8 rfl (by decide))
      have HA : Hid (True ∧ t.a = fa) := ⟨trivial, HR.out.a⟩
      have HWI := Lib.hid HR.out.wipes
      have HSAME : Hid (True ∧ sameB ([0, 0, 0, 0, 0, 0, 0, 0] : List Int) [0, 0, 0, 0, 0, 0, 0, 0] = true) := ⟨trivial, by decide⟩
      clear hC hS
      go_region_held3 (fun _ => True) (first | exact trivial) (first | (go_at_call 13; with_reducible refine (c_cells hSd fa HA.out.2).mono ?_; rintro e wx ⟨rfl, rfl⟩) | (go_at_call 24; first | (with_reducible refine (c_wipes hSd _ HWI.out).mono ?_; rintro e wV ⟨aw, cw, rfl, hnw, hV⟩; have HV := Lib.hid (hV.lit (ints [0, 0, 0, 0, 0, 0, 0, 0]) 3 8 rfl (by decide))) | (refine (c_wipes HSZ.out _ HWI.out).mono ?_; rintro e wW ⟨aw, cw, rfl, hnw, hW⟩)) | (go_at_call 22; first | (refine (c_same hW 0 1 _ _ _ _ rfl rfl true HSAME.out.2).mono ?_; rintro e wE ⟨rfl, hE⟩) | (refine (c_same HV.out 1 0 _ _ _ _ rfl rfl true HSAME.out.2).mono ?_; rintro e wE ⟨rfl, hE⟩)))
      all_goals
        go_wp2
        go_ret
        exact ⟨rfl, hE.upd⟩
set_option maxRecDepth 100000 in
set_option maxHeartbeats 4000000 in
theorem lawGuards2 (w : World) (wh at' : Int) (hwh : (IntKind.u64.wrap wh).tmod 9 = 2) :
    Calls Tryz.prog 8 #[.int .i64 wh, .int .i64 at'] w fun e w' => e = .returned (.bool true) ∧ Upd none' w w' := by
  obtain ⟨k, hat, hk⟩ := at_2048 at'
  obtain ⟨fa, hfa⟩ : ∃ fa : ByteArray, (⟨(freshL ⟨#[113]⟩).toArray⟩ : ByteArray) = fa := ⟨_, rfl⟩
  have hsz : fa.size = 4096 := by rw [← hfa]; simpa [ByteArray.size] using freshL_len ⟨#[113]⟩
  have HFA := Lib.hid hfa
  have hkand := i64_and255 (k : Int)
  have HW1 := Lib.hid (word4_in 32 k (by decide) (by omega))
  have HW2 := Lib.hid (word5_in 2 k 0 (by decide) (by omega) (by decide))
  have hmk := make_ints8
  clear hfa
  go_enter Tryz.func8, Tryz.ntmps8
  go_upto_region 9 with (first | (go_at_call 11; refine (awake6 _).mono ?_; rintro e w0 ⟨rfl, hU0⟩) | (go_at_call 12; refine (c_fresh hU0 _ (by decide) fa HFA.out).mono ?_; rintro e w1 ⟨b, rfl, hC1⟩) | (go_at_call 13; refine (c_cells hC1 fa rfl).mono ?_; rintro e w2 ⟨rfl, rfl⟩))
  go_upto_region 12 with (first | (go_at_call 16; refine (c_wordl hC3 [2, 0, (k : Int) / 256, (k : Int) % 256, 0] 5 40 rfl rfl (by decide) HW2.out).mono ?_; rintro e w4 ⟨a3, c3, rfl, hn3, hC4⟩) | (go_at_call 16; refine (c_wordl hC2 [32, 0, (k : Int) / 256, (k : Int) % 256] 4 32 rfl rfl (by decide) HW1.out).mono ?_; rintro e w3 ⟨a2, c2, rfl, hn2, hC3⟩) | (go_at_call 16; refine (c_wordl hC1 [6] 1 8 rfl rfl (by decide) (by decide)).mono ?_; rintro e w2 ⟨a1, c1, rfl, hn1, hC2⟩))
  clear hU0 hC1 hC2 hC3 HFA HW1 HW2 hat hkand
  obtain ⟨y1, hy1⟩ := af_said (St.new fa) enX
  have HY1 := Lib.hid hy1
  clear hy1
  have HE := Lib.hid (gdE_rest fa)
  obtain ⟨y2, hy2⟩ := af_said (gdE fa) ((erX k).take 31)
  have HY2 := Lib.hid hy2
  clear hy2
  have hh := hC4.head 1 _ 32 _ (erX k) rfl 31 (by decide)
  have hcc := (hC4.rs 1 rfl).len.2
  go_upto_region 46 with (first | (go_at_call 14; refine (c_say (hC5.head 1 _ 32 _ (erX k) rfl 31 (by decide)) 0 _ 31 _ ((erX k).take 31) rfl (by omega) HE.out.sel (tk_in (word_in _) _) (gd2 fa k) _ HY2.out).mono ?_; rintro e w6 ⟨sa2, sc2, rfl, sn2, hC6⟩) | (go_at_call 14; refine (c_say hC4 2 _ 8 _ enX rfl (by omega) rfl (word_in _) (gdE fa) _ HY1.out).mono ?_; rintro e w5 ⟨sa1, sc1, rfl, sn1, hC5'⟩; have hC5 := hC5'.tl))
  obtain ⟨M, hM, hF⟩ : ∃ M : Int, M ≤ 1000 ∧ Ctx (ChipP b (gd2 fa k) M) .emp w w6 [] := ⟨_, by omega, hC6.drop⟩
  obtain ⟨hr, hp⟩ := gd2_rest fa (k : Int)
  obtain ⟨t, ht⟩ : ∃ t, gd2 fa k = t := ⟨_, rfl⟩
  rw [ht] at hF hr hp
  have HR := Lib.hid hr
  have HP : Hid (True ∧ t.first = 2) := ⟨trivial, hp⟩
  clear ht hr hp hC4 hC5 hC5' hC6 HY1 HY2 HE hh hcc
  go_wp2_with fail
  go_loopw [13] (fun iv wr => ∃ n : Nat, n ≤ 20 ∧ iv = .int .i64 n ∧ Ctx (ChipP b t (M + (n : Int))) .emp w wr []) (fun iv _ => 20 - (intOf iv).toNat)
  case atStart => exact ⟨0, by omega, rfl, by rw [Int.natCast_zero, Int.add_zero]; exact hF⟩
  case round =>
    clear hF
    obtain ⟨n, hn, rfl, hC⟩ := hrel
    by_cases hlt : n < 20
    · go_wp2_with (go_at_call 19; refine (c_clock hC 15 (by decide) (by omega) _ _ (rest_clock HR.out 15)).mono ?_; rintro e wv ⟨rfl, hC2⟩)
      refine ⟨?rel, ?measure⟩
      case rel => exact ⟨n + 1, by omega, by go_num, by rw [show ((n + 1 : Nat) : Int) = (n : Int) + 1 by omega, ← Int.add_assoc]; exact hC2⟩
      case measure => simp [intOf]; omega
    · obtain rfl : n = 20 := by omega
      have hp1 : bits .and .i64 2 1 = 0 := by decide +kernel
      go_upto_region 51 with (go_at_call 20; refine (c_status hC 2 _ HP.out.2 rfl).mono ?_; rintro e wS ⟨rfl, hS⟩)
      have hSd := hS.drew
      have HSZ := Lib.hid (hSd.lit (ints [0, 0, 0, 0, 0, 0, 0, 0]) 3 8 rfl (by decide))
      have HA : Hid (True ∧ t.a = fa) := ⟨trivial, HR.out.a⟩
      have HWI := Lib.hid HR.out.wipes
      have HSAME : Hid (True ∧ sameB ([0, 0, 0, 0, 0, 0, 0, 0] : List Int) [0, 0, 0, 0, 0, 0, 0, 0] = true) := ⟨trivial, by decide⟩
      clear hC hS
      go_region_held3 (fun _ => True) (first | exact trivial) (first | (go_at_call 13; with_reducible refine (c_cells hSd fa HA.out.2).mono ?_; rintro e wx ⟨rfl, rfl⟩) | (go_at_call 24; first | (with_reducible refine (c_wipes hSd _ HWI.out).mono ?_; rintro e wV ⟨aw, cw, rfl, hnw, hV⟩; have HV := Lib.hid (hV.lit (ints [0, 0, 0, 0, 0, 0, 0, 0]) 3 8 rfl (by decide))) | (refine (c_wipes HSZ.out _ HWI.out).mono ?_; rintro e wW ⟨aw, cw, rfl, hnw, hW⟩)) | (go_at_call 22; first | (refine (c_same hW 0 1 _ _ _ _ rfl rfl true HSAME.out.2).mono ?_; rintro e wE ⟨rfl, hE⟩) | (refine (c_same HV.out 1 0 _ _ _ _ rfl rfl true HSAME.out.2).mono ?_; rintro e wE ⟨rfl, hE⟩)))
      all_goals
        go_wp2
        go_ret
        exact ⟨rfl, hE.upd⟩
set_option maxRecDepth 100000 in
set_option maxHeartbeats 4000000 in
theorem lawGuards3 (w : World) (wh at' : Int) (hwh : (IntKind.u64.wrap wh).tmod 9 = 3) :
    Calls Tryz.prog 8 #[.int .i64 wh, .int .i64 at'] w fun e w' => e = .returned (.bool true) ∧ Upd none' w w' := by
  obtain ⟨k, hat, hk⟩ := at_2048 at'
  obtain ⟨fa, hfa⟩ : ∃ fa : ByteArray, (⟨(freshL ⟨#[113]⟩).toArray⟩ : ByteArray) = fa := ⟨_, rfl⟩
  have hsz : fa.size = 4096 := by rw [← hfa]; simpa [ByteArray.size] using freshL_len ⟨#[113]⟩
  have HFA := Lib.hid hfa
  have hkand := i64_and255 (k : Int)
  have HW1 := Lib.hid (word4_in 32 k (by decide) (by omega))
  have HW2 := Lib.hid (word5_in 2 k 0 (by decide) (by omega) (by decide))
  have hmk := make_ints8
  clear hfa
  go_enter Tryz.func8, Tryz.ntmps8
  go_upto_region 9 with (first | (go_at_call 11; refine (awake6 _).mono ?_; rintro e w0 ⟨rfl, hU0⟩) | (go_at_call 12; refine (c_fresh hU0 _ (by decide) fa HFA.out).mono ?_; rintro e w1 ⟨b, rfl, hC1⟩) | (go_at_call 13; refine (c_cells hC1 fa rfl).mono ?_; rintro e w2 ⟨rfl, rfl⟩))
  go_upto_region 12 with (first | (go_at_call 16; refine (c_wordl hC3 [2, 0, (k : Int) / 256, (k : Int) % 256, 0] 5 40 rfl rfl (by decide) HW2.out).mono ?_; rintro e w4 ⟨a3, c3, rfl, hn3, hC4⟩) | (go_at_call 16; refine (c_wordl hC2 [32, 0, (k : Int) / 256, (k : Int) % 256] 4 32 rfl rfl (by decide) HW1.out).mono ?_; rintro e w3 ⟨a2, c2, rfl, hn2, hC3⟩) | (go_at_call 16; refine (c_wordl hC1 [6] 1 8 rfl rfl (by decide) (by decide)).mono ?_; rintro e w2 ⟨a1, c1, rfl, hn1, hC2⟩))
  clear hU0 hC1 hC2 hC3 HFA HW1 HW2 hat hkand
  obtain ⟨y1, hy1⟩ := af_said (St.new fa) enX
  have HY1 := Lib.hid hy1
  clear hy1
  have HE := Lib.hid (gdE_rest fa)
  obtain ⟨y2, hy2⟩ := af_said (gdE fa) (erX k ++ [14])
  have HY2 := Lib.hid hy2
  clear hy2
  go_upto_region 26 with (go_at_call 14; refine (c_say hC4 2 _ 8 _ enX rfl (by omega) rfl (word_in _) (gdE fa) _ HY1.out).mono ?_; rintro e w5 ⟨sa1, sc1, rfl, sn1, hC5'⟩; have hC5 := hC5'.tl)
  have hD := hC5.lit ([] : List Value) 3 0 rfl (by decide)
  have HL := Lib.hid (row_lit w5 3 ([] : List Value) 0 rfl (by decide))
  have hgW := hC5.upd.size
  have HOLD := Lib.hid hC5.below
  go_upto_region 27 with (at_builtin; go_must (refine wpList_appRS2 rfl _ _ 27 rfl 3 (.int .i64 0) 8 Tryz.underlying27 info_int rfl (.slice (some ⟨w5.heap.size, 0, none⟩) 0 0) [] 0 rfl rfl HL.out _ _ _ rfl (ints (erX k)) (hD.rs 2 rfl) hn2 (fun h => absurd (congrArg List.length h) (show ¬ (32 : Nat) = 0 by decide)) (ints_one _) (by decide) (by decide) ?_); intro v7 w7 hR7 hU7 hv7)
  rw [List.nil_append] at hR7
  have hbl : (ints (erX k)).length = 32 := rfl
  have hD7 := hD.write0 (fun g hg => by simp only [Value.ownBlock, Option.some.injEq] at hg; omega) hU7 (hR7.rs (by rw [hbl]; decide)) (fun g hg => ⟨hv7 g hg, hR7.lt g hg⟩) (fun r hr g hg he => by have := HOLD.out r hr g hg; simp only [Value.ownBlock, Option.some.injEq] at he; omega)
  have hge : ∀ g, v7.ownBlock = some g → w5.heap.size ≤ g := fun g hg => by
    rcases hv7 g hg with e | e
    · simp only [Value.ownBlock, Option.some.injEq] at e; omega
    · simp at e; omega
  obtain ⟨va, vc, rfl, -⟩ := hR7.form
  rw [hbl] at hR7 hge hD7 ⊢
  have HR7 := Lib.hid hR7
  have HGE := Lib.hid hge
  clear hR7 hge hU7 hv7 hD HL
  go_upto_region 28 with (at_builtin; go_must (refine wpList_app1 rfl _ _ 27 rfl 3 (.int .i64 0) 8 Tryz.underlying27 info_int rfl _ (ints (erX k)) 32 hbl rfl w7 (.int .i64 14) ⟨rfl, rfl, rfl⟩ HR7.out rfl rfl (by decide) (by decide) ?_); intro g8 c8 w8 hR8 hU8 hg8 hs8)
  replace hR8 : Row w8 3 (.slice (some ⟨g8, 0, none⟩) (32 + 1) c8) (ints (erX k ++ [14])) := by rw [ints_app]; exact hR8
  have hD8 := hD7.write0 (fun g hg => by have := HGE.out g hg; omega) hU8 (hR8.rs (by show 32 + 1 ≤ _; decide)) (fun g hg => ⟨by simp only [Value.ownBlock, Option.some.injEq] at hg; rw [← hg]; exact hg8, hR8.lt g hg⟩) (fun r hr g hg he => by have := HOLD.out r hr g hg; have := HGE.out g he; omega)
  clear hR8 hU8 hD7 HR7 hg8 hs8 hbl
  go_upto_region 46 with (go_at_call 14; refine (c_say hD8 0 _ 33 _ (erX k ++ [14]) rfl (by omega) HE.out.sel (app_in (word_in _) in14) (gd3 fa k) _ HY2.out).mono ?_; rintro e w9 ⟨sa2, sc2, rfl, sn2, hC6⟩)
  obtain ⟨M, hM, hF⟩ : ∃ M : Int, M ≤ 1000 ∧ Ctx (ChipP b (gd3 fa k) M) .emp w w9 [] := ⟨_, by omega, hC6.drop⟩
  obtain ⟨hr, hp⟩ := gd3_rest fa (k : Int)
  obtain ⟨t, ht⟩ : ∃ t, gd3 fa k = t := ⟨_, rfl⟩
  rw [ht] at hF hr hp
  have HR := Lib.hid hr
  have HP : Hid (True ∧ t.first = 2) := ⟨trivial, hp⟩
  clear ht hr hp hC4 hC5 hC5' hC6 hD8 HY1 HY2 HE HGE HOLD hgW
  go_wp2_with fail
  go_loopw [13] (fun iv wr => ∃ n : Nat, n ≤ 20 ∧ iv = .int .i64 n ∧ Ctx (ChipP b t (M + (n : Int))) .emp w wr []) (fun iv _ => 20 - (intOf iv).toNat)
  case atStart => exact ⟨0, by omega, rfl, by rw [Int.natCast_zero, Int.add_zero]; exact hF⟩
  case round =>
    clear hF
    obtain ⟨n, hn, rfl, hC⟩ := hrel
    by_cases hlt : n < 20
    · go_wp2_with (go_at_call 19; refine (c_clock hC 15 (by decide) (by omega) _ _ (rest_clock HR.out 15)).mono ?_; rintro e wv ⟨rfl, hC2⟩)
      refine ⟨?rel, ?measure⟩
      case rel => exact ⟨n + 1, by omega, by go_num, by rw [show ((n + 1 : Nat) : Int) = (n : Int) + 1 by omega, ← Int.add_assoc]; exact hC2⟩
      case measure => simp [intOf]; omega
    · obtain rfl : n = 20 := by omega
      have hp1 : bits .and .i64 2 1 = 0 := by decide +kernel
      go_upto_region 51 with (go_at_call 20; refine (c_status hC 2 _ HP.out.2 rfl).mono ?_; rintro e wS ⟨rfl, hS⟩)
      have hSd := hS.drew
      have HSZ := Lib.hid (hSd.lit (ints [0, 0, 0, 0, 0, 0, 0, 0]) 3 8 rfl (by decide))
      have HA : Hid (True ∧ t.a = fa) := ⟨trivial, HR.out.a⟩
      have HWI := Lib.hid HR.out.wipes
      have HSAME : Hid (True ∧ sameB ([0, 0, 0, 0, 0, 0, 0, 0] : List Int) [0, 0, 0, 0, 0, 0, 0, 0] = true) := ⟨trivial, by decide⟩
      clear hC hS
      go_region_held3 (fun _ => True) (first | exact trivial) (first | (go_at_call 13; with_reducible refine (c_cells hSd fa HA.out.2).mono ?_; rintro e wx ⟨rfl, rfl⟩) | (go_at_call 24; first | (with_reducible refine (c_wipes hSd _ HWI.out).mono ?_; rintro e wV ⟨aw, cw, rfl, hnw, hV⟩; have HV := Lib.hid (hV.lit (ints [0, 0, 0, 0, 0, 0, 0, 0]) 3 8 rfl (by decide))) | (refine (c_wipes HSZ.out _ HWI.out).mono ?_; rintro e wW ⟨aw, cw, rfl, hnw, hW⟩)) | (go_at_call 22; first | (refine (c_same hW 0 1 _ _ _ _ rfl rfl true HSAME.out.2).mono ?_; rintro e wE ⟨rfl, hE⟩) | (refine (c_same HV.out 1 0 _ _ _ _ rfl rfl true HSAME.out.2).mono ?_; rintro e wE ⟨rfl, hE⟩)))
      all_goals
        go_wp2
        go_ret
        exact ⟨rfl, hE.upd⟩
set_option maxRecDepth 100000 in
set_option maxHeartbeats 4000000 in
theorem lawGuards4 (w : World) (wh at' : Int) (hwh : (IntKind.u64.wrap wh).tmod 9 = 4) :
    Calls Tryz.prog 8 #[.int .i64 wh, .int .i64 at'] w fun e w' => e = .returned (.bool true) ∧ Upd none' w w' := by
  obtain ⟨k, hat, hk⟩ := at_2048 at'
  obtain ⟨fa, hfa⟩ : ∃ fa : ByteArray, (⟨(freshL ⟨#[113]⟩).toArray⟩ : ByteArray) = fa := ⟨_, rfl⟩
  have hsz : fa.size = 4096 := by rw [← hfa]; simpa [ByteArray.size] using freshL_len ⟨#[113]⟩
  have HFA := Lib.hid hfa
  have hkand := i64_and255 (k : Int)
  have HW1 := Lib.hid (word4_in 32 k (by decide) (by omega))
  have HW2 := Lib.hid (word5_in 2 k 0 (by decide) (by omega) (by decide))
  have hmk := make_ints8
  clear hfa
  go_enter Tryz.func8, Tryz.ntmps8
  go_upto_region 9 with (first | (go_at_call 11; refine (awake6 _).mono ?_; rintro e w0 ⟨rfl, hU0⟩) | (go_at_call 12; refine (c_fresh hU0 _ (by decide) fa HFA.out).mono ?_; rintro e w1 ⟨b, rfl, hC1⟩) | (go_at_call 13; refine (c_cells hC1 fa rfl).mono ?_; rintro e w2 ⟨rfl, rfl⟩))
  go_upto_region 12 with (first | (go_at_call 16; refine (c_wordl hC3 [2, 0, (k : Int) / 256, (k : Int) % 256, 0] 5 40 rfl rfl (by decide) HW2.out).mono ?_; rintro e w4 ⟨a3, c3, rfl, hn3, hC4⟩) | (go_at_call 16; refine (c_wordl hC2 [32, 0, (k : Int) / 256, (k : Int) % 256] 4 32 rfl rfl (by decide) HW1.out).mono ?_; rintro e w3 ⟨a2, c2, rfl, hn2, hC3⟩) | (go_at_call 16; refine (c_wordl hC1 [6] 1 8 rfl rfl (by decide) (by decide)).mono ?_; rintro e w2 ⟨a1, c1, rfl, hn1, hC2⟩))
  clear hU0 hC1 hC2 hC3 HFA HW1 HW2 hat hkand
  obtain ⟨y1, hy1⟩ := af_said (St.new fa) enX
  have HY1 := Lib.hid hy1
  clear hy1
  have HE := Lib.hid (gdE_rest fa)
  obtain ⟨y2, hy2⟩ := af_said (gdE fa) ((prX k).take 39)
  have HY2 := Lib.hid hy2
  clear hy2
  have hh := hC4.head 0 _ 40 _ (prX k) rfl 39 (by decide)
  have hcc := (hC4.rs 0 rfl).len.2
  go_upto_region 46 with (first | (go_at_call 14; refine (c_say (hC5.head 0 _ 40 _ (prX k) rfl 39 (by decide)) 0 _ 39 _ ((prX k).take 39) rfl (by omega) HE.out.sel (tk_in (word_in _) _) (gd4 fa k) _ HY2.out).mono ?_; rintro e w6 ⟨sa2, sc2, rfl, sn2, hC6⟩) | (go_at_call 14; refine (c_say hC4 2 _ 8 _ enX rfl (by omega) rfl (word_in _) (gdE fa) _ HY1.out).mono ?_; rintro e w5 ⟨sa1, sc1, rfl, sn1, hC5'⟩; have hC5 := hC5'.tl))
  obtain ⟨M, hM, hF⟩ : ∃ M : Int, M ≤ 1000 ∧ Ctx (ChipP b (gd4 fa k) M) .emp w w6 [] := ⟨_, by omega, hC6.drop⟩
  obtain ⟨hr, hp⟩ := gd4_rest fa (k : Int)
  obtain ⟨t, ht⟩ : ∃ t, gd4 fa k = t := ⟨_, rfl⟩
  rw [ht] at hF hr hp
  have HR := Lib.hid hr
  have HP : Hid (True ∧ t.first = 2) := ⟨trivial, hp⟩
  clear ht hr hp hC4 hC5 hC5' hC6 HY1 HY2 HE hh hcc
  go_wp2_with fail
  go_loopw [13] (fun iv wr => ∃ n : Nat, n ≤ 20 ∧ iv = .int .i64 n ∧ Ctx (ChipP b t (M + (n : Int))) .emp w wr []) (fun iv _ => 20 - (intOf iv).toNat)
  case atStart => exact ⟨0, by omega, rfl, by rw [Int.natCast_zero, Int.add_zero]; exact hF⟩
  case round =>
    clear hF
    obtain ⟨n, hn, rfl, hC⟩ := hrel
    by_cases hlt : n < 20
    · go_wp2_with (go_at_call 19; refine (c_clock hC 15 (by decide) (by omega) _ _ (rest_clock HR.out 15)).mono ?_; rintro e wv ⟨rfl, hC2⟩)
      refine ⟨?rel, ?measure⟩
      case rel => exact ⟨n + 1, by omega, by go_num, by rw [show ((n + 1 : Nat) : Int) = (n : Int) + 1 by omega, ← Int.add_assoc]; exact hC2⟩
      case measure => simp [intOf]; omega
    · obtain rfl : n = 20 := by omega
      have hp1 : bits .and .i64 2 1 = 0 := by decide +kernel
      go_upto_region 51 with (go_at_call 20; refine (c_status hC 2 _ HP.out.2 rfl).mono ?_; rintro e wS ⟨rfl, hS⟩)
      have hSd := hS.drew
      have HSZ := Lib.hid (hSd.lit (ints [0, 0, 0, 0, 0, 0, 0, 0]) 3 8 rfl (by decide))
      have HA : Hid (True ∧ t.a = fa) := ⟨trivial, HR.out.a⟩
      have HWI := Lib.hid HR.out.wipes
      have HSAME : Hid (True ∧ sameB ([0, 0, 0, 0, 0, 0, 0, 0] : List Int) [0, 0, 0, 0, 0, 0, 0, 0] = true) := ⟨trivial, by decide⟩
      clear hC hS
      go_region_held3 (fun _ => True) (first | exact trivial) (first | (go_at_call 13; with_reducible refine (c_cells hSd fa HA.out.2).mono ?_; rintro e wx ⟨rfl, rfl⟩) | (go_at_call 24; first | (with_reducible refine (c_wipes hSd _ HWI.out).mono ?_; rintro e wV ⟨aw, cw, rfl, hnw, hV⟩; have HV := Lib.hid (hV.lit (ints [0, 0, 0, 0, 0, 0, 0, 0]) 3 8 rfl (by decide))) | (refine (c_wipes HSZ.out _ HWI.out).mono ?_; rintro e wW ⟨aw, cw, rfl, hnw, hW⟩)) | (go_at_call 22; first | (refine (c_same hW 0 1 _ _ _ _ rfl rfl true HSAME.out.2).mono ?_; rintro e wE ⟨rfl, hE⟩) | (refine (c_same HV.out 1 0 _ _ _ _ rfl rfl true HSAME.out.2).mono ?_; rintro e wE ⟨rfl, hE⟩)))
      all_goals
        go_wp2
        go_ret
        exact ⟨rfl, hE.upd⟩
set_option maxRecDepth 100000 in
set_option maxHeartbeats 4000000 in
theorem lawGuards5 (w : World) (wh at' : Int) (hwh : (IntKind.u64.wrap wh).tmod 9 = 5) :
    Calls Tryz.prog 8 #[.int .i64 wh, .int .i64 at'] w fun e w' => e = .returned (.bool true) ∧ Upd none' w w' := by
  obtain ⟨k, hat, hk⟩ := at_2048 at'
  obtain ⟨fa, hfa⟩ : ∃ fa : ByteArray, (⟨(freshL ⟨#[113]⟩).toArray⟩ : ByteArray) = fa := ⟨_, rfl⟩
  have hsz : fa.size = 4096 := by rw [← hfa]; simpa [ByteArray.size] using freshL_len ⟨#[113]⟩
  have HFA := Lib.hid hfa
  have hkand := i64_and255 (k : Int)
  have HW1 := Lib.hid (word4_in 32 k (by decide) (by omega))
  have HW2 := Lib.hid (word5_in 2 k 0 (by decide) (by omega) (by decide))
  have hmk := make_ints8
  clear hfa
  go_enter Tryz.func8, Tryz.ntmps8
  go_upto_region 9 with (first | (go_at_call 11; refine (awake6 _).mono ?_; rintro e w0 ⟨rfl, hU0⟩) | (go_at_call 12; refine (c_fresh hU0 _ (by decide) fa HFA.out).mono ?_; rintro e w1 ⟨b, rfl, hC1⟩) | (go_at_call 13; refine (c_cells hC1 fa rfl).mono ?_; rintro e w2 ⟨rfl, rfl⟩))
  go_upto_region 12 with (first | (go_at_call 16; refine (c_wordl hC3 [2, 0, (k : Int) / 256, (k : Int) % 256, 0] 5 40 rfl rfl (by decide) HW2.out).mono ?_; rintro e w4 ⟨a3, c3, rfl, hn3, hC4⟩) | (go_at_call 16; refine (c_wordl hC2 [32, 0, (k : Int) / 256, (k : Int) % 256] 4 32 rfl rfl (by decide) HW1.out).mono ?_; rintro e w3 ⟨a2, c2, rfl, hn2, hC3⟩) | (go_at_call 16; refine (c_wordl hC1 [6] 1 8 rfl rfl (by decide) (by decide)).mono ?_; rintro e w2 ⟨a1, c1, rfl, hn1, hC2⟩))
  clear hU0 hC1 hC2 hC3 HFA HW1 HW2 hat hkand
  obtain ⟨y1, hy1⟩ := af_said (St.new fa) (enX ++ [14])
  have HY1 := Lib.hid hy1
  clear hy1
  obtain ⟨y2, hy2⟩ := af_said (gd5' fa) (erX k)
  have HY2 := Lib.hid hy2
  clear hy2
  have HE := Lib.hid (gd5'_rest fa)
  go_upto_region 33 with fail
  have hD := hC4.lit ([] : List Value) 3 0 rfl (by decide)
  have HL := Lib.hid (row_lit w4 3 ([] : List Value) 0 rfl (by decide))
  have hgW := hC4.upd.size
  have HOLD := Lib.hid hC4.below
  go_upto_region 34 with (at_builtin; go_must (refine wpList_appRS2 rfl _ _ 27 rfl 3 (.int .i64 0) 8 Tryz.underlying27 info_int rfl (.slice (some ⟨w4.heap.size, 0, none⟩) 0 0) [] 0 rfl rfl HL.out _ _ _ rfl (ints (enX)) (hD.rs 3 rfl) hn1 (fun h => absurd (congrArg List.length h) (show ¬ (8 : Nat) = 0 by decide)) (ints_one _) (by decide) (by decide) ?_); intro v7 w7 hR7 hU7 hv7)
  rw [List.nil_append] at hR7
  have hbl : (ints (enX)).length = 8 := rfl
  have hD7 := hD.write0 (fun g hg => by simp only [Value.ownBlock, Option.some.injEq] at hg; omega) hU7 (hR7.rs (by rw [hbl]; decide)) (fun g hg => ⟨hv7 g hg, hR7.lt g hg⟩) (fun r hr g hg he => by have := HOLD.out r hr g hg; simp only [Value.ownBlock, Option.some.injEq] at he; omega)
  have hge : ∀ g, v7.ownBlock = some g → w4.heap.size ≤ g := fun g hg => by
    rcases hv7 g hg with e | e
    · simp only [Value.ownBlock, Option.some.injEq] at e; omega
    · simp at e; omega
  obtain ⟨va, vc, rfl, -⟩ := hR7.form
  rw [hbl] at hR7 hge hD7 ⊢
  have HR7 := Lib.hid hR7
  have HGE := Lib.hid hge
  clear hR7 hge hU7 hv7 hD HL
  go_upto_region 35 with (at_builtin; go_must (refine wpList_app1 rfl _ _ 27 rfl 3 (.int .i64 0) 8 Tryz.underlying27 info_int rfl _ (ints (enX)) 8 hbl rfl w7 (.int .i64 14) ⟨rfl, rfl, rfl⟩ HR7.out rfl rfl (by decide) (by decide) ?_); intro g8 c8 w8 hR8 hU8 hg8 hs8)
  replace hR8 : Row w8 3 (.slice (some ⟨g8, 0, none⟩) (8 + 1) c8) (ints (enX ++ [14])) := by rw [ints_app]; exact hR8
  have hD8 := hD7.write0 (fun g hg => by have := HGE.out g hg; omega) hU8 (hR8.rs (by show 8 + 1 ≤ _; decide)) (fun g hg => ⟨by simp only [Value.ownBlock, Option.some.injEq] at hg; rw [← hg]; exact hg8, hR8.lt g hg⟩) (fun r hr g hg he => by have := HOLD.out r hr g hg; have := HGE.out g he; omega)
  clear hR8 hU8 hD7 HR7 hg8 hs8 hbl
  go_upto_region 46 with (first | (go_at_call 14; refine (c_say hC6 2 _ 32 _ (erX k) rfl (by omega) HE.out.sel (word_in _) (gd5 fa k) _ HY2.out).mono ?_; rintro e wA ⟨sa3, sc3, rfl, sn3, hC7⟩) | (go_at_call 14; refine (c_say hD8 0 _ 9 _ (enX ++ [14]) rfl (by omega) rfl (app_in (word_in _) in14) (gd5' fa) _ HY1.out).mono ?_; rintro e w9 ⟨sa2, sc2, rfl, sn2, hC6'⟩; have hC6 := hC6'.tl))
  obtain ⟨M, hM, hF⟩ : ∃ M : Int, M ≤ 1000 ∧ Ctx (ChipP b (gd5 fa k) M) .emp w wA [] := ⟨_, by omega, hC7.drop⟩
  obtain ⟨hr, hp⟩ := gd5_rest fa (k : Int)
  obtain ⟨t, ht⟩ : ∃ t, gd5 fa k = t := ⟨_, rfl⟩
  rw [ht] at hF hr hp
  have HR := Lib.hid hr
  have HP : Hid (True ∧ t.first = 0) := ⟨trivial, hp⟩
  clear ht hr hp hC4 hC6 hC6' hC7 hD8 HY1 HY2 HE HGE HOLD hgW
  go_wp2_with fail
  go_loopw [13] (fun iv wr => ∃ n : Nat, n ≤ 20 ∧ iv = .int .i64 n ∧ Ctx (ChipP b t (M + (n : Int))) .emp w wr []) (fun iv _ => 20 - (intOf iv).toNat)
  case atStart => exact ⟨0, by omega, rfl, by rw [Int.natCast_zero, Int.add_zero]; exact hF⟩
  case round =>
    clear hF
    obtain ⟨n, hn, rfl, hC⟩ := hrel
    by_cases hlt : n < 20
    · go_wp2_with (go_at_call 19; refine (c_clock hC 15 (by decide) (by omega) _ _ (rest_clock HR.out 15)).mono ?_; rintro e wv ⟨rfl, hC2⟩)
      refine ⟨?rel, ?measure⟩
      case rel => exact ⟨n + 1, by omega, by go_num, by rw [show ((n + 1 : Nat) : Int) = (n : Int) + 1 by omega, ← Int.add_assoc]; exact hC2⟩
      case measure => simp [intOf]; omega
    · obtain rfl : n = 20 := by omega
      have hp1 : bits .and .i64 0 1 = 0 := by decide +kernel
      go_upto_region 51 with (go_at_call 20; refine (c_status hC 0 _ HP.out.2 rfl).mono ?_; rintro e wS ⟨rfl, hS⟩)
      have hSd := hS.drew
      have HSZ := Lib.hid (hSd.lit (ints [0, 0, 0, 0, 0, 0, 0, 0]) 3 8 rfl (by decide))
      have HA : Hid (True ∧ t.a = fa) := ⟨trivial, HR.out.a⟩
      have HWI := Lib.hid HR.out.wipes
      have HSAME : Hid (True ∧ sameB ([0, 0, 0, 0, 0, 0, 0, 0] : List Int) [0, 0, 0, 0, 0, 0, 0, 0] = true) := ⟨trivial, by decide⟩
      clear hC hS
      go_region_held3 (fun _ => True) (first | exact trivial) (first | (go_at_call 13; with_reducible refine (c_cells hSd fa HA.out.2).mono ?_; rintro e wx ⟨rfl, rfl⟩) | (go_at_call 24; first | (with_reducible refine (c_wipes hSd _ HWI.out).mono ?_; rintro e wV ⟨aw, cw, rfl, hnw, hV⟩; have HV := Lib.hid (hV.lit (ints [0, 0, 0, 0, 0, 0, 0, 0]) 3 8 rfl (by decide))) | (refine (c_wipes HSZ.out _ HWI.out).mono ?_; rintro e wW ⟨aw, cw, rfl, hnw, hW⟩)) | (go_at_call 22; first | (refine (c_same hW 0 1 _ _ _ _ rfl rfl true HSAME.out.2).mono ?_; rintro e wE ⟨rfl, hE⟩) | (refine (c_same HV.out 1 0 _ _ _ _ rfl rfl true HSAME.out.2).mono ?_; rintro e wE ⟨rfl, hE⟩)))
      all_goals
        go_wp2
        go_ret
        exact ⟨rfl, hE.upd⟩
set_option maxRecDepth 100000 in
set_option maxHeartbeats 4000000 in
theorem lawGuards6 (w : World) (wh at' : Int) (hwh : (IntKind.u64.wrap wh).tmod 9 = 6) :
    Calls Tryz.prog 8 #[.int .i64 wh, .int .i64 at'] w fun e w' => e = .returned (.bool true) ∧ Upd none' w w' := by
  obtain ⟨k, hat, hk⟩ := at_2048 at'
  obtain ⟨fa, hfa⟩ : ∃ fa : ByteArray, (⟨(freshL ⟨#[113]⟩).toArray⟩ : ByteArray) = fa := ⟨_, rfl⟩
  have hsz : fa.size = 4096 := by rw [← hfa]; simpa [ByteArray.size] using freshL_len ⟨#[113]⟩
  have HFA := Lib.hid hfa
  have hkand := i64_and255 (k : Int)
  have HW1 := Lib.hid (word4_in 32 k (by decide) (by omega))
  have HW2 := Lib.hid (word5_in 2 k 0 (by decide) (by omega) (by decide))
  have hmk := make_ints8
  clear hfa
  go_enter Tryz.func8, Tryz.ntmps8
  go_upto_region 9 with (first | (go_at_call 11; refine (awake6 _).mono ?_; rintro e w0 ⟨rfl, hU0⟩) | (go_at_call 12; refine (c_fresh hU0 _ (by decide) fa HFA.out).mono ?_; rintro e w1 ⟨b, rfl, hC1⟩) | (go_at_call 13; refine (c_cells hC1 fa rfl).mono ?_; rintro e w2 ⟨rfl, rfl⟩))
  go_upto_region 12 with (first | (go_at_call 16; refine (c_wordl hC3 [2, 0, (k : Int) / 256, (k : Int) % 256, 0] 5 40 rfl rfl (by decide) HW2.out).mono ?_; rintro e w4 ⟨a3, c3, rfl, hn3, hC4⟩) | (go_at_call 16; refine (c_wordl hC2 [32, 0, (k : Int) / 256, (k : Int) % 256] 4 32 rfl rfl (by decide) HW1.out).mono ?_; rintro e w3 ⟨a2, c2, rfl, hn2, hC3⟩) | (go_at_call 16; refine (c_wordl hC1 [6] 1 8 rfl rfl (by decide) (by decide)).mono ?_; rintro e w2 ⟨a1, c1, rfl, hn1, hC2⟩))
  clear hU0 hC1 hC2 hC3 HFA HW1 HW2 hat hkand
  obtain ⟨y1, hy1⟩ := af_said (St.new fa) enX
  have HY1 := Lib.hid hy1
  clear hy1
  have HE := Lib.hid (gdE_rest fa)
  have HE6 := Lib.hid (gd6'_rest fa)
  obtain ⟨y2, hy2⟩ := af_said (gdE fa) (wordL [4])
  have HY2 := Lib.hid hy2
  clear hy2
  obtain ⟨y3, hy3⟩ := af_said (gd6' fa) (prX k)
  have HY3 := Lib.hid hy3
  clear hy3
  go_upto_region 46 with (first | (go_at_call 14; refine (c_say hC7 0 _ 40 _ (prX k) rfl (by omega) HE6.out.sel (word_in _) (gd6 fa k) _ HY3.out).mono ?_; rintro e w8 ⟨sa3, sc3, rfl, sn3, hC8'⟩; have hC8 := hC8'.tl) | (go_at_call 14; refine (c_say hC6 0 _ 8 _ (wordL [4]) rfl (by omega) HE.out.sel (word_in _) (gd6' fa) _ HY2.out).mono ?_; rintro e w7 ⟨sa2, sc2, rfl, sn2, hC7'⟩; have hC7 := hC7'.tl.tl) | (go_at_call 14; refine (c_say hC4 2 _ 8 _ enX rfl (by omega) rfl (word_in _) (gdE fa) _ HY1.out).mono ?_; rintro e w5 ⟨sa1, sc1, rfl, sn1, hC5'⟩; have hC5 := hC5'.tl) | (go_at_call 16; refine (c_wordl hC5 [4] 1 8 rfl rfl (by decide) (by decide)).mono ?_; rintro e w6 ⟨a5, c5, rfl, hn5, hC6⟩))
  obtain ⟨M, hM, hF⟩ : ∃ M : Int, M ≤ 1000 ∧ Ctx (ChipP b (gd6 fa k) M) .emp w w8 [] := ⟨_, by omega, hC8.drop⟩
  obtain ⟨hr, hp⟩ := gd6_rest fa (k : Int)
  obtain ⟨t, ht⟩ : ∃ t, gd6 fa k = t := ⟨_, rfl⟩
  rw [ht] at hF hr hp
  have HR := Lib.hid hr
  have HP : Hid (True ∧ t.first = 0) := ⟨trivial, hp⟩
  clear ht hr hp hC4 hC5 hC5' hC6 hC7 hC7' hC8 hC8' HY1 HY2 HY3 HE HE6
  go_wp2_with fail
  go_loopw [13] (fun iv wr => ∃ n : Nat, n ≤ 20 ∧ iv = .int .i64 n ∧ Ctx (ChipP b t (M + (n : Int))) .emp w wr []) (fun iv _ => 20 - (intOf iv).toNat)
  case atStart => exact ⟨0, by omega, rfl, by rw [Int.natCast_zero, Int.add_zero]; exact hF⟩
  case round =>
    clear hF
    obtain ⟨n, hn, rfl, hC⟩ := hrel
    by_cases hlt : n < 20
    · go_wp2_with (go_at_call 19; refine (c_clock hC 15 (by decide) (by omega) _ _ (rest_clock HR.out 15)).mono ?_; rintro e wv ⟨rfl, hC2⟩)
      refine ⟨?rel, ?measure⟩
      case rel => exact ⟨n + 1, by omega, by go_num, by rw [show ((n + 1 : Nat) : Int) = (n : Int) + 1 by omega, ← Int.add_assoc]; exact hC2⟩
      case measure => simp [intOf]; omega
    · obtain rfl : n = 20 := by omega
      have hp1 : bits .and .i64 0 1 = 0 := by decide +kernel
      go_upto_region 51 with (go_at_call 20; refine (c_status hC 0 _ HP.out.2 rfl).mono ?_; rintro e wS ⟨rfl, hS⟩)
      have hSd := hS.drew
      have HSZ := Lib.hid (hSd.lit (ints [0, 0, 0, 0, 0, 0, 0, 0]) 3 8 rfl (by decide))
      have HA : Hid (True ∧ t.a = fa) := ⟨trivial, HR.out.a⟩
      have HWI := Lib.hid HR.out.wipes
      have HSAME : Hid (True ∧ sameB ([0, 0, 0, 0, 0, 0, 0, 0] : List Int) [0, 0, 0, 0, 0, 0, 0, 0] = true) := ⟨trivial, by decide⟩
      clear hC hS
      go_region_held3 (fun _ => True) (first | exact trivial) (first | (go_at_call 13; with_reducible refine (c_cells hSd fa HA.out.2).mono ?_; rintro e wx ⟨rfl, rfl⟩) | (go_at_call 24; first | (with_reducible refine (c_wipes hSd _ HWI.out).mono ?_; rintro e wV ⟨aw, cw, rfl, hnw, hV⟩; have HV := Lib.hid (hV.lit (ints [0, 0, 0, 0, 0, 0, 0, 0]) 3 8 rfl (by decide))) | (refine (c_wipes HSZ.out _ HWI.out).mono ?_; rintro e wW ⟨aw, cw, rfl, hnw, hW⟩)) | (go_at_call 22; first | (refine (c_same hW 0 1 _ _ _ _ rfl rfl true HSAME.out.2).mono ?_; rintro e wE ⟨rfl, hE⟩) | (refine (c_same HV.out 1 0 _ _ _ _ rfl rfl true HSAME.out.2).mono ?_; rintro e wE ⟨rfl, hE⟩)))
      all_goals
        go_wp2
        go_ret
        exact ⟨rfl, hE.upd⟩
set_option maxRecDepth 100000 in
set_option maxHeartbeats 4000000 in
theorem lawGuards7 (w : World) (wh at' : Int) (hwh : (IntKind.u64.wrap wh).tmod 9 = 7) :
    Calls Tryz.prog 8 #[.int .i64 wh, .int .i64 at'] w fun e w' => e = .returned (.bool true) ∧ Upd none' w w' := by
  obtain ⟨k, hat, hk⟩ := at_2048 at'
  obtain ⟨fa, hfa⟩ : ∃ fa : ByteArray, (⟨(freshL ⟨#[113]⟩).toArray⟩ : ByteArray) = fa := ⟨_, rfl⟩
  have hsz : fa.size = 4096 := by rw [← hfa]; simpa [ByteArray.size] using freshL_len ⟨#[113]⟩
  have HFA := Lib.hid hfa
  have hkand := i64_and255 (k : Int)
  have HW1 := Lib.hid (word4_in 32 k (by decide) (by omega))
  have HW2 := Lib.hid (word5_in 2 k 0 (by decide) (by omega) (by decide))
  have hmk := make_ints8
  clear hfa
  go_enter Tryz.func8, Tryz.ntmps8
  go_upto_region 9 with (first | (go_at_call 11; refine (awake6 _).mono ?_; rintro e w0 ⟨rfl, hU0⟩) | (go_at_call 12; refine (c_fresh hU0 _ (by decide) fa HFA.out).mono ?_; rintro e w1 ⟨b, rfl, hC1⟩) | (go_at_call 13; refine (c_cells hC1 fa rfl).mono ?_; rintro e w2 ⟨rfl, rfl⟩))
  go_upto_region 12 with (first | (go_at_call 16; refine (c_wordl hC3 [2, 0, (k : Int) / 256, (k : Int) % 256, 0] 5 40 rfl rfl (by decide) HW2.out).mono ?_; rintro e w4 ⟨a3, c3, rfl, hn3, hC4⟩) | (go_at_call 16; refine (c_wordl hC2 [32, 0, (k : Int) / 256, (k : Int) % 256] 4 32 rfl rfl (by decide) HW1.out).mono ?_; rintro e w3 ⟨a2, c2, rfl, hn2, hC3⟩) | (go_at_call 16; refine (c_wordl hC1 [6] 1 8 rfl rfl (by decide) (by decide)).mono ?_; rintro e w2 ⟨a1, c1, rfl, hn1, hC2⟩))
  clear hU0 hC1 hC2 hC3 HFA HW1 HW2 hat hkand
  obtain ⟨y1, hy1⟩ := af_said (St.new fa) enX
  have HY1 := Lib.hid hy1
  clear hy1
  have HE := Lib.hid (gdE_rest fa)
  have HE7 := Lib.hid (gd7'_rest fa)
  have HE8 := Lib.hid (gd7''_rest fa)
  obtain ⟨y2, hy2⟩ := af_said (gdE fa) (wordL [1, 4, 0])
  have HY2 := Lib.hid hy2
  clear hy2
  obtain ⟨y3, hy3⟩ := af_said (gd7' fa) enX
  have HY3 := Lib.hid hy3
  clear hy3
  obtain ⟨y4, hy4⟩ := af_said (gd7'' fa) (erX k)
  have HY4 := Lib.hid hy4
  clear hy4
  go_upto_region 46 with (first | (go_at_call 14; refine (c_say hC8 1 _ 32 _ (erX k) rfl (by omega) HE8.out.sel (word_in _) (gd7 fa k) _ HY4.out).mono ?_; rintro e w9 ⟨sa4, sc4, rfl, sn4, hC9'⟩; have hC9 := hC9'.tl) | (go_at_call 14; refine (c_say hC7 2 _ 8 _ enX rfl (by omega) HE7.out.sel (word_in _) (gd7'' fa) _ HY3.out).mono ?_; rintro e w8 ⟨sa3, sc3, rfl, sn3, hC8'⟩; have hC8 := hC8'.tl) | (go_at_call 14; refine (c_say hC6 0 _ 24 _ (wordL [1, 4, 0]) rfl (by omega) HE.out.sel (word_in _) (gd7' fa) _ HY2.out).mono ?_; rintro e w7 ⟨sa2, sc2, rfl, sn2, hC7'⟩; have hC7 := hC7'.tl.tl) | (go_at_call 14; refine (c_say hC4 2 _ 8 _ enX rfl (by omega) rfl (word_in _) (gdE fa) _ HY1.out).mono ?_; rintro e w5 ⟨sa1, sc1, rfl, sn1, hC5'⟩; have hC5 := hC5'.tl) | (go_at_call 16; refine (c_wordl hC5 [1, 4, 0] 3 24 rfl rfl (by decide) (by decide)).mono ?_; rintro e w6 ⟨a5, c5, rfl, hn5, hC6⟩))
  obtain ⟨M, hM, hF⟩ : ∃ M : Int, M ≤ 1000 ∧ Ctx (ChipP b (gd7 fa k) M) .emp w w9 [] := ⟨_, by omega, hC9.drop⟩
  obtain ⟨hr, hp⟩ := gd7_rest fa (k : Int) (by omega)
  obtain ⟨t, ht⟩ : ∃ t, gd7 fa k = t := ⟨_, rfl⟩
  rw [ht] at hF hr hp
  have HR := Lib.hid hr
  have HP : Hid (True ∧ t.first = 4) := ⟨trivial, hp⟩
  clear ht hr hp hC4 hC5 hC5' hC6 hC7 hC7' hC8 hC8' hC9 hC9' HY1 HY2 HY3 HY4 HE HE7 HE8
  go_wp2_with fail
  go_loopw [13] (fun iv wr => ∃ n : Nat, n ≤ 20 ∧ iv = .int .i64 n ∧ Ctx (ChipP b t (M + (n : Int))) .emp w wr []) (fun iv _ => 20 - (intOf iv).toNat)
  case atStart => exact ⟨0, by omega, rfl, by rw [Int.natCast_zero, Int.add_zero]; exact hF⟩
  case round =>
    clear hF
    obtain ⟨n, hn, rfl, hC⟩ := hrel
    by_cases hlt : n < 20
    · go_wp2_with (go_at_call 19; refine (c_clock hC 15 (by decide) (by omega) _ _ (rest_clock HR.out 15)).mono ?_; rintro e wv ⟨rfl, hC2⟩)
      refine ⟨?rel, ?measure⟩
      case rel => exact ⟨n + 1, by omega, by go_num, by rw [show ((n + 1 : Nat) : Int) = (n : Int) + 1 by omega, ← Int.add_assoc]; exact hC2⟩
      case measure => simp [intOf]; omega
    · obtain rfl : n = 20 := by omega
      have hp1 : bits .and .i64 4 1 = 0 := by decide +kernel
      go_upto_region 51 with (go_at_call 20; refine (c_status hC 4 _ HP.out.2 rfl).mono ?_; rintro e wS ⟨rfl, hS⟩)
      have hSd := hS.drew
      have HSZ := Lib.hid (hSd.lit (ints [0, 0, 0, 0, 0, 0, 0, 0]) 3 8 rfl (by decide))
      have HA : Hid (True ∧ t.a = fa) := ⟨trivial, HR.out.a⟩
      have HWI := Lib.hid HR.out.wipes
      have HSAME : Hid (True ∧ sameB ([0, 0, 0, 0, 0, 0, 0, 0] : List Int) [0, 0, 0, 0, 0, 0, 0, 0] = true) := ⟨trivial, by decide⟩
      clear hC hS
      go_region_held3 (fun _ => True) (first | exact trivial) (first | (go_at_call 13; with_reducible refine (c_cells hSd fa HA.out.2).mono ?_; rintro e wx ⟨rfl, rfl⟩) | (go_at_call 24; first | (with_reducible refine (c_wipes hSd _ HWI.out).mono ?_; rintro e wV ⟨aw, cw, rfl, hnw, hV⟩; have HV := Lib.hid (hV.lit (ints [0, 0, 0, 0, 0, 0, 0, 0]) 3 8 rfl (by decide))) | (refine (c_wipes HSZ.out _ HWI.out).mono ?_; rintro e wW ⟨aw, cw, rfl, hnw, hW⟩)) | (go_at_call 22; first | (refine (c_same hW 0 1 _ _ _ _ rfl rfl true HSAME.out.2).mono ?_; rintro e wE ⟨rfl, hE⟩) | (refine (c_same HV.out 1 0 _ _ _ _ rfl rfl true HSAME.out.2).mono ?_; rintro e wE ⟨rfl, hE⟩)))
      all_goals
        go_wp2
        go_ret
        exact ⟨rfl, hE.upd⟩
set_option maxRecDepth 100000 in
set_option maxHeartbeats 4000000 in
theorem lawGuards8 (w : World) (wh at' : Int) (hwh : (IntKind.u64.wrap wh).tmod 9 = 8) :
    Calls Tryz.prog 8 #[.int .i64 wh, .int .i64 at'] w fun e w' => e = .returned (.bool true) ∧ Upd none' w w' := by
  obtain ⟨k, hat, hk⟩ := at_2048 at'
  obtain ⟨fa, hfa⟩ : ∃ fa : ByteArray, (⟨(freshL ⟨#[113]⟩).toArray⟩ : ByteArray) = fa := ⟨_, rfl⟩
  have hsz : fa.size = 4096 := by rw [← hfa]; simpa [ByteArray.size] using freshL_len ⟨#[113]⟩
  have HFA := Lib.hid hfa
  have hkand := i64_and255 (k : Int)
  have HW1 := Lib.hid (word4_in 32 k (by decide) (by omega))
  have HW2 := Lib.hid (word5_in 2 k 0 (by decide) (by omega) (by decide))
  have hmk := make_ints8
  clear hfa
  go_enter Tryz.func8, Tryz.ntmps8
  go_upto_region 9 with (first | (go_at_call 11; refine (awake6 _).mono ?_; rintro e w0 ⟨rfl, hU0⟩) | (go_at_call 12; refine (c_fresh hU0 _ (by decide) fa HFA.out).mono ?_; rintro e w1 ⟨b, rfl, hC1⟩) | (go_at_call 13; refine (c_cells hC1 fa rfl).mono ?_; rintro e w2 ⟨rfl, rfl⟩))
  go_upto_region 12 with (first | (go_at_call 16; refine (c_wordl hC3 [2, 0, (k : Int) / 256, (k : Int) % 256, 0] 5 40 rfl rfl (by decide) HW2.out).mono ?_; rintro e w4 ⟨a3, c3, rfl, hn3, hC4⟩) | (go_at_call 16; refine (c_wordl hC2 [32, 0, (k : Int) / 256, (k : Int) % 256] 4 32 rfl rfl (by decide) HW1.out).mono ?_; rintro e w3 ⟨a2, c2, rfl, hn2, hC3⟩) | (go_at_call 16; refine (c_wordl hC1 [6] 1 8 rfl rfl (by decide) (by decide)).mono ?_; rintro e w2 ⟨a1, c1, rfl, hn1, hC2⟩))
  clear hU0 hC1 hC2 hC3 HFA HW1 HW2 hat hkand
  obtain ⟨y1, hy1⟩ := af_said (St.new fa) enX
  have HY1 := Lib.hid hy1
  clear hy1
  have HE := Lib.hid (gdE_rest fa)
  have HE7 := Lib.hid (gd7'_rest fa)
  have HE8 := Lib.hid (gd7''_rest fa)
  obtain ⟨y2, hy2⟩ := af_said (gdE fa) (wordL [1, 4, 0])
  have HY2 := Lib.hid hy2
  clear hy2
  obtain ⟨y3, hy3⟩ := af_said (gd7' fa) enX
  have HY3 := Lib.hid hy3
  clear hy3
  obtain ⟨y4, hy4⟩ := af_said (gd7'' fa) (prX k)
  have HY4 := Lib.hid hy4
  clear hy4
  go_upto_region 46 with (first | (go_at_call 14; refine (c_say hC8 0 _ 40 _ (prX k) rfl (by omega) HE8.out.sel (word_in _) (gd8 fa k) _ HY4.out).mono ?_; rintro e w9 ⟨sa4, sc4, rfl, sn4, hC9'⟩; have hC9 := hC9'.tl) | (go_at_call 14; refine (c_say hC7 2 _ 8 _ enX rfl (by omega) HE7.out.sel (word_in _) (gd7'' fa) _ HY3.out).mono ?_; rintro e w8 ⟨sa3, sc3, rfl, sn3, hC8'⟩; have hC8 := hC8'.tl) | (go_at_call 14; refine (c_say hC6 0 _ 24 _ (wordL [1, 4, 0]) rfl (by omega) HE.out.sel (word_in _) (gd7' fa) _ HY2.out).mono ?_; rintro e w7 ⟨sa2, sc2, rfl, sn2, hC7'⟩; have hC7 := hC7'.tl.tl) | (go_at_call 14; refine (c_say hC4 2 _ 8 _ enX rfl (by omega) rfl (word_in _) (gdE fa) _ HY1.out).mono ?_; rintro e w5 ⟨sa1, sc1, rfl, sn1, hC5'⟩; have hC5 := hC5'.tl) | (go_at_call 16; refine (c_wordl hC5 [1, 4, 0] 3 24 rfl rfl (by decide) (by decide)).mono ?_; rintro e w6 ⟨a5, c5, rfl, hn5, hC6⟩))
  obtain ⟨M, hM, hF⟩ : ∃ M : Int, M ≤ 1000 ∧ Ctx (ChipP b (gd8 fa k) M) .emp w w9 [] := ⟨_, by omega, hC9.drop⟩
  obtain ⟨hr, hp⟩ := gd8_rest fa (k : Int) (by omega)
  obtain ⟨t, ht⟩ : ∃ t, gd8 fa k = t := ⟨_, rfl⟩
  rw [ht] at hF hr hp
  have HR := Lib.hid hr
  have HP : Hid (True ∧ t.first = 4) := ⟨trivial, hp⟩
  clear ht hr hp hC4 hC5 hC5' hC6 hC7 hC7' hC8 hC8' hC9 hC9' HY1 HY2 HY3 HY4 HE HE7 HE8
  go_wp2_with fail
  go_loopw [13] (fun iv wr => ∃ n : Nat, n ≤ 20 ∧ iv = .int .i64 n ∧ Ctx (ChipP b t (M + (n : Int))) .emp w wr []) (fun iv _ => 20 - (intOf iv).toNat)
  case atStart => exact ⟨0, by omega, rfl, by rw [Int.natCast_zero, Int.add_zero]; exact hF⟩
  case round =>
    clear hF
    obtain ⟨n, hn, rfl, hC⟩ := hrel
    by_cases hlt : n < 20
    · go_wp2_with (go_at_call 19; refine (c_clock hC 15 (by decide) (by omega) _ _ (rest_clock HR.out 15)).mono ?_; rintro e wv ⟨rfl, hC2⟩)
      refine ⟨?rel, ?measure⟩
      case rel => exact ⟨n + 1, by omega, by go_num, by rw [show ((n + 1 : Nat) : Int) = (n : Int) + 1 by omega, ← Int.add_assoc]; exact hC2⟩
      case measure => simp [intOf]; omega
    · obtain rfl : n = 20 := by omega
      have hp1 : bits .and .i64 4 1 = 0 := by decide +kernel
      go_upto_region 51 with (go_at_call 20; refine (c_status hC 4 _ HP.out.2 rfl).mono ?_; rintro e wS ⟨rfl, hS⟩)
      have hSd := hS.drew
      have HSZ := Lib.hid (hSd.lit (ints [0, 0, 0, 0, 0, 0, 0, 0]) 3 8 rfl (by decide))
      have HA : Hid (True ∧ t.a = fa) := ⟨trivial, HR.out.a⟩
      have HWI := Lib.hid HR.out.wipes
      have HSAME : Hid (True ∧ sameB ([0, 0, 0, 0, 0, 0, 0, 0] : List Int) [0, 0, 0, 0, 0, 0, 0, 0] = true) := ⟨trivial, by decide⟩
      clear hC hS
      go_region_held3 (fun _ => True) (first | exact trivial) (first | (go_at_call 13; with_reducible refine (c_cells hSd fa HA.out.2).mono ?_; rintro e wx ⟨rfl, rfl⟩) | (go_at_call 24; first | (with_reducible refine (c_wipes hSd _ HWI.out).mono ?_; rintro e wV ⟨aw, cw, rfl, hnw, hV⟩; have HV := Lib.hid (hV.lit (ints [0, 0, 0, 0, 0, 0, 0, 0]) 3 8 rfl (by decide))) | (refine (c_wipes HSZ.out _ HWI.out).mono ?_; rintro e wW ⟨aw, cw, rfl, hnw, hW⟩)) | (go_at_call 22; first | (refine (c_same hW 0 1 _ _ _ _ rfl rfl true HSAME.out.2).mono ?_; rintro e wE ⟨rfl, hE⟩) | (refine (c_same HV.out 1 0 _ _ _ _ rfl rfl true HSAME.out.2).mono ?_; rintro e wE ⟨rfl, hE⟩)))
      all_goals
        go_wp2
        go_ret
        exact ⟨rfl, hE.upd⟩
theorem wh_9 (x : Int) : ∃ i : Int, 0 ≤ i ∧ i < 9 ∧ (IntKind.u64.wrap x).tmod 9 = i := by
  have h : IntKind.u64.wrap x = x % 18446744073709551616 := by first | exact IntKind.wrap_u64 x | rfl
  refine ⟨x % 18446744073709551616 % 9, by omega, by omega, ?_⟩
  rw [h, Int.tmod_eq_emod_of_nonneg (by omega)]
theorem lawChipGuards (w : World) (wh : Int) (_ : (Lit.int .i64 wh).wf = true) (at' : Int) (_ : (Lit.int .i64 at').wf = true) :
    Calls Tryz.prog 8 #[.int .i64 wh, .int .i64 at'] w fun e w' => e = .returned (.bool true) ∧ Upd none' w w' := by
  obtain ⟨i, h0, h1, h⟩ := wh_9 wh
  rcases (show i = 0 ∨ i = 1 ∨ i = 2 ∨ i = 3 ∨ i = 4 ∨ i = 5 ∨ i = 6 ∨ i = 7 ∨ i = 8 by omega) with rfl | rfl | rfl | rfl | rfl | rfl | rfl | rfl | rfl
  · exact lawGuards0 w wh at' h
  · exact lawGuards1 w wh at' h
  · exact lawGuards2 w wh at' h
  · exact lawGuards3 w wh at' h
  · exact lawGuards4 w wh at' h
  · exact lawGuards5 w wh at' h
  · exact lawGuards6 w wh at' h
  · exact lawGuards7 w wh at' h
  · exact lawGuards8 w wh at' h
end Go.Proofs.YtjdjdfllggpckaaGreat
