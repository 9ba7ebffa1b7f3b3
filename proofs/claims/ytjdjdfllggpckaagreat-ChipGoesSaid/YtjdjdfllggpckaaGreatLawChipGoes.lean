/- ChipGoes: a read that goes on needs no byte, until its mode bits are other ones: for every text and row of numbers. No condition. -/
import Derived.Test.YtjdjdfllggpckaaGreatCtxE
import Derived.Test.YtjdjdfllggpckaaGreatCtxB
import Derived.Test.YtjdjdfllggpckaaGreatAwake6
import Derived.Test.YtjdjdfllggpckaaGreatPureO
namespace Go.Proofs.YtjdjdfllggpckaaGreat
open Go.RowKit
/-- The mode bits of a number. -/
def modeOf (x : Int) : Int := if x / 4096 % 4 = 3 then x / 16 % 128 else 160
theorem ints_append (xs ys : List Int) : ints (xs ++ ys) = ints xs ++ ints ys := by unfold ints; rw [List.map_append]
theorem modeOf_bd (x : Int) : 0 ≤ modeOf x ∧ modeOf x ≤ 255 := by unfold modeOf; split <;> omega
theorem or_nib (c : UInt8) : bits .or .i64 (((c.toNat : Int) / 16) * 16) ((c.toNat : Int) % 16) = (c.toNat : Int) := by
  have := c.toNat_lt
  rw [i64_or4 _ _ (by omega) (by omega) (by omega) (by omega) (by omega)]
  omega
set_option maxRecDepth 100000 in
set_option maxHeartbeats 4000000 in
theorem lawChipGoes (w : World) (s : ByteArray) (hs : s.size ≤ maxLen) (v0 : Value) (zs : List Int) (h0 : IntsR w v0 zs) :
    Calls Tryz.prog 7 #[.string s, v0] w fun e w' => e = .returned (.bool true) ∧ Upd none' w w' := by
  obtain ⟨fa, hfa⟩ : ∃ fa : ByteArray, (⟨(freshL s).toArray⟩ : ByteArray) = fa := ⟨_, rfl⟩
  have hsz : fa.size = 4096 := by rw [← hfa]; simpa [ByteArray.size] using freshL_len s
  have HFA := Lib.hid hfa
  obtain ⟨k1, k2, a0, cap0, rfl, k4, k5⟩ := h0
  obtain ⟨y1, hy1⟩ := qd1_said fa
  obtain ⟨y2, hy2⟩ := qd2_said fa
  have HY := Lib.hid (And.intro hy1 hy2)
  have HSEL : Hid (True ∧ (qd1 fa).sel = false) := ⟨trivial, qd1_sel fa⟩
  have HG0 := Lib.hid (go4_new fa)
  clear hfa k2 hy1 hy2
  go_enter Tryz.func7, Tryz.ntmps7
  go_upto_region 7 with (first | (go_at_call 11; refine (awake6 _).mono ?_; rintro e w0 ⟨rfl, hU0⟩) | (go_at_call 12; refine (c_fresh hU0 s hs fa HFA.out).mono ?_; rintro e w1 ⟨b, rfl, hC1⟩) | (go_at_call 16; refine (c_wordl hC1 [6] 1 8 rfl rfl (by decide) (by decide)).mono ?_; rintro e w2 ⟨a1, c1, rfl, hn1, hC2⟩) | (go_at_call 14; refine (c_say hC2 0 _ 8 _ (wordL [6]) rfl (by omega) rfl (word_in _) (qd1 fa) _ HY.out.1).mono ?_; rintro e w3 ⟨a2, c2, rfl, hn2, hC3'⟩))
  have hC3 := hC3'.drop
  clear hU0 hC1 hC2 hC3' hn1 hn2 HFA
  go_upto_region 9 with (first | (go_at_call 16; refine (c_wordl hC3 [1, 0, 2] 3 24 rfl rfl (by decide) (by decide)).mono ?_; rintro e w4 ⟨a3, c3, rfl, hn3, hC4⟩) | (go_at_call 14; refine (c_say hC4 0 _ 24 _ (wordL [1, 0, 2]) rfl (by omega) HSEL.out.2 (word_in _) (qd2 fa) _ HY.out.2).mono ?_; rintro e w5 ⟨a4, c4, rfl, hn4, hC5'⟩) | (go_at_call 13; refine (c_cells hC5' fa HG0.out.a).mono ?_; rintro e w6 ⟨rfl, rfl⟩))
  obtain ⟨t0, ht0⟩ : ∃ t0, qd2 fa = t0 := ⟨_, rfl⟩
  have hC5 := hC5'.drop
  rw [ht0] at hC5 HG0
  clear hC3 hC4 hC5' hn3 hn4 HY HSEL ht0
  go_wp2_with fail
  go_loopw [7, 8] (fun gv iv wr => ∃ (i : Nat) (g : Bool) (t : St), i ≤ zs.length ∧ i ≤ 12 ∧ iv = .int .i64 i ∧ gv = .bool g ∧ Go4 fa g t ∧ Ctx (ChipP b t (100 + 30 * (i : Int))) .emp w wr []) (fun _ iv _ => 12 - (intOf iv).toNat)
  case atStart => exact ⟨0, false, t0, by omega, by omega, rfl, rfl, HG0.out, hC5.up (by omega)⟩
  case round =>
    clear hC5 HG0
    obtain ⟨i, g, t, hi1, hi2, rfl, rfl, hG, hC⟩ := hrel
    have HG := Lib.hid hG
    have HSELT : Hid (True ∧ t.sel = false) := ⟨trivial, hG.sel⟩
    clear hG
    by_cases hlt : i < zs.length ∧ i < 12
    · obtain ⟨hl1, hl2⟩ := hlt
      obtain ⟨bb, oo, rfl, hbb, hcc⟩ := k5 (by intro h; simp [h] at hl1)
      obtain ⟨x, hx⟩ : ∃ x, zs.getD i 0 = x := ⟨_, rfl⟩
      have hcell : wr.cell? ⟨bb, oo + i, none⟩ = some (.int .i64 x) := by
        rw [hC.upd.cell (p := ⟨bb, oo + i, none⟩) hbb (fun f => f), hcc i hl1, hx]
      have hbl := Nat.lt_of_lt_of_le hbb hC.upd.size
      obtain ⟨k, hkx, hk⟩ := at_4095 x
      have hks : k < fa.size := by omega
      have hki : (k : Int) < 4096 := by omega
      have hand3 := i64_and3 (x / 4096)
      have hand127 := i64_and127 (x / 16)
      have hk1 := i64_and15 ((k : Int) / 256)
      have hk2 := i64_and15 ((k : Int) / 16)
      have hk3 := i64_and15 (k : Int)
      have hcl := (fa[k]'hks).toNat_lt
      have hor := or_nib (fa[k]'hks)
      obtain ⟨hi, hhi⟩ : ∃ hi : Int, ((fa[k]'hks).toNat : Int) / 16 = hi := ⟨_, rfl⟩
      obtain ⟨lo, hlo⟩ : ∃ lo : Int, ((fa[k]'hks).toNat : Int) % 16 = lo := ⟨_, rfl⟩
      have hhb : 0 ≤ hi ∧ hi ≤ 15 := by omega
      have hlb : 0 ≤ lo ∧ lo ≤ 15 := by omega
      rw [hhi, hlo] at hor
      have HHI := Lib.hid hhi
      have HLO := Lib.hid hlo
      have hw8 := wrap64_byte' (fa[k]'hks)
      clear hcl hhi hlo
      obtain ⟨md, hmd⟩ : ∃ md, modeOf x = md := ⟨_, rfl⟩
      have hmb := modeOf_bd x
      rw [hmd] at hmb
      have hm1 := i64_and15 md
      have HMB := Lib.hid hmb
      clear hcc hx k5
      cases g with
      | false =>
        by_cases h3 : x / 4096 % 4 = 3
        · have hmode : x / 16 % 128 = md := by rw [← hmd]; unfold modeOf; rw [if_pos h3]
          obtain ⟨u, ys, hu1, hu2, hu3, hu4⟩ := goes_a fa hsz t HG.out k hk hks md HMB.out
          have HU := Lib.hid (And.intro hu1 (And.intro hu2 (And.intro hu3 hu4)))
          have HXI : Hid (∀ x ∈ (wordL [235] ++ goX k md) ++ List.replicate 6 15, 0 ≤ x ∧ x ≤ 15) := app_in (app_in (word_in _) (goX_in k md (by omega) HMB.out)) (rep_in _)
          clear hu1 hu2 hu3 hu4 hmd HG
          go_upto_region 19 with (go_at_call 16; go_must (refine (c_wordlR hC [235] 1 8 rfl rfl (by decide) (by decide)).mono ?_; rintro e w7 ⟨aX, cX, rfl, hnX, hRX, hOW, hDX⟩))
          have hcell7 : w7.cell? ⟨bb, oo + i, none⟩ = some (.int .i64 x) := by rw [hDX.upd.cell (p := ⟨bb, oo + i, none⟩) hbb (fun f => f), ← hC.upd.cell (p := ⟨bb, oo + i, none⟩) hbb (fun f => f)]; exact hcell
          have hbl7 := Nat.lt_of_lt_of_le hbb hDX.upd.size
          go_upto_region 22 with fail
          have hLIT := hDX.lit (ints (goX k md)) 3 8 rfl (by decide)
          have HRX := Lib.hid (hRX.upd ((Upd.refl none' w7).alloc (.cells (ints (goX k md)).toArray 3)) (fun _ _ f => f))
          have HOW := Lib.hid hOW
          clear hRX hOW
          go_upto_region 23 with (at_builtin; go_must (refine wpList_appRS2 rfl _ _ 27 rfl 3 (.int .i64 0) 8 Tryz.underlying27 info_int rfl (.slice aX 8 cX) (ints (wordL [235])) 8 rfl rfl HRX.out _ _ _ rfl (ints (goX k md)) (hLIT.rs 0 rfl) (fun h => by cases h) (fun h => absurd (congrArg List.length h) (show ¬ (8 : Nat) = 0 by decide)) (ints_one _) (by decide) (by decide) ?_); intro v8 w8 hR8 hU8 hv8)
          have hbl : (ints (wordL [235]) ++ ints (goX k md)).length = 16 := rfl
          have hD8 := hLIT.write 1 rfl HOW.out hU8 (hR8.rs (by rw [hbl]; decide)) (fun q hq => ⟨hv8 q hq, hR8.lt q hq⟩) [] (fun r hr => by simp at hr)
          obtain ⟨va, vc, rfl, -, hnv, -⟩ := hR8.form
          rw [hbl] at hD8 ⊢
          have HNV : Hid (va = none → vc = 0) := fun h => (hnv h).2
          replace hD8 : Ctx (ChipP b t (100 + 30 * (i : Int))) .emp w w8 [(.slice va 16 vc, ints ((wordL [235] ++ goX k md)))] := hD8
          clear hR8 hU8 hv8 hbl hnv hLIT HRX HOW hDX hC
          go_upto_region 24 with (first | (go_at_call 15; refine (c_quiet hD8 0 _ 16 _ _ rfl HNV.out 6 _ rfl 22 rfl (by omega)).mono ?_; rintro e w9 ⟨a9, c9, rfl, hn9, hD9⟩) | (go_at_call 14; refine (c_say hD9 0 _ 22 _ _ rfl (by omega) HSELT.out.2 HXI.out u ys HU.out.1).mono ?_; rintro e w10 ⟨a10, c10, rfl, hn10, hD10⟩))
          obtain ⟨gy, oy, rfl, hgy, hcy⟩ := (hD10.rs 0 rfl).cells (by decide)
          have hy1 : w10.cell? ⟨gy, oy + 20, none⟩ = some (.int .i64 hi) := by rw [hcy 20 (by decide), HU.out.2.2.1, HHI.out]
          have hy2 : w10.cell? ⟨gy, oy + 21, none⟩ = some (.int .i64 lo) := by rw [hcy 21 (by decide), HU.out.2.2.2, HLO.out]
          have hE := (hD10.drop.drew).up (M := 100 + 30 * ((i + 1 : Nat) : Int)) (by omega)
          have HE := Lib.hid hE
          clear hcy hE hD8 hD9 hD10 hn9 hn10 HXI HNV HSELT
          go_upto_region 25 with fail
          go_region
          all_goals
            go_wp2
            refine ⟨?rel, ?measure⟩
            case rel => exact ⟨i + 1, decide (md = 160), u, by omega, by omega, by go_num, rfl, HU.out.2.1, HE.out⟩
            case measure => simp [intOf]; omega
        · have h3b : (x / 4096 % 4 == 3) = false := by simpa using h3
          obtain rfl : md = 160 := by rw [← hmd]; unfold modeOf; rw [if_neg h3]
          obtain ⟨u, ys, hu1, hu2, hu3, hu4⟩ := goes_a fa hsz t HG.out k hk hks 160 (by decide)
          have HU := Lib.hid (And.intro hu1 (And.intro hu2 (And.intro hu3 hu4)))
          have HXI : Hid (∀ x ∈ (wordL [235] ++ goX k 160) ++ List.replicate 6 15, 0 ≤ x ∧ x ≤ 15) := app_in (app_in (word_in _) (goX_in k 160 (by omega) (by decide))) (rep_in _)
          clear hu1 hu2 hu3 hu4 hmd HG
          go_upto_region 19 with (go_at_call 16; go_must (refine (c_wordlR hC [235] 1 8 rfl rfl (by decide) (by decide)).mono ?_; rintro e w7 ⟨aX, cX, rfl, hnX, hRX, hOW, hDX⟩))
          have hcell7 : w7.cell? ⟨bb, oo + i, none⟩ = some (.int .i64 x) := by rw [hDX.upd.cell (p := ⟨bb, oo + i, none⟩) hbb (fun f => f), ← hC.upd.cell (p := ⟨bb, oo + i, none⟩) hbb (fun f => f)]; exact hcell
          have hbl7 := Nat.lt_of_lt_of_le hbb hDX.upd.size
          go_upto_region 22 with fail
          have hLIT := hDX.lit (ints (goX k 160)) 3 8 rfl (by decide)
          have HRX := Lib.hid (hRX.upd ((Upd.refl none' w7).alloc (.cells (ints (goX k 160)).toArray 3)) (fun _ _ f => f))
          have HOW := Lib.hid hOW
          clear hRX hOW
          go_upto_region 23 with (at_builtin; go_must (refine wpList_appRS2 rfl _ _ 27 rfl 3 (.int .i64 0) 8 Tryz.underlying27 info_int rfl (.slice aX 8 cX) (ints (wordL [235])) 8 rfl rfl HRX.out _ _ _ rfl (ints (goX k 160)) (hLIT.rs 0 rfl) (fun h => by cases h) (fun h => absurd (congrArg List.length h) (show ¬ (8 : Nat) = 0 by decide)) (ints_one _) (by decide) (by decide) ?_); intro v8 w8 hR8 hU8 hv8)
          have hbl : (ints (wordL [235]) ++ ints (goX k 160)).length = 16 := rfl
          have hD8 := hLIT.write 1 rfl HOW.out hU8 (hR8.rs (by rw [hbl]; decide)) (fun q hq => ⟨hv8 q hq, hR8.lt q hq⟩) [] (fun r hr => by simp at hr)
          obtain ⟨va, vc, rfl, -, hnv, -⟩ := hR8.form
          rw [hbl] at hD8 ⊢
          have HNV : Hid (va = none → vc = 0) := fun h => (hnv h).2
          replace hD8 : Ctx (ChipP b t (100 + 30 * (i : Int))) .emp w w8 [(.slice va 16 vc, ints ((wordL [235] ++ goX k 160)))] := hD8
          clear hR8 hU8 hv8 hbl hnv hLIT HRX HOW hDX hC
          go_upto_region 24 with (first | (go_at_call 15; refine (c_quiet hD8 0 _ 16 _ _ rfl HNV.out 6 _ rfl 22 rfl (by omega)).mono ?_; rintro e w9 ⟨a9, c9, rfl, hn9, hD9⟩) | (go_at_call 14; refine (c_say hD9 0 _ 22 _ _ rfl (by omega) HSELT.out.2 HXI.out u ys HU.out.1).mono ?_; rintro e w10 ⟨a10, c10, rfl, hn10, hD10⟩))
          obtain ⟨gy, oy, rfl, hgy, hcy⟩ := (hD10.rs 0 rfl).cells (by decide)
          have hy1 : w10.cell? ⟨gy, oy + 20, none⟩ = some (.int .i64 hi) := by rw [hcy 20 (by decide), HU.out.2.2.1, HHI.out]
          have hy2 : w10.cell? ⟨gy, oy + 21, none⟩ = some (.int .i64 lo) := by rw [hcy 21 (by decide), HU.out.2.2.2, HLO.out]
          have hE := (hD10.drop.drew).up (M := 100 + 30 * ((i + 1 : Nat) : Int)) (by omega)
          have HE := Lib.hid hE
          clear hcy hE hD8 hD9 hD10 hn9 hn10 HXI HNV HSELT
          go_upto_region 25 with fail
          go_region
          all_goals
            go_wp2
            refine ⟨?rel, ?measure⟩
            case rel => exact ⟨i + 1, decide ((160 : Int) = 160), u, by omega, by omega, by go_num, rfl, HU.out.2.1, HE.out⟩
            case measure => simp [intOf]; omega
      | true =>
        by_cases h3 : x / 4096 % 4 = 3
        · have hmode : x / 16 % 128 = md := by rw [← hmd]; unfold modeOf; rw [if_pos h3]
          obtain ⟨u, ys, hu1, hu2, hu3, hu4⟩ := goes_b fa hsz t HG.out k hk hks md HMB.out
          have HU := Lib.hid (And.intro hu1 (And.intro hu2 (And.intro hu3 hu4)))
          have HXI : Hid (∀ x ∈ goX k md ++ List.replicate 6 15, 0 ≤ x ∧ x ≤ 15) := app_in (goX_in k md (by omega) HMB.out) (rep_in _)
          clear hu1 hu2 hu3 hu4 hmd HG
          go_upto_region 22 with fail
          have hRX : Row wr 3 (.slice none 0 0) (ints []) := Row.nil _ _
          have hDX := hC.nilrow
          have hOW : ∀ q, (Value.slice none 0 0).ownBlock = some q → w.heap.size ≤ q := fun q hq => by simp [Value.ownBlock] at hq
          have hLIT := hDX.lit (ints (goX k md)) 3 8 rfl (by decide)
          have HRX := Lib.hid (hRX.upd ((Upd.refl none' wr).alloc (.cells (ints (goX k md)).toArray 3)) (fun _ _ f => f))
          have HOW := Lib.hid hOW
          clear hRX hOW
          go_upto_region 23 with (at_builtin; go_must (refine wpList_appRS2 rfl _ _ 27 rfl 3 (.int .i64 0) 8 Tryz.underlying27 info_int rfl (.slice none 0 0) (ints []) 0 rfl rfl HRX.out _ _ _ rfl (ints (goX k md)) (hLIT.rs 0 rfl) (fun h => by cases h) (fun h => absurd (congrArg List.length h) (show ¬ (8 : Nat) = 0 by decide)) (ints_one _) (by decide) (by decide) ?_); intro v8 w8 hR8 hU8 hv8)
          have hbl : (ints [] ++ ints (goX k md)).length = 8 := rfl
          have hD8 := hLIT.write 1 rfl HOW.out hU8 (hR8.rs (by rw [hbl]; decide)) (fun q hq => ⟨hv8 q hq, hR8.lt q hq⟩) [] (fun r hr => by simp at hr)
          obtain ⟨va, vc, rfl, -, hnv, -⟩ := hR8.form
          rw [hbl] at hD8 ⊢
          have HNV : Hid (va = none → vc = 0) := fun h => (hnv h).2
          replace hD8 : Ctx (ChipP b t (100 + 30 * (i : Int))) .emp w w8 [(.slice va 8 vc, ints (goX k md))] := hD8
          clear hR8 hU8 hv8 hbl hnv hLIT HRX HOW hDX hC
          go_upto_region 24 with (first | (go_at_call 15; refine (c_quiet hD8 0 _ 8 _ _ rfl HNV.out 6 _ rfl 14 rfl (by omega)).mono ?_; rintro e w9 ⟨a9, c9, rfl, hn9, hD9⟩) | (go_at_call 14; refine (c_say hD9 0 _ 14 _ _ rfl (by omega) HSELT.out.2 HXI.out u ys HU.out.1).mono ?_; rintro e w10 ⟨a10, c10, rfl, hn10, hD10⟩))
          obtain ⟨gy, oy, rfl, hgy, hcy⟩ := (hD10.rs 0 rfl).cells (by decide)
          have hy1 : w10.cell? ⟨gy, oy + 12, none⟩ = some (.int .i64 hi) := by rw [hcy 12 (by decide), HU.out.2.2.1, HHI.out]
          have hy2 : w10.cell? ⟨gy, oy + 13, none⟩ = some (.int .i64 lo) := by rw [hcy 13 (by decide), HU.out.2.2.2, HLO.out]
          have hE := (hD10.drop.drew).up (M := 100 + 30 * ((i + 1 : Nat) : Int)) (by omega)
          have HE := Lib.hid hE
          clear hcy hE hD8 hD9 hD10 hn9 hn10 HXI HNV HSELT
          go_upto_region 25 with fail
          go_region
          all_goals
            go_wp2
            refine ⟨?rel, ?measure⟩
            case rel => exact ⟨i + 1, decide (md = 160), u, by omega, by omega, by go_num, rfl, HU.out.2.1, HE.out⟩
            case measure => simp [intOf]; omega
        · have h3b : (x / 4096 % 4 == 3) = false := by simpa using h3
          obtain rfl : md = 160 := by rw [← hmd]; unfold modeOf; rw [if_neg h3]
          obtain ⟨u, ys, hu1, hu2, hu3, hu4⟩ := goes_b fa hsz t HG.out k hk hks 160 (by decide)
          have HU := Lib.hid (And.intro hu1 (And.intro hu2 (And.intro hu3 hu4)))
          have HXI : Hid (∀ x ∈ goX k 160 ++ List.replicate 6 15, 0 ≤ x ∧ x ≤ 15) := app_in (goX_in k 160 (by omega) (by decide)) (rep_in _)
          clear hu1 hu2 hu3 hu4 hmd HG
          go_upto_region 22 with fail
          have hRX : Row wr 3 (.slice none 0 0) (ints []) := Row.nil _ _
          have hDX := hC.nilrow
          have hOW : ∀ q, (Value.slice none 0 0).ownBlock = some q → w.heap.size ≤ q := fun q hq => by simp [Value.ownBlock] at hq
          have hLIT := hDX.lit (ints (goX k 160)) 3 8 rfl (by decide)
          have HRX := Lib.hid (hRX.upd ((Upd.refl none' wr).alloc (.cells (ints (goX k 160)).toArray 3)) (fun _ _ f => f))
          have HOW := Lib.hid hOW
          clear hRX hOW
          go_upto_region 23 with (at_builtin; go_must (refine wpList_appRS2 rfl _ _ 27 rfl 3 (.int .i64 0) 8 Tryz.underlying27 info_int rfl (.slice none 0 0) (ints []) 0 rfl rfl HRX.out _ _ _ rfl (ints (goX k 160)) (hLIT.rs 0 rfl) (fun h => by cases h) (fun h => absurd (congrArg List.length h) (show ¬ (8 : Nat) = 0 by decide)) (ints_one _) (by decide) (by decide) ?_); intro v8 w8 hR8 hU8 hv8)
          have hbl : (ints [] ++ ints (goX k 160)).length = 8 := rfl
          have hD8 := hLIT.write 1 rfl HOW.out hU8 (hR8.rs (by rw [hbl]; decide)) (fun q hq => ⟨hv8 q hq, hR8.lt q hq⟩) [] (fun r hr => by simp at hr)
          obtain ⟨va, vc, rfl, -, hnv, -⟩ := hR8.form
          rw [hbl] at hD8 ⊢
          have HNV : Hid (va = none → vc = 0) := fun h => (hnv h).2
          replace hD8 : Ctx (ChipP b t (100 + 30 * (i : Int))) .emp w w8 [(.slice va 8 vc, ints (goX k 160))] := hD8
          clear hR8 hU8 hv8 hbl hnv hLIT HRX HOW hDX hC
          go_upto_region 24 with (first | (go_at_call 15; refine (c_quiet hD8 0 _ 8 _ _ rfl HNV.out 6 _ rfl 14 rfl (by omega)).mono ?_; rintro e w9 ⟨a9, c9, rfl, hn9, hD9⟩) | (go_at_call 14; refine (c_say hD9 0 _ 14 _ _ rfl (by omega) HSELT.out.2 HXI.out u ys HU.out.1).mono ?_; rintro e w10 ⟨a10, c10, rfl, hn10, hD10⟩))
          obtain ⟨gy, oy, rfl, hgy, hcy⟩ := (hD10.rs 0 rfl).cells (by decide)
          have hy1 : w10.cell? ⟨gy, oy + 12, none⟩ = some (.int .i64 hi) := by rw [hcy 12 (by decide), HU.out.2.2.1, HHI.out]
          have hy2 : w10.cell? ⟨gy, oy + 13, none⟩ = some (.int .i64 lo) := by rw [hcy 13 (by decide), HU.out.2.2.2, HLO.out]
          have hE := (hD10.drop.drew).up (M := 100 + 30 * ((i + 1 : Nat) : Int)) (by omega)
          have HE := Lib.hid hE
          clear hcy hE hD8 hD9 hD10 hn9 hn10 HXI HNV HSELT
          go_upto_region 25 with fail
          go_region
          all_goals
            go_wp2
            refine ⟨?rel, ?measure⟩
            case rel => exact ⟨i + 1, decide ((160 : Int) = 160), u, by omega, by omega, by go_num, rfl, HU.out.2.1, HE.out⟩
            case measure => simp [intOf]; omega
    · have hend : ¬ i < zs.length ∨ (i < zs.length ∧ ¬ i < 12) := by omega
      clear hlt k5 k4
      cases g with
      | true =>
        obtain ⟨yS, hyS⟩ := af_said t (wordL [5] ++ List.replicate 8 15)
        have HS := Lib.hid hyS
        clear hyS
        rcases hend with hn1 | ⟨hn1, hn2⟩
        all_goals
          go_wp2_with (first | (go_at_call 16; refine (c_wordl hC [5] 1 8 rfl rfl (by decide) (by decide)).mono ?_; rintro e w7 ⟨a5, c5, rfl, hn5, hC7⟩) | (go_at_call 15; refine (c_quiet hC7 0 _ 8 _ _ rfl hn5 8 _ rfl 16 rfl (by omega)).mono ?_; rintro e w8 ⟨a6, c6, rfl, hn6, hC8⟩) | (go_at_call 14; refine (c_say hC8 0 _ 16 _ _ rfl (by omega) HSELT.out.2 (app_in (word_in _) (rep_in _)) _ _ HS.out).mono ?_; rintro e w9 ⟨a7, c7, rfl, hn7, hC9⟩))
          go_ret
          exact ⟨rfl, hC9.upd⟩
      | false =>
        obtain ⟨uS, hyS⟩ := said_tells t (wordL [5] ++ List.replicate 8 15) _ (go4_stat fa t HG.out)
        have HS := Lib.hid hyS
        have HB := Lib.hid stat_bytes
        clear hyS
        rcases hend with hn1 | ⟨hn1, hn2⟩
        all_goals
          go_wp2_with (first | (go_at_call 16; refine (c_wordl hC [5] 1 8 rfl rfl (by decide) (by decide)).mono ?_; rintro e w7 ⟨a5, c5, rfl, hn5, hC7⟩) | (go_at_call 15; refine (c_quiet hC7 0 _ 8 _ _ rfl hn5 8 _ rfl 16 rfl (by omega)).mono ?_; rintro e w8 ⟨a6, c6, rfl, hn6, hC8⟩) | (go_at_call 14; refine (c_say hC8 0 _ 16 _ _ rfl (by omega) HSELT.out.2 (app_in (word_in _) (rep_in _)) _ _ HS.out).mono ?_; rintro e w9 ⟨a7, c7, rfl, hn7, hC9⟩) | (go_at_call 17; refine (c_bytesOf hC9 0 _ _ _ _ rfl 8 _ rfl 1 (by decide) (by decide) (by decide) _ HB.out).mono ?_; rintro e wK ⟨aK, cK, rfl, hnK, hCK⟩; obtain ⟨gk, ok, rfl, hgk, hck⟩ := (hCK.rs 0 rfl).cells (by decide); have hk0 : wK.cell? ⟨gk, ok, none⟩ = some (.int .i64 0) := hck 0 (by decide); clear hck))
          go_ret
          exact ⟨rfl, hCK.upd⟩
end Go.Proofs.YtjdjdfllggpckaaGreat
