/- ChipQuad: reads on four lanes are nothing until quad is set; then they tell the cells: for every text, number and choice. No condition. -/
import Derived.Test.YtjdjdfllggpckaaCtxC
import Derived.Test.YtjdjdfllggpckaaAwake6
import Derived.Test.YtjdjdfllggpckaaCtxD
import Derived.Test.YtjdjdfllggpckaaNums
namespace Go.Proofs.Ytjdjdfllggpckaa
open Go.RowKit
def quadX (k : Nat) : List Int := (wordL [107, 0, (k : Int) / 256, (k : Int) % 256] ++ List.replicate 8 15) ++ List.replicate 8 15
def quadY (a : ByteArray) (k : Nat) : List Int := List.replicate 40 15 ++ (nibs (byteOf a (((k : Int) + 0) % 4096).toNat) ++ nibs (byteOf a (((k : Int) + 1) % 4096).toNat) ++ nibs (byteOf a (((k : Int) + 2) % 4096).toNat) ++ nibs (byteOf a (((k : Int) + 3) % 4096).toNat))
theorem quad_said0 (a : ByteArray) (k : Nat) : ∃ t, (St.new a).said (quadX k) = (t, List.replicate 48 15) := by
  have h := quad_not (St.new a) rfl rfl rfl (k : Int)
  unfold quadX
  exact said_tells _ _ _ h
theorem quad_said1 (a : ByteArray) (k : Nat) (hk : k < 4096) : ∃ t, (qd2 a).said (quadX k) = (t, quadY a k) := by
  have h := quad_yes (qd2 a) (qd2_goes a) (qd2_job a) (qd2_quad a) (k : Int)
  rw [addrOf_eq (k : Int) (by omega), qd2_a] at h
  unfold quadX quadY
  exact said_tells _ _ _ h
theorem rep_at (n i : Nat) (x : Int) (h : i < n) : (ints (List.replicate n x))[i]? = some (.int .i64 x) := by
  unfold ints
  rw [List.getElem?_map, List.getElem?_replicate, if_pos h]
  rfl
theorem quadY_lo (a : ByteArray) (k i : Nat) (h : i < 40) : (ints (quadY a k))[i]? = some (.int .i64 15) := by
  unfold quadY ints
  rw [List.map_append, List.getElem?_append_left (by rw [List.length_map, List.length_replicate]; exact h), List.getElem?_map, List.getElem?_replicate, if_pos h]
  rfl
theorem quadY_hi (a : ByteArray) (k j q : Nat) (hj : j < 4) (hq : (((k : Int) + (j : Int)) % 4096).toNat = q) (hqs : q < a.size) : (ints (quadY a k))[40 + 2 * j]? = some (.int .i64 (((a[q]'hqs).toNat : Int) / 16)) ∧ (ints (quadY a k))[41 + 2 * j]? = some (.int .i64 (((a[q]'hqs).toNat : Int) % 16)) := by
  have hb := byteOf_get a q hqs
  have hlt := (a[q]'hqs).toNat_lt
  have e1 : byteOf a q / 16 % 16 = ((a[q]'hqs).toNat : Int) / 16 := by rw [hb]; omega
  have e2 : byteOf a q / 1 % 16 = ((a[q]'hqs).toNat : Int) % 16 := by rw [hb]; omega
  rcases (show j = 0 ∨ j = 1 ∨ j = 2 ∨ j = 3 by omega) with rfl | rfl | rfl | rfl
  all_goals
    subst hq
    exact ⟨by rw [← e1]; rfl, by rw [← e2]; rfl⟩
set_option maxRecDepth 100000 in
set_option maxHeartbeats 4000000 in
theorem lawChipQuad (w : World) (s : ByteArray) (hs : s.size ≤ maxLen) (at' : Int) (_ : (Lit.int .i64 at').wf = true) (set : Bool) :
    Calls Try.prog 5 #[.string s, .int .i64 at', .bool set] w fun e w' => e = .returned (.bool true) ∧ Upd none' w w' := by
  obtain ⟨k, hat, hk⟩ := at_4095 at'
  obtain ⟨fa, hfa⟩ : ∃ fa : ByteArray, (⟨(freshL s).toArray⟩ : ByteArray) = fa := ⟨_, rfl⟩
  have hsz : fa.size = 4096 := by rw [← hfa]; simpa [ByteArray.size] using freshL_len s
  have HFA := Lib.hid hfa
  have HWB := Lib.hid (word4_in 107 k (by decide) hk)
  have HXI : Hid (∀ x ∈ quadX k, 0 ≤ x ∧ x ≤ 15) := app_in (app_in (word_in _) (rep_in _)) (rep_in _)
  have hkand := i64_and255 (k : Int)
  clear hfa
  cases set with
  | false =>
    obtain ⟨t, ht⟩ := quad_said0 fa k
    have HSAY := Lib.hid ht
    clear ht
    go_enter Try.func5, Try.ntmps5
    go_upto_region 14 with (first | (go_at_call 7; refine (awake6 _).mono ?_; rintro e w0 ⟨rfl, hU0⟩) | (go_at_call 8; refine (c_fresh hU0 s hs fa HFA.out).mono ?_; rintro e w1 ⟨b, rfl, hC1⟩) | (go_at_call 9; refine (c_cells hC1 fa rfl).mono ?_; rintro e w2 ⟨rfl, rfl⟩) | (go_at_call 12; refine (c_wordl hC1 [107, 0, (k : Int) / 256, (k : Int) % 256] 4 32 rfl rfl (by decide) HWB.out).mono ?_; rintro e w2 ⟨a1, c1, rfl, hn1, hC2⟩) | (go_at_call 15; first | (refine (c_quiet hC3 0 _ 40 _ _ rfl hn2 8 _ rfl 48 rfl (by omega)).mono ?_; rintro e w4 ⟨a3, c3, rfl, hn3, hC4⟩) | (refine (c_quiet hC2 0 _ 32 _ _ rfl hn1 8 _ rfl 40 rfl (by omega)).mono ?_; rintro e w3 ⟨a2, c2, rfl, hn2, hC3⟩)) | (go_at_call 11; refine (c_say hC4 0 _ 48 _ (quadX k) rfl (by omega) rfl HXI.out t _ HSAY.out).mono ?_; rintro e w5 ⟨a4, c4, rfl, hn4, hC5⟩))
    obtain ⟨g, o, rfl, hg, hc⟩ := (hC5.rs 0 rfl).cells (by omega)
    have HC := Lib.hid hc
    have hU5 := hC5.upd
    clear hc hC1 hC2 hC3 hC4 hC5 hat hkand HFA HWB HXI HSAY hU0 hn1 hn2 hn3 hn4
    go_wp2_with fail
    go_loopw [11] (fun iv wr => ∃ i : Nat, i ≤ 48 ∧ iv = .int .i64 i ∧ Upd none' w5 wr) (fun iv _ => 48 - (intOf iv).toNat)
    case atStart => exact ⟨0, by omega, rfl, Upd.refl _ _⟩
    case round =>
      obtain ⟨i, hi, rfl, hU⟩ := hrel
      by_cases hlt : i < 48
      · have hcell : wr.cell? ⟨g, o + i, none⟩ = some (.int .i64 15) := by
          rw [hU.cell (p := ⟨g, o + i, none⟩) hg (fun f => f), HC.out i hlt, rep_at 48 i 15 hlt]
        have hgr : g < wr.heap.size := Nat.lt_of_lt_of_le hg hU.size
        go_wp2
        refine ⟨?rel, ?measure⟩
        case rel => exact ⟨i + 1, by omega, by go_num, hU⟩
        case measure => simp [intOf]; omega
      · have him : i = 48 := by omega
        subst him
        go_wp2
        go_ret
        exact ⟨rfl, hU5.trans hU (fun _ _ f => f)⟩
  | true =>
    obtain ⟨t, ht⟩ := quad_said1 fa k hk
    have HSAY := Lib.hid ht
    obtain ⟨y1, hy1⟩ := qd1_said fa
    obtain ⟨y2, hy2⟩ := qd2_said fa
    have HY1 := Lib.hid hy1
    have HY2 := Lib.hid hy2
    clear ht hy1 hy2
    go_enter Try.func5, Try.ntmps5
    go_upto_region 7 with (first | (go_at_call 7; refine (awake6 _).mono ?_; rintro e w0 ⟨rfl, hU0⟩) | (go_at_call 8; refine (c_fresh hU0 s hs fa HFA.out).mono ?_; rintro e w1 ⟨b, rfl, hC1⟩))
    go_upto_region 8 with (first | (go_at_call 12; refine (c_wordl hC1 [6] 1 8 rfl rfl (by decide) (by decide)).mono ?_; rintro e w2 ⟨a1, c1, rfl, hn1, hC2⟩) | (go_at_call 11; refine (c_say hC2 0 _ 8 _ (wordL [6]) rfl (by omega) rfl (word_in _) (qd1 fa) _ HY1.out).mono ?_; rintro e w3 ⟨a2, c2, rfl, hn2, hC3'⟩))
    have hC3 := hC3'.drop
    clear hC1 hC2 hC3' HY1 hn1 hn2
    go_upto_region 9 with (first | (go_at_call 12; refine (c_wordl hC3 [1, 0, 2] 3 24 rfl rfl (by decide) (by decide)).mono ?_; rintro e w4 ⟨a3, c3, rfl, hn3, hC4⟩) | (go_at_call 11; refine (c_say hC4 0 _ 24 _ (wordL [1, 0, 2]) rfl (by omega) (qd1_sel fa) (word_in _) (qd2 fa) _ HY2.out).mono ?_; rintro e w5 ⟨a4, c4, rfl, hn4, hC5'⟩))
    have hC5 := hC5'.drop
    clear hC3 hC4 hC5' HY2 hn3 hn4
    go_upto_region 14 with (first | (go_at_call 9; refine (c_cells hC5 fa (qd2_a fa)).mono ?_; rintro e w6 ⟨rfl, rfl⟩) | (go_at_call 12; refine (c_wordl hC5 [107, 0, (k : Int) / 256, (k : Int) % 256] 4 32 rfl rfl (by decide) HWB.out).mono ?_; rintro e w6 ⟨a5, c5, rfl, hn5, hC6⟩) | (go_at_call 15; first | (refine (c_quiet hC7 0 _ 40 _ _ rfl hn6 8 _ rfl 48 rfl (by omega)).mono ?_; rintro e w8 ⟨a7, c7, rfl, hn7, hC8⟩) | (refine (c_quiet hC6 0 _ 32 _ _ rfl hn5 8 _ rfl 40 rfl (by omega)).mono ?_; rintro e w7 ⟨a6, c6, rfl, hn6, hC7⟩)) | (go_at_call 11; refine (c_say hC8 0 _ 48 _ (quadX k) rfl (by omega) (qd2_sel fa) HXI.out t _ HSAY.out).mono ?_; rintro e w9 ⟨a8, c8, rfl, hn8, hC9⟩))
    obtain ⟨g, o, rfl, hg, hc⟩ := (hC9.rs 0 rfl).cells (by omega)
    have HC := Lib.hid hc
    have hU9 := hC9.upd
    clear hc hC5 hC6 hC7 hC8 hC9 hat hkand HFA HWB HXI HSAY hU0 hn5 hn6 hn7 hn8
    go_wp2_with fail
    go_loopw [11] (fun iv wr => ∃ i : Nat, i ≤ 48 ∧ iv = .int .i64 i ∧ Upd none' w9 wr) (fun iv _ => 48 - (intOf iv).toNat)
    case atStart => exact ⟨0, by omega, rfl, Upd.refl _ _⟩
    case round =>
      obtain ⟨i, hi, rfl, hU⟩ := hrel
      by_cases hlt : i < 48
      · have hgr : g < wr.heap.size := Nat.lt_of_lt_of_le hg hU.size
        have hce : wr.cell? ⟨g, o + i, none⟩ = (ints (quadY fa k))[i]? := by
          rw [hU.cell (p := ⟨g, o + i, none⟩) hg (fun f => f), HC.out i hlt]
        by_cases h40 : i < 40
        · rw [quadY_lo fa k i h40] at hce
          go_wp2
          refine ⟨?rel, ?measure⟩
          case rel => exact ⟨i + 1, by omega, by go_num, hU⟩
          case measure => simp [intOf]; omega
        · rcases (show i = 40 ∨ i = 41 ∨ i = 42 ∨ i = 43 ∨ i = 44 ∨ i = 45 ∨ i = 46 ∨ i = 47 by omega) with rfl | rfl | rfl | rfl | rfl | rfl | rfl | rfl
          · obtain ⟨q, hq2, hq3, hqt, hwi⟩ := sum_4096 k 0 hk (by decide)
            have hqs : q < fa.size := by omega
            have hqi : (q : Int) < 4096 := by omega
            have hY := (quadY_hi fa k 0 q (by decide) hq3 hqs).1
            rw [show (ints (quadY fa k))[40]? = _ from hY] at hce
            have hw8 := wrap64_byte' (fa[q]'hqs)
            have hand := i64_and15 (((fa[q]'hqs).toNat : Int))
            rw [Int.natCast_zero, Int.add_zero] at hqt hwi
            clear hq3 hY
            go_wp2
            exact ⟨⟨41, by omega, by go_num, hU⟩, by simp [intOf]⟩
          · obtain ⟨q, hq2, hq3, hqt, hwi⟩ := sum_4096 k 0 hk (by decide)
            have hqs : q < fa.size := by omega
            have hqi : (q : Int) < 4096 := by omega
            have hY := (quadY_hi fa k 0 q (by decide) hq3 hqs).2
            rw [show (ints (quadY fa k))[41]? = _ from hY] at hce
            have hw8 := wrap64_byte' (fa[q]'hqs)
            have hand := i64_and15 (((fa[q]'hqs).toNat : Int))
            rw [Int.natCast_zero, Int.add_zero] at hqt hwi
            clear hq3 hY
            go_wp2
            exact ⟨⟨42, by omega, by go_num, hU⟩, by simp [intOf]⟩
          · obtain ⟨q, hq2, hq3, hqt, hwi⟩ := sum_4096 k 1 hk (by decide)
            have hqs : q < fa.size := by omega
            have hqi : (q : Int) < 4096 := by omega
            have hY := (quadY_hi fa k 1 q (by decide) hq3 hqs).1
            rw [show (ints (quadY fa k))[42]? = _ from hY] at hce
            have hw8 := wrap64_byte' (fa[q]'hqs)
            have hand := i64_and15 (((fa[q]'hqs).toNat : Int))
            replace hqt : ((k : Int) + 1).tmod 4096 = (q : Int) := hqt
            replace hwi : IntKind.i64.wrap ((k : Int) + 1) = ((k : Int) + 1) := hwi
            clear hq3 hY
            go_wp2
            exact ⟨⟨43, by omega, by go_num, hU⟩, by simp [intOf]⟩
          · obtain ⟨q, hq2, hq3, hqt, hwi⟩ := sum_4096 k 1 hk (by decide)
            have hqs : q < fa.size := by omega
            have hqi : (q : Int) < 4096 := by omega
            have hY := (quadY_hi fa k 1 q (by decide) hq3 hqs).2
            rw [show (ints (quadY fa k))[43]? = _ from hY] at hce
            have hw8 := wrap64_byte' (fa[q]'hqs)
            have hand := i64_and15 (((fa[q]'hqs).toNat : Int))
            replace hqt : ((k : Int) + 1).tmod 4096 = (q : Int) := hqt
            replace hwi : IntKind.i64.wrap ((k : Int) + 1) = ((k : Int) + 1) := hwi
            clear hq3 hY
            go_wp2
            exact ⟨⟨44, by omega, by go_num, hU⟩, by simp [intOf]⟩
          · obtain ⟨q, hq2, hq3, hqt, hwi⟩ := sum_4096 k 2 hk (by decide)
            have hqs : q < fa.size := by omega
            have hqi : (q : Int) < 4096 := by omega
            have hY := (quadY_hi fa k 2 q (by decide) hq3 hqs).1
            rw [show (ints (quadY fa k))[44]? = _ from hY] at hce
            have hw8 := wrap64_byte' (fa[q]'hqs)
            have hand := i64_and15 (((fa[q]'hqs).toNat : Int))
            replace hqt : ((k : Int) + 2).tmod 4096 = (q : Int) := hqt
            replace hwi : IntKind.i64.wrap ((k : Int) + 2) = ((k : Int) + 2) := hwi
            clear hq3 hY
            go_wp2
            exact ⟨⟨45, by omega, by go_num, hU⟩, by simp [intOf]⟩
          · obtain ⟨q, hq2, hq3, hqt, hwi⟩ := sum_4096 k 2 hk (by decide)
            have hqs : q < fa.size := by omega
            have hqi : (q : Int) < 4096 := by omega
            have hY := (quadY_hi fa k 2 q (by decide) hq3 hqs).2
            rw [show (ints (quadY fa k))[45]? = _ from hY] at hce
            have hw8 := wrap64_byte' (fa[q]'hqs)
            have hand := i64_and15 (((fa[q]'hqs).toNat : Int))
            replace hqt : ((k : Int) + 2).tmod 4096 = (q : Int) := hqt
            replace hwi : IntKind.i64.wrap ((k : Int) + 2) = ((k : Int) + 2) := hwi
            clear hq3 hY
            go_wp2
            exact ⟨⟨46, by omega, by go_num, hU⟩, by simp [intOf]⟩
          · obtain ⟨q, hq2, hq3, hqt, hwi⟩ := sum_4096 k 3 hk (by decide)
            have hqs : q < fa.size := by omega
            have hqi : (q : Int) < 4096 := by omega
            have hY := (quadY_hi fa k 3 q (by decide) hq3 hqs).1
            rw [show (ints (quadY fa k))[46]? = _ from hY] at hce
            have hw8 := wrap64_byte' (fa[q]'hqs)
            have hand := i64_and15 (((fa[q]'hqs).toNat : Int))
            replace hqt : ((k : Int) + 3).tmod 4096 = (q : Int) := hqt
            replace hwi : IntKind.i64.wrap ((k : Int) + 3) = ((k : Int) + 3) := hwi
            clear hq3 hY
            go_wp2
            exact ⟨⟨47, by omega, by go_num, hU⟩, by simp [intOf]⟩
          · obtain ⟨q, hq2, hq3, hqt, hwi⟩ := sum_4096 k 3 hk (by decide)
            have hqs : q < fa.size := by omega
            have hqi : (q : Int) < 4096 := by omega
            have hY := (quadY_hi fa k 3 q (by decide) hq3 hqs).2
            rw [show (ints (quadY fa k))[47]? = _ from hY] at hce
            have hw8 := wrap64_byte' (fa[q]'hqs)
            have hand := i64_and15 (((fa[q]'hqs).toNat : Int))
            replace hqt : ((k : Int) + 3).tmod 4096 = (q : Int) := hqt
            replace hwi : IntKind.i64.wrap ((k : Int) + 3) = ((k : Int) + 3) := hwi
            clear hq3 hY
            go_wp2
            exact ⟨⟨48, by omega, by go_num, hU⟩, by simp [intOf]⟩
      · have him : i = 48 := by omega
        subst him
        go_wp2
        go_ret
        exact ⟨rfl, hU9.trans hU (fun _ _ f => f)⟩
end Go.Proofs.Ytjdjdfllggpckaa
