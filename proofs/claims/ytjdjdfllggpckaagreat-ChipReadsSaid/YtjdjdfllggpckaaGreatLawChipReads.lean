/- ChipReads: a read on one lane tells the cells from the address on, over and over: for every text and every two numbers. No condition. -/
import Derived.Test.YtjdjdfllggpckaaGreatCtxC
import Derived.Test.YtjdjdfllggpckaaGreatCtxB
import Derived.Test.YtjdjdfllggpckaaGreatAwake6
import Derived.Test.YtjdjdfllggpckaaGreatPure
import Derived.Test.YtjdjdfllggpckaaGreatNums
namespace Go.Proofs.YtjdjdfllggpckaaGreat
open Go.RowKit
def readsB (a : ByteArray) (k m : Nat) : List Int := (List.range m).map fun (i : Nat) => byteOf a (((k : Int) + (i : Int)) % 4096).toNat
theorem readsB_len (a : ByteArray) (k m : Nat) : (readsB a k m).length = m := by unfold readsB; rw [List.length_map, List.length_range]
theorem readsB_at (a : ByteArray) (k m i : Nat) (h : i < m) : (ints (readsB a k m))[i]? = some (.int .i64 (byteOf a (((k : Int) + (i : Int)) % 4096).toNat)) := by
  unfold readsB ints
  rw [List.getElem?_map, List.getElem?_map, List.getElem?_range h]
  rfl
def readsX (k m : Nat) : List Int := wordL [3, 0, (k : Int) / 256, (k : Int) % 256] ++ List.replicate (8 * m) 15
def readsY (a : ByteArray) (k m : Nat) : List Int := List.replicate 32 15 ++ (List.range m).flatMap fun (i : Nat) => tellL (byteOf a (((k : Int) + (i : Int)) % 4096).toNat)
theorem readsY_at (a : ByteArray) (k m i : Nat) (h : i < 32) : (ints (readsY a k m))[i]? = some (.int .i64 15) := by
  unfold readsY ints
  rw [List.map_append, List.getElem?_append_left (by rw [List.length_map, List.length_replicate]; exact h), List.getElem?_map, List.getElem?_replicate, if_pos h]
  rfl
theorem reads_said (a : ByteArray) (k m : Nat) (hk : k < 4096) : ∃ t, (St.new a).said (readsX k m) = (t, readsY a k m) := ⟨_, Prod.ext rfl (reads_law a k (by omega) m)⟩
theorem reads_bytes (a : ByteArray) (k m : Nat) : bytesN (readsY a k m) 32 m = readsB a k m :=
  bytesN_tells (List.replicate 32 15) (fun (i : Nat) => byteOf a (((k : Int) + (i : Int)) % 4096).toNat) m (fun _ _ => byteOf_bd _ _)
set_option maxRecDepth 100000 in
set_option maxHeartbeats 4000000 in
theorem lawChipReads (w : World) (s : ByteArray) (hs : s.size ≤ maxLen) (at' : Int) (_ : (Lit.int .i64 at').wf = true) (many : Int) (_ : (Lit.int .i64 many).wf = true) :
    Calls Tryz.prog 3 #[.string s, .int .i64 at', .int .i64 many] w fun e w' => e = .returned (.bool true) ∧ Upd none' w w' := by
  obtain ⟨m, hm1, hm2, hand, hwr⟩ := many_31 many
  obtain ⟨k, hat, hk⟩ := at_4096 at'
  obtain ⟨fa, hfa⟩ : ∃ fa : ByteArray, (⟨(freshL s).toArray⟩ : ByteArray) = fa := ⟨_, rfl⟩
  have hsz : fa.size = 4096 := by rw [← hfa]; simpa [ByteArray.size] using freshL_len s
  have HFA := Lib.hid hfa
  have HWB := Lib.hid (word4_in 3 k (by decide) hk)
  have HXI : Hid (∀ x ∈ readsX k m, 0 ≤ x ∧ x ≤ 15) := app_in (word_in _) (rep_in _)
  obtain ⟨t, ht⟩ := reads_said fa k m hk
  have HSAY := Lib.hid ht
  have HBY := Lib.hid (reads_bytes fa k m)
  have hkand := i64_and255 (k : Int)
  clear hfa ht
  go_enter Tryz.func3, Tryz.ntmps3
  go_upto_region 7 with (first | (go_at_call 11; refine (awake6 _).mono ?_; rintro e w0 ⟨rfl, hU0⟩) | (go_at_call 12; refine (c_fresh hU0 s hs fa HFA.out).mono ?_; rintro e w1 ⟨b, rfl, hC1⟩) | (go_at_call 13; refine (c_cells hC1 fa rfl).mono ?_; rintro e w2 ⟨rfl, rfl⟩))
  go_upto_region 13 with (first | (go_at_call 16; refine (c_wordl hC1 [3, 0, (k : Int) / 256, (k : Int) % 256] 4 32 rfl rfl (by decide) HWB.out).mono ?_; rintro e w2 ⟨a1, c1, rfl, hn1, hC2⟩) | (go_at_call 15; refine (c_quiet hC2 0 _ 32 _ _ rfl hn1 (8 * m) _ (by omega) (32 + 8 * m) rfl (by omega)).mono ?_; rintro e w3 ⟨a2, c2, rfl, hn2, hC3⟩) | (go_at_call 14; refine (c_say hC3 0 _ (32 + 8 * m) _ (readsX k m) rfl (by omega) rfl HXI.out t _ HSAY.out).mono ?_; rintro e w4 ⟨a3, c3, rfl, hn3, hC4⟩) | (go_at_call 17; refine (c_bytesOf hC4 0 _ _ _ _ rfl 32 _ rfl m (by omega) (by omega) (by omega) _ HBY.out).mono ?_; rintro e w5 ⟨a4, c4, rfl, hn4, hC5⟩))
  obtain ⟨g, o, rfl, hg, hc⟩ := (hC5.rs 0 rfl).cells (by omega)
  obtain ⟨g2, o2, rfl, hg2, hc2⟩ := (hC5.rs 1 rfl).cells (by omega)
  have HC := Lib.hid hc
  have HC2 := Lib.hid hc2
  have hU5 := hC5.upd
  clear hc hc2 hC1 hC2 hC3 hC4 hat hand hwr hkand HFA HWB HXI HSAY HBY hU0 hC5 hn1 hn2 hn3 hn4
  go_wp2_with fail
  go_loopw [13] (fun iv wr => ∃ i : Nat, i ≤ m ∧ iv = .int .i64 i ∧ Upd none' w5 wr) (fun iv _ => m - (intOf iv).toNat)
  case atStart => exact ⟨0, by omega, rfl, Upd.refl _ _⟩
  case round =>
    obtain ⟨i, hi, rfl, hU⟩ := hrel
    by_cases hlt : i < m
    · obtain ⟨q, hq2, hq3, hqt, hwi⟩ := sum_4096 k i hk (by omega)
      have hqs : q < fa.size := by omega
      have hcell : wr.cell? ⟨g, o + i, none⟩ = some (.int .i64 ((fa[q]'hqs).toNat : Int)) := by
        rw [hU.cell (p := ⟨g, o + i, none⟩) hg (fun f => f), HC.out i hlt, readsB_at fa k m i hlt, hq3, byteOf_get fa q hqs]
      have hgr : g < wr.heap.size := Nat.lt_of_lt_of_le hg hU.size
      have hqi : (q : Int) < 4096 := by omega
      clear hq3
      have hw8 := wrap64_byte' (fa[q]'hqs)
      go_upto_region 18 with fail
      go_region
      all_goals
        go_wp2
        refine ⟨?rel, ?measure⟩
        case rel => exact ⟨i + 1, by omega, by go_num, hU.drew⟩
        case measure => simp [intOf]; omega
    · have him : i = m := by omega
      subst him
      clear HC
      go_wp2_with fail
      go_loopw [14] (fun iv w6 => ∃ j : Nat, j ≤ 32 ∧ iv = .int .i64 j ∧ Upd none' w5 w6) (fun iv _ => 32 - (intOf iv).toNat)
      case atStart => exact ⟨0, by omega, rfl, hU⟩
      case round =>
        obtain ⟨j, hj, rfl, hU⟩ := hrel
        rename World => w6
        by_cases hlt : j < 32
        · have hcell : w6.cell? ⟨g2, o2 + j, none⟩ = some (.int .i64 15) := by
            rw [hU.cell (p := ⟨g2, o2 + j, none⟩) hg2 (fun f => f), HC2.out j (by omega), readsY_at fa k i j hlt]
          have hgr : g2 < w6.heap.size := Nat.lt_of_lt_of_le hg2 hU.size
          go_wp2
          refine ⟨?rel, ?measure⟩
          case rel => exact ⟨j + 1, by omega, by go_num, hU⟩
          case measure => simp [intOf]; omega
        · have hj2 : j = 32 := by omega
          subst hj2
          go_wp2
          go_ret
          exact ⟨rfl, hU5.trans hU (fun _ _ f => f)⟩
end Go.Proofs.YtjdjdfllggpckaaGreat
