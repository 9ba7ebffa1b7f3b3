/- ChipSfdp: what a chip is like comes behind eight clocks of nothing, from the address on, over and over: for every two numbers. No condition. -/
import Derived.Test.YtjdjdfllggpckaaGreatCtxC
import Derived.Test.YtjdjdfllggpckaaGreatCtxB
import Derived.Test.YtjdjdfllggpckaaGreatAwake6
import Derived.Test.YtjdjdfllggpckaaGreatPure
import Derived.Test.YtjdjdfllggpckaaGreatNums
import Derived.Test.YtjdjdfllggpckaaGreatRefSfdp
namespace Go.Proofs.YtjdjdfllggpckaaGreat
open Go.RowKit
def sfdpB (k m : Nat) : List Int := (List.range m).map fun (i : Nat) => byteOf sfdpTab (((k : Int) + (i : Int)) % 32).toNat
theorem sfdpB_at (k m i : Nat) (h : i < m) : (ints (sfdpB k m))[i]? = some (.int .i64 (byteOf sfdpTab (((k : Int) + (i : Int)) % 32).toNat)) := by
  unfold sfdpB ints
  rw [List.getElem?_map, List.getElem?_map, List.getElem?_range h]
  rfl
def sfdpX (k m : Nat) : List Int := (wordL [90, 0, (k : Int) / 256, (k : Int) % 256] ++ List.replicate 8 15) ++ List.replicate (8 * m) 15
def sfdpY (k m : Nat) : List Int := List.replicate 40 15 ++ (List.range m).flatMap fun (i : Nat) => tellL (byteOf sfdpTab (((k : Int) + (i : Int)) % 32).toNat)
theorem sfdp_said (s : St) (hg : s.goes = false) (hj : s.job = none) (k m : Nat) (hk : k < 4096) : ∃ t, s.said (sfdpX k m) = (t, sfdpY k m) := ⟨_, Prod.ext rfl (sfdp_law s hg hj k (by omega) m)⟩
theorem sfdp_bytes (k m : Nat) : bytesN (sfdpY k m) 40 m = sfdpB k m :=
  bytesN_tells (List.replicate 40 15) (fun (i : Nat) => byteOf sfdpTab (((k : Int) + (i : Int)) % 32).toNat) m (fun _ _ => byteOf_bd _ _)
theorem sfdpTab_size : sfdpTab.size = 32 := rfl
set_option maxRecDepth 100000 in
set_option maxHeartbeats 4000000 in
theorem lawChipSfdp (w : World) (at' : Int) (_ : (Lit.int .i64 at').wf = true) (many : Int) (_ : (Lit.int .i64 many).wf = true) :
    Calls Tryz.prog 6 #[.int .i64 at', .int .i64 many] w fun e w' => e = .returned (.bool true) ∧ Upd none' w w' := by
  obtain ⟨m, hm1, hm2, hand, hwr⟩ := many_63 many
  obtain ⟨k, hat, hk⟩ := at_4095 at'
  obtain ⟨fa, hfa⟩ : ∃ fa : ByteArray, (⟨(freshL ⟨#[115]⟩).toArray⟩ : ByteArray) = fa := ⟨_, rfl⟩
  have HFA := Lib.hid hfa
  have HWB := Lib.hid (word4_in 90 k (by decide) hk)
  have HXI : Hid (∀ x ∈ sfdpX k m, 0 ≤ x ∧ x ≤ 15) := app_in (app_in (word_in _) (rep_in _)) (rep_in _)
  obtain ⟨t, ht⟩ := sfdp_said (St.new fa) rfl rfl k m hk
  have HSAY := Lib.hid ht
  have HBY := Lib.hid (sfdp_bytes k m)
  have hkand := i64_and255 (k : Int)
  obtain ⟨tab, htab⟩ : ∃ tab, sfdpTab = tab := ⟨_, rfl⟩
  have hts : tab.size = 32 := by rw [← htab]; rfl
  have HREF := Lib.hid (ref_sfdp)
  have HAT := Lib.hid (sfdpB_at k m)
  rw [htab] at HREF HAT
  clear hfa ht htab
  go_enter Tryz.func6, Tryz.ntmps6
  go_upto_region 12 with (first | (go_at_call 11; refine (awake6 _).mono ?_; rintro e w0 ⟨rfl, hU0⟩) | (go_at_call 12; refine (c_fresh hU0 ⟨#[115]⟩ (by decide) fa HFA.out).mono ?_; rintro e w1' ⟨b, rfl, hC0⟩) | (go_at_call 23; refine (HREF.out _).mono ?_; rintro e w1 ⟨rfl, hUp⟩; have hC1 := hC0.frame hUp) | (go_at_call 16; refine (c_wordl hC1 [90, 0, (k : Int) / 256, (k : Int) % 256] 4 32 rfl rfl (by decide) HWB.out).mono ?_; rintro e w2 ⟨a1, c1, rfl, hn1, hC2⟩) | (go_at_call 15; first | (refine (c_quiet hC3 0 _ 40 _ _ rfl hn2 (8 * m) _ (by omega) (40 + 8 * m) rfl (by omega)).mono ?_; rintro e w4 ⟨a3, c3, rfl, hn3, hC4⟩) | (refine (c_quiet hC2 0 _ 32 _ _ rfl hn1 8 _ (by rfl) 40 rfl (by omega)).mono ?_; rintro e w3 ⟨a2, c2, rfl, hn2, hC3⟩)) | (go_at_call 14; refine (c_say hC4 0 _ (40 + 8 * m) _ (sfdpX k m) rfl (by omega) rfl HXI.out t _ HSAY.out).mono ?_; rintro e w5 ⟨a4, c4, rfl, hn4, hC5⟩) | (go_at_call 17; refine (c_bytesOf hC5 0 _ _ _ _ rfl 40 _ rfl m (by omega) (by omega) (by omega) _ HBY.out).mono ?_; rintro e w6 ⟨a5, c5, rfl, hn5, hC6⟩))
  obtain ⟨g, o, rfl, hg, hc⟩ := (hC6.rs 0 rfl).cells (by omega)
  have HC := Lib.hid hc
  have hU6 := hC6.upd
  clear hc hC0 hC1 hC2 hC3 hC4 hC5 hC6 hat hand hwr hkand HFA HWB HXI HSAY HBY HREF hU0 hUp hn1 hn2 hn3 hn4 hn5
  go_wp2_with fail
  go_loopw [11] (fun iv wr => ∃ i : Nat, i ≤ m ∧ iv = .int .i64 i ∧ Upd none' w6 wr) (fun iv _ => m - (intOf iv).toNat)
  case atStart => exact ⟨0, by omega, rfl, Upd.refl _ _⟩
  case round =>
    obtain ⟨i, hi, rfl, hU⟩ := hrel
    by_cases hlt : i < m
    · obtain ⟨q, hq2, hq3, hqt, hwi⟩ := sum_32 k i hk (by omega)
      have hqs : q < tab.size := by omega
      have hcell : wr.cell? ⟨g, o + i, none⟩ = some (.int .i64 ((tab[q]'hqs).toNat : Int)) := by
        rw [hU.cell (p := ⟨g, o + i, none⟩) hg (fun f => f), HC.out i hlt, HAT.out i hlt, hq3, byteOf_get tab q hqs]
      have hgr : g < wr.heap.size := Nat.lt_of_lt_of_le hg hU.size
      have hqi : (q : Int) < 32 := by omega
      clear hq3
      have hw8 := wrap64_byte' (tab[q]'hqs)
      go_upto_region 14 with fail
      go_region
      all_goals
        go_wp2
        refine ⟨?rel, ?measure⟩
        case rel => exact ⟨i + 1, by omega, by go_num, hU.drew⟩
        case measure => simp [intOf]; omega
    · have him : i = m := by omega
      subst him
      clear HC
      go_wp2
      go_ret
      exact ⟨rfl, hU6.trans hU (fun _ _ f => f)⟩
end Go.Proofs.YtjdjdfllggpckaaGreat
