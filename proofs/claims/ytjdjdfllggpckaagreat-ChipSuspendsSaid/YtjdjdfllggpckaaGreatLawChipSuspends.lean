/- ChipSuspends: an erase that is suspended takes no time; resumed it goes on; reads between tell the cells as they were: for every three numbers. No condition. -/
import Derived.Test.YtjdjdfllggpckaaGreatCtxE
import Derived.Test.YtjdjdfllggpckaaGreatCtxB
import Derived.Test.YtjdjdfllggpckaaGreatAwake6
import Derived.Test.YtjdjdfllggpckaaGreatPureS
import Derived.Test.YtjdjdfllggpckaaGreatRefErase
namespace Go.Proofs.YtjdjdfllggpckaaGreat
open Go.RowKit
theorem fresh_one (c : UInt8) : freshL ⟨#[c]⟩ = List.replicate 4096 c := by
  unfold freshL
  rw [if_neg (show ¬ (⟨#[c]⟩ : ByteArray).size = 0 by show ¬ (1 : Nat) = 0; decide)]
  apply List.ext_getElem
  · rw [List.length_map, List.length_range, List.length_replicate]
  · intro i h1 h2
    rw [List.getElem_map, List.getElem_range, List.getElem_replicate]
    unfold freshAt
    rw [show (⟨#[c]⟩ : ByteArray).size = 1 from rfl, Nat.mod_one]
    rfl
theorem fresh_byte (c : UInt8) (x : Int) : byteOf ⟨(freshL ⟨#[c]⟩).toArray⟩ (x % 4096).toNat = (c.toNat : Int) := by
  have key : ∀ l : List UInt8, (⟨l.toArray⟩ : ByteArray).data.toList = l := fun _ => rfl
  unfold byteOf
  rw [key, fresh_one, List.getD_eq_getElem?_getD, List.getElem?_replicate, if_pos (by omega)]
  rfl
theorem sec_8 (x : Int) : ∃ i k : Nat, (IntKind.u64.wrap x).tmod 8 = (i : Int) ∧ i < 8 ∧ k < 4096 ∧ (k : Int) / 512 = (i : Int) ∧ IntKind.i64.wrap ((i : Int) * 512) = (k : Int) ∧ (i : Int) * 512 = (k : Int) := by
  have h : IntKind.u64.wrap x = x % 18446744073709551616 := by first | exact IntKind.wrap_u64 x | rfl
  refine ⟨(x % 18446744073709551616 % 8).toNat, (x % 18446744073709551616 % 8).toNat * 512, ?_, by omega, by omega, by omega, ?_, by omega⟩
  · rw [h, Int.tmod_eq_emod_of_nonneg (by omega)]
    omega
  · rw [IntWalk.i64_in _ (by omega)]
    omega
theorem and_31 (x : Int) : ∃ m : Nat, bits .and .i64 x 31 = (m : Int) ∧ m < 32 := ⟨(x % 32).toNat, by rw [i64_and31]; omega, by omega⟩
theorem and_127 (x : Int) : ∃ m : Nat, bits .and .i64 x 127 = (m : Int) ∧ m < 128 := ⟨(x % 128).toNat, by rw [i64_and127]; omega, by omega⟩
def kkY : List Int := List.replicate 32 15 ++ (tellL 107 ++ tellL 107)
theorem kk_bytes : bytesN kkY 32 2 = [107, 107] := by kernel_rfl
set_option maxRecDepth 100000 in
set_option maxHeartbeats 4000000 in
theorem lawChipSuspends (w : World) (se : Int) (_ : (Lit.int .i64 se).wf = true) (ah : Int) (_ : (Lit.int .i64 ah).wf = true) (be : Int) (_ : (Lit.int .i64 be).wf = true) :
    Calls Tryz.prog 4 #[.int .i64 se, .int .i64 ah, .int .i64 be] w fun e w' => e = .returned (.bool true) ∧ Upd none' w w' := by
  obtain ⟨i, k, hse, hi8, hk, hki, hmu1, hmu2⟩ := sec_8 se
  obtain ⟨m, hah, hm⟩ := and_31 ah
  obtain ⟨n2, hbe, hn2⟩ := and_127 be
  obtain ⟨fa, hfa⟩ : ∃ fa : ByteArray, (⟨(freshL ⟨#[107]⟩).toArray⟩ : ByteArray) = fa := ⟨_, rfl⟩
  have hsz : fa.size = 4096 := by rw [← hfa]; simpa [ByteArray.size] using freshL_len ⟨#[107]⟩
  have hby : ∀ x : Int, byteOf fa (x % 4096).toNat = 107 := fun x => by rw [← hfa]; exact fresh_byte 107 x
  have HBYTE := Lib.hid hby
  have HFA := Lib.hid hfa
  have hkand := i64_and255 (k : Int)
  have HW1 := Lib.hid (word4_in 32 k (by decide) hk)
  have HW2 := Lib.hid (word4_in 3 k (by decide) hk)
  obtain ⟨y1, hy1⟩ := af_said (su0 fa) (wordL [6])
  obtain ⟨y2, hy2⟩ := af_said (su1 fa) (erX k)
  have HY := Lib.hid (And.intro (show (su0 fa).said (wordL [6]) = (su1 fa, y1) from hy1) hy2)
  have HSEL : Hid (True ∧ (su1 fa).sel = false) := ⟨trivial, by obtain ⟨s1, e1, e2, _⟩ := su1_all fa; rw [e1]; exact e2⟩
  have hE0 := su2 fa (k : Int) (by omega)
  rw [hki] at hE0
  have HE0 := Lib.hid hE0
  have hi0 : ¬ ((i : Int) = -1) := by omega
  have HI0 := Lib.hid hi0
  clear hfa hby hy1 hy2 hE0 hi0
  go_enter Tryz.func4, Tryz.ntmps4
  go_upto_region 12 with (first | (go_at_call 11; refine (awake6 _).mono ?_; rintro e w0 ⟨rfl, hU0⟩) | (go_at_call 12; refine (c_fresh hU0 _ (by decide) fa HFA.out).mono ?_; rintro e w1 ⟨b, rfl, hC1⟩) | (go_at_call 13; refine (c_cells hC1 fa rfl).mono ?_; rintro e w2 ⟨rfl, rfl⟩) | (go_at_call 18; refine (c_nextl hC1 [60] 1 rfl (by decide) (by decide) (by decide)).mono ?_; rintro e w2 ⟨rfl, hC2'⟩))
  have hC2 : Ctx (ChipP b (su0 fa) 0) .emp w w2 [] := hC2'
  clear hC2' hC1 hU0
  go_upto_region 13 with (first | (go_at_call 16; refine (c_wordl hC2 [6] 1 8 rfl rfl (by decide) (by decide)).mono ?_; rintro e w3 ⟨a1, c1, rfl, hn1, hC3⟩) | (go_at_call 14; refine (c_say hC3 0 _ 8 _ (wordL [6]) rfl (by omega) rfl (word_in _) (su1 fa) _ HY.out.1).mono ?_; rintro e w4 ⟨a2, c2, rfl, hn2', hC4'⟩))
  have hC4 := hC4'.drop
  clear hC2 hC3 hC4' hn1 hn2'
  go_upto_region 14 with (first | (go_at_call 16; refine (c_wordl hC4 [32, 0, (k : Int) / 256, (k : Int) % 256] 4 32 rfl rfl (by decide) HW1.out).mono ?_; rintro e w5 ⟨a3, c3, rfl, hn3, hC5⟩) | (go_at_call 14; refine (c_say hC5 0 _ 32 _ (erX k) rfl (by omega) HSEL.out.2 (word_in _) ((su1 fa).af (erX k)) _ HY.out.2).mono ?_; rintro e w6 ⟨a4, c4, rfl, hn4, hC6'⟩))
  obtain ⟨t0, ht0⟩ : ∃ t0, (su1 fa).af (erX k) = t0 := ⟨_, rfl⟩
  have hC6 := hC6'.drop
  rw [ht0] at hC6 HE0
  clear hC4 hC5 hC6' hn3 hn4 ht0 HY HSEL HW1 HFA
  go_wp2_with fail
  go_loopw [12] (fun iv wr => ∃ (j : Nat) (t : St), j ≤ m ∧ iv = .int .i64 j ∧ Er fa i (60 - (j : Int)) false t ∧ Ctx (ChipP b t (100 + (j : Int))) .emp w wr []) (fun iv _ => m - (intOf iv).toNat)
  case atStart => exact ⟨0, t0, by omega, rfl, HE0.out, hC6.up (by omega)⟩
  case round =>
    clear hC6 HE0
    obtain ⟨j, t, hj, rfl, hE, hC⟩ := hrel
    have HE := Lib.hid hE
    clear hE
    by_cases hlt : j < m
    · obtain ⟨u, hu1, hu2⟩ := er_wait HE.out (by omega) 15
      have HU := Lib.hid (And.intro hu1 hu2)
      clear hu1 hu2
      go_wp2_with (go_at_call 19; refine (c_clock hC 15 (by decide) (by omega) _ _ HU.out.1).mono ?_; rintro e wv ⟨rfl, hC2⟩)
      refine ⟨?rel, ?measure⟩
      case rel => exact ⟨j + 1, u, by omega, by go_num, by have := HU.out.2; rw [show (60 : Int) - ((j + 1 : Nat) : Int) = 60 - (j : Int) - 1 by omega]; exact this, hC2.up (by omega)⟩
      case measure => simp [intOf]; omega
    · obtain rfl : j = m := by omega
      obtain ⟨y3, hy3⟩ := af_said t (wordL [117])
      have hE2 := er_susp HE.out HI0.out (by omega)
      have HY3 := Lib.hid hy3
      have HSEL : Hid (True ∧ t.sel = false) := ⟨trivial, HE.out.sel⟩
      obtain ⟨t2, ht2⟩ : ∃ t2, t.af (wordL [117]) = t2 := ⟨_, rfl⟩
      rw [ht2] at HY3 hE2
      have HE2 := Lib.hid hE2
      have HST2 : Hid (True ∧ t2.first = 2 ∧ t2.second = 128) := ⟨trivial, er_stat1 hE2⟩
      clear hy3 hE2 ht2
      go_upto_region 20 with (first | (go_at_call 16; refine (c_wordl hC [117] 1 8 rfl rfl (by decide) (by decide)).mono ?_; rintro e w7 ⟨a5, c5, rfl, hn5, hC7⟩) | (go_at_call 14; refine (c_say hC7 0 _ 8 _ (wordL [117]) rfl (by omega) HSEL.out.2 (word_in _) t2 _ HY3.out).mono ?_; rintro e w8 ⟨a6, c6, rfl, hn6, hC8'⟩))
      have hC8 := hC8'.drop
      clear hC hC7 hC8' hn5 hn6 HE HY3 HSEL
      go_wp2_with (go_at_call 20; refine (c_status hC8 2 128 HST2.out.2.1 HST2.out.2.2).mono ?_; rintro e w9 ⟨rfl, hC9⟩)
      go_loopw [15] (fun iv wr => ∃ l : Nat, l ≤ n2 ∧ iv = .int .i64 l ∧ Ctx (ChipP b t2 (200 + (l : Int))) .emp w wr []) (fun iv _ => n2 - (intOf iv).toNat)
      case atStart => exact ⟨0, by omega, rfl, hC9.up (by omega)⟩
      case round =>
        clear hC8 hC9 HST2
        rename World => wA
        obtain ⟨l, hl, rfl, hC⟩ := hrel
        by_cases hlt : l < n2
        · go_wp2_with (go_at_call 19; refine (c_clock hC 15 (by decide) (by omega) _ _ (er_idle HE2.out 15)).mono ?_; rintro e wv ⟨rfl, hC2⟩)
          refine ⟨?rel, ?measure⟩
          case rel => exact ⟨l + 1, by omega, by go_num, hC2.up (by omega)⟩
          case measure => simp [intOf]; omega
        · obtain rfl : l = n2 := by omega
          obtain ⟨t3, hr1, hr2⟩ := er_read HE2.out k (by omega)
          rw [HBYTE.out, HBYTE.out] at hr1
          obtain ⟨y4, hy4⟩ := af_said t3 (wordL [122])
          have hg4 := er_go hr2
          obtain ⟨t4, ht4⟩ : ∃ t4, t3.af (wordL [122]) = t4 := ⟨_, rfl⟩
          rw [ht4] at hy4 hg4
          have HR1 : Hid (t2.said (wordL [3, 0, (k : Int) / 256, (k : Int) % 256] ++ List.replicate 16 15) = (t3, kkY)) := hr1
          have HY4 := Lib.hid hy4
          have HE4 := Lib.hid hg4
          have HSEL2 : Hid (True ∧ t2.sel = false) := ⟨trivial, HE2.out.sel⟩
          have HSEL3 : Hid (True ∧ t3.sel = false) := ⟨trivial, hr2.sel⟩
          have HST4 : Hid (True ∧ t4.first = 3 ∧ t4.second = 0) := ⟨trivial, er_stat0 hg4⟩
          clear hr1 hr2 hy4 hg4 ht4 HE2
          go_upto_region 26 with (first | (go_at_call 16; refine (c_wordl hC [3, 0, (k : Int) / 256, (k : Int) % 256] 4 32 rfl rfl (by decide) HW2.out).mono ?_; rintro e wB ⟨a7, c7, rfl, hn7, hCB⟩) | (go_at_call 15; refine (c_quiet hCB 0 _ 32 _ _ rfl hn7 16 _ rfl 48 rfl (by omega)).mono ?_; rintro e wC ⟨a8, c8, rfl, hn8, hCC⟩) | (go_at_call 14; refine (c_say hCC 0 _ 48 _ _ rfl (by omega) HSEL2.out.2 (app_in (word_in _) (rep_in _)) t3 _ HR1.out).mono ?_; rintro e wD ⟨a9, c9, rfl, hn9, hCD'⟩))
          have hCD := hCD'.sub (rows' := [(.slice a9 48 c9, ints kkY)]) (fun r hr => by rw [List.mem_singleton.1 hr]; exact List.mem_cons.2 (.inl rfl))
          clear hC hCB hCC hCD' hn7 hn8
          go_upto_region 27 with (first | (go_at_call 16; refine (c_wordl hCD [122] 1 8 rfl rfl (by decide) (by decide)).mono ?_; rintro e wE ⟨aA, cA, rfl, hnA, hCE⟩) | (go_at_call 14; refine (c_say hCE 0 _ 8 _ (wordL [122]) rfl (by omega) HSEL3.out.2 (word_in _) t4 _ HY4.out).mono ?_; rintro e wF ⟨aB, cB, rfl, hnB, hCF'⟩))
          have hCF := hCF'.tl.tl
          clear hCD hCE hCF' hnA hnB HY4 HR1 HSEL2 HSEL3
          go_wp2_with (go_at_call 20; refine (c_status hCF 3 0 HST4.out.2.1 HST4.out.2.2).mono ?_; rintro e wG ⟨rfl, hCG⟩)
          go_loopw [19] (fun iv wr => ∃ (q : Nat) (t : St), q + j + 1 ≤ 52 ∧ iv = .int .i64 q ∧ Er fa i (52 - (j : Int) - (q : Int)) false t ∧ Ctx (ChipP b t (600 + (q : Int))) .emp w wr [(.slice a9 48 c9, ints kkY)]) (fun iv _ => 60 - (intOf iv).toNat)
          case atStart => exact ⟨0, t4, by omega, rfl, by have := HE4.out; rw [show (52 : Int) - (j : Int) - ((0 : Nat) : Int) = 60 - (j : Int) - 8 by omega]; exact this, hCG.up (by omega)⟩
          case round =>
            clear hCF hCG HST4 HE4
            rename World => wH
            obtain ⟨q, t, hq, rfl, hE, hC⟩ := hrel
            have HE := Lib.hid hE
            clear hE
            by_cases hlt : q + j + 1 < 52
            · have hlt2 : (q : Int) < 52 - (j : Int) - 1 := by omega
              obtain ⟨u, hu1, hu2⟩ := er_wait HE.out (by omega) 15
              have HU := Lib.hid (And.intro hu1 hu2)
              clear hu1 hu2
              go_wp2_with (go_at_call 19; refine (c_clock hC 15 (by decide) (by omega) _ _ HU.out.1).mono ?_; rintro e wv ⟨rfl, hC2⟩)
              refine ⟨?rel, ?measure⟩
              case rel => exact ⟨q + 1, u, by omega, by go_num, by have := HU.out.2; rw [show (52 : Int) - (j : Int) - ((q + 1 : Nat) : Int) = 52 - (j : Int) - (q : Int) - 1 by omega]; exact this, hC2.up (by omega)⟩
              case measure => simp [intOf]; omega
            · have hlt2 : ¬ (q : Int) < 52 - (j : Int) - 1 := by omega
              have hE1 : Er fa i 1 false t := by have := HE.out; rw [show (52 : Int) - (j : Int) - (q : Int) = 1 by omega] at this; exact this
              obtain ⟨u, hu1, hu2⟩ := er_last hE1 HI0.out 15
              rw [Int.toNat_natCast] at hu2
              have HU := Lib.hid (And.intro hu1 hu2)
              have HA : Hid (True ∧ t.a = fa) := ⟨trivial, hE1.a⟩
              have HREF := Lib.hid (fun W => ref_erase fa i W hsz hi8)
              have HKK := Lib.hid kk_bytes
              have HSAME : Hid (True ∧ sameB ([107, 107] : List Int) [107, 107] = true) := ⟨trivial, by decide⟩
              clear hu1 hu2 hE1 HE
              generalize eraseCut fa i all255 = fin at *
              go_upto_region 36 with (first | (go_at_call 13; first | (refine (c_cells hC2 fin HU.out.2).mono ?_; rintro e wx ⟨rfl, rfl⟩) | (refine (c_cells hC fa HA.out.2).mono ?_; rintro e wx ⟨rfl, rfl⟩)) | (go_at_call 19; refine (c_clock hC 15 (by decide) (by omega) _ _ HU.out.1).mono ?_; rintro e wI ⟨rfl, hC2⟩) | (go_at_call 21; refine (HREF.out _).mono ?_; rintro e wJ ⟨rfl, hUJ⟩; have hC3 := hC2.frame hUJ))
              go_wp2_with (first | (go_at_call 17; refine (c_bytesOf hC3 0 _ _ _ _ rfl 32 _ rfl 2 (by decide) (by decide) (by decide) _ HKK.out).mono ?_; rintro e wK ⟨aK, cK, rfl, hnK, hCK⟩; have hCL := hCK.lit (ints [107, 107]) 3 2 rfl (by decide)) | (go_at_call 22; refine (c_same hCL 1 0 _ _ _ _ rfl rfl true HSAME.out.2).mono ?_; rintro e wL ⟨rfl, hCM⟩))
              go_ret
              exact ⟨rfl, hCM.upd⟩
end Go.Proofs.YtjdjdfllggpckaaGreat
