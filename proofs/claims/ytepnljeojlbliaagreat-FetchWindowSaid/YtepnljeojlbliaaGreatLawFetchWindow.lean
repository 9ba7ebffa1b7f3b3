/- lichenlaw16.FetchWindow. -/
import Derived.Test.YtepnljeojlbliaaGreatAwake16
import Derived.Test.YtepnljeojlbliaaGreatNums
import Derived.Test.YtepnljeojlbliaaGreatRkA
import Derived.Test.YtepnljeojlbliaaGreatTwo
import Derived.Test.YtepnljeojlbliaaGreatReads
import Derived.Test.YtepnljeojlbliaaGreatChipWp
namespace Go.Proofs.YtepnljeojlbliaaGreat
open Go.RowKit
theorem c_twinsR16 {w0 w : World} (h : Upd none' w0 w) (s : ByteArray) (hs : s.size ≤ 9223372036854775807) (fa : ByteArray) (hfa : (⟨(freshL s).toArray⟩ : ByteArray) = fa) :
    Calls Tryz.prog 48 #[.string s] w fun e w' => ∃ b r, e = .returned (.tuple #[.pointer (some ⟨b, 0, none⟩), .pointer (some ⟨r, 0, none⟩)]) ∧ Ctx (ChipP b (St.new fa) 0) (RefP r (St.new fa) 0) w0 w' [] := by
  refine (twins16 s w hs).mono ?_
  rintro e w' ⟨b, S, r, v, rfl, hA, hS, hR, hr, hv, hU⟩
  rw [hfa] at hA hR
  have hsz : fa.size = 4096 := by rw [← hfa]; simpa [ByteArray.size] using freshL_len s
  exact ⟨b, r, rfl, pair_ctx h hU hsz hA hS hR hr hv⟩
set_option maxRecDepth 100000 in
set_option maxHeartbeats 8000000 in
theorem lawFetchWindow (w : World) (s : ByteArray) (hs : s.size ≤ 9223372036854775807) (at_ : Int) (_ : (Lit.int .i64 at_).wf = true) (many : Int) (_ : (Lit.int .i64 many).wf = true) :
    Calls Tryz.prog 6 #[.string s, .int .i64 at_, .int .i64 many] w fun e w' => e = .returned (.bool true) ∧ Upd none' w w' := by
  obtain ⟨k, hkat, hk⟩ := uN at_ 4032 (by decide) (by decide)
  have hkat : (IntKind.u64.wrap at_).tmod 4032 = (k : Int) := hkat
  have hmat := i64_and63 many
  obtain ⟨m, hm⟩ : ∃ m : Nat, many % 64 = (m : Int) := ⟨(many % 64).toNat, by omega⟩
  have hm2 : m < 64 := by omega
  rw [hm] at hmat
  obtain ⟨fa, hfa⟩ : ∃ fa : ByteArray, (⟨(freshL s).toArray⟩ : ByteArray) = fa := ⟨_, rfl⟩
  have hsz : fa.size = 4096 := by rw [← hfa]; simpa [ByteArray.size] using freshL_len s
  have HFA := Lib.hid hfa
  clear hfa hm
  go_enter Tryz.func6, Tryz.ntmps6
  go_upto_region 4 with (first | (go_at_call 47; refine (awake16 _).mono ?_; rintro e w0 ⟨rfl, hU1⟩) | (go_at_call 48; refine (c_twinsR16 hU1 _ hs fa HFA.out).mono ?_; rintro e w1 ⟨b, r, rfl, hC1⟩))
  have HN := Lib.hid (rdy_new (refP_ok _ _ _) (at_new fa) hC1 (Int.le_refl 0) (by decide))
  clear hC1
  go_upto_region 7 with (first | (go_at_call 49; refine HN.out.mono ?_; rintro e w2 ⟨kk, fo, fi, rfl, hR2⟩) | (go_at_call 16; refine (num_any _ _).mono ?_; rintro e w' ⟨rfl, rfl⟩))
  have HE := Lib.hid (rdy_en hR2 rfl rfl (by decide))
  clear hR2
  go_upto_region 8 with (go_at_call 50; refine HE.out.mono ?_; rintro e w3 ⟨oa3, oc3, rfl, hR3⟩)
  have HP := Lib.hid (rdy_put hR3 rfl rfl rfl (by decide))
  clear hR3
  go_upto_region 11 with (go_at_call 50; refine HP.out.mono ?_; rintro e w4 ⟨oa4, oc4, rfl, hR4⟩)
  have HF := Lib.hid (rdy_fetch hR4 rfl rfl rfl fa rfl (k : Int) m (by omega) (by omega) (by omega) (by omega))
  clear hR4 HE HP HN
  go_upto_region 12 with (go_at_call 51; refine HF.out.mono ?_; rintro e w5 ⟨rfl, hR5⟩)
  obtain ⟨l, hl⟩ : ∃ l, (List.range m).map (fun (i : Nat) => byteOf fa (((k : Int) + (i : Int)) % 4096).toNat) = l := ⟨_, rfl⟩
  have hll : l.length = m := by rw [← hl, List.length_map, List.length_range]
  have HR := Lib.hid (rdy_run hR5.nil 3 (by decide) (by decide) (k : Int) none 0 [] List.mem_cons_self (m : Int) (rd3_may _ (by omega) m (by omega)) _ l (32 + 8 * (m : Int)) (rd3_many _ m) (by omega) (fun t ht => by rw [← hl]; exact rd3_all ht rfl rfl (k : Int) (by omega) m))
  clear hR5 HF
  go_upto_region 13 with (go_at_call 50; refine HR.out.mono ?_; rintro e w6 ⟨oa6, oc6, rfl, hR6⟩)
  have hU6 := hR6.up
  obtain ⟨QR, hQR, hC6⟩ : ∃ QR : Own, QR.Ok ∧ Ctx (RefP r (St.new fa) 0) QR w w6 [(.slice oa6 l.length oc6, ints l), (.slice none 0 0, ints [])] := ⟨_, rdyP_ok _ _ _ _ _ _ _, hR6.asP.commQ⟩
  rw [hll] at hC6
  have HK := Lib.hid (rk_new (b := r) hC6)
  obtain ⟨d, e1, e2, e3, -⟩ := rd3_all (at_new fa) rfl rfl (k : Int) (by omega) m
  have e3 : d.out = l := e3.trans hl
  have HRUN : Hid (∀ (k2 : Nat) (w7 : World), Ctx (RefP r (St.new fa) 0) ((RKC k2 r (.slice none 0 0) (.slice none 0 0) KS.new).star QR) w w7 [(.slice oa6 m oc6, ints l), (.slice none 0 0, ints [])] → Calls Tryz.prog 53 #[.pointer (some ⟨k2, 0, none⟩), .int .i64 3, .int .i64 (k : Int), .slice none 0 0, .int .i64 (m : Int)] w7 fun e w' => ∃ oa oc, e = .returned (.tuple #[.slice oa m oc, .int .i64 0]) ∧ Upd none' w w' ∧ RS w' (.slice oa m oc) (ints l) ∧ RS w' (.slice oa6 m oc6) (ints l)) := Lib.hid (fun k2 w7 h => by
    refine (rk_run hQR h (Int.le_refl 0) rfl (by decide) (by decide) rfl rfl 3 (by decide) (by decide) (k : Int) none 0 [] (by simp) (m : Int) (rd3_may _ (by omega) m (by omega)) (by rw [rd3_many]; omega) d e1).mono ?_
    rintro e w' ⟨oa, oc, rfl, hC⟩
    rw [e3, hll] at hC
    rw [e3, hll]
    exact ⟨oa, oc, rfl, hC.upd, hC.rs 0 rfl, hC.rs 1 rfl⟩)
  have HL := Lib.hid (And.intro hl hll)
  clear hR6 HR hC6 e1 e2 e3 hU6 hl hll
  go_upto_region 14 with (first | (go_at_call 52; refine HK.out.mono ?_; rintro e w7 ⟨k2, rfl, -, hC7⟩; have HC7 := Lib.hid hC7; clear hC7) | (go_at_call 53; refine (HRUN.out _ _ HC7.out).mono ?_; rintro e w8 ⟨oa8, oc8, rfl, hU8, hr8, hr6⟩))
  have hs := same_ints w8 (.slice oa6 m oc6) (.slice oa8 m oc8) l l hr6 hr8
  rw [show sameB l l = true from decide_eq_true rfl] at hs
  have HS := Lib.hid hs
  have HU8 := Lib.hid hU8
  have HR6 := Lib.hid hr6
  obtain ⟨T, hT⟩ : ∃ T : ByteArray, (⟨(fetched fa (k : Int) m).toArray⟩ : ByteArray) = T := ⟨_, rfl⟩
  have hTs : T.size = m := by rw [← hT]; simpa [ByteArray.size] using fetched_len fa (k : Int) m
  have HT : Hid (∀ j (h : j < T.size), ((T[j]).toNat : Int) = l.getD j 0) := Lib.hid (fun j h => by
    have e1 : l = intsOf (fetched fa (k : Int) m) := by rw [ints_fetched]; exact HL.out.1.symm
    have e2 : T[j] = (fetched fa (k : Int) m).getD j 0 := by
      subst hT
      rw [List.getD_eq_getElem?_getD, List.getElem?_eq_getElem (by rw [fetched_len]; rw [hTs] at h; exact h)]
      rfl
    rw [e1, e2]
    unfold intsOf
    rw [List.getD_eq_getElem?_getD, List.getD_eq_getElem?_getD, List.getElem?_map]
    cases (fetched fa (k : Int) m)[j]? <;> rfl)
  rw [hT]
  have hHL := HL.out.2
  have HLL := Lib.hid hHL
  clear hT hs hU8 hr8 hr6 HK HRUN HC7 HFA HL hHL hkat hmat
  go_wp2_with (first | (go_at_call 33; refine HS.out.mono ?_; rintro e w9 ⟨rfl, hU9⟩) | (go_at_call 16; refine (num_any _ _).mono ?_; rintro e w' ⟨rfl, rfl⟩))
  have HU9 := Lib.hid (HU8.out.trans hU9 (fun _ _ f => f))
  have HR9 := Lib.hid (HR6.out.upd hU9 (fun _ _ _ f => f))
  clear hU9 HR6 HU8 HS
  go_loopw [19] (fun iv wr => ∃ j : Nat, j ≤ m ∧ iv = .int .i64 (j : Int) ∧ Upd none' w9 wr) (fun iv _ => m - (intOf iv).toNat)
  case atStart => exact ⟨0, Nat.zero_le _, rfl, Upd.refl none' _⟩
  case round =>
    rename World => W2
    obtain ⟨j, hj, rfl, hU⟩ := hrel
    by_cases hlt : j < m
    · obtain ⟨gg, oo, rfl, -, hcc⟩ := (HR9.out.upd hU (fun _ _ _ f => f)).cells (by omega)
      have hce := hcc j hlt
      have hjT : j < T.size := by omega
      rw [ints_at _ _ (by rw [HLL.out]; exact hlt), ← HT.out j hjT] at hce
      have HU2 := Lib.hid (hU.trans (Upd.refl none' _).drew (fun _ _ f => f))
      have htb := (T[j]).toNat_lt
      have hw : IntKind.i64.wrap ((T[j].toNat : Nat) : Int) = ((T[j].toNat : Nat) : Int) := IntWalk.i64_in _ (by omega)
      clear hcc hU
      go_upto_region 19 with fail
      go_region
      all_goals
        go_wp2
        refine ⟨?rel, ?measure⟩
        case rel => exact ⟨j + 1, by omega, by go_num, HU2.out⟩
        case measure => simp [intOf]; omega
    · obtain rfl : m = j := by omega
      have HU2 := Lib.hid (HU9.out.trans hU (fun _ _ f => f))
      clear hU
      go_wp2
      go_ret
      exact ⟨rfl, HU2.out⟩
end Go.Proofs.YtepnljeojlbliaaGreat
