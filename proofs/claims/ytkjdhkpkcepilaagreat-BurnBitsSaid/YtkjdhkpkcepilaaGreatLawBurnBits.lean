/- lichenlaw17.BurnBits. -/
import Derived.Test.YtkjdhkpkcepilaaGreatAwake17
import Derived.Test.YtkjdhkpkcepilaaGreatNums
namespace Go.Proofs.YtkjdhkpkcepilaaGreat
open Go.RowKit
theorem getD_get (a : ByteArray) (j : Nat) (h : j < a.size) : a[j]'h = a.data.toList.getD j 0 := by
  rw [List.getD_eq_getElem?_getD, List.getElem?_eq_getElem (show j < a.data.toList.length from h)]
  rfl
theorem u8_and2 (x y : UInt8) : bits .and .u8 ((x.toNat : Nat) : Int) ((y.toNat : Nat) : Int) = ((x &&& y).toNat : Int) := by
  have h1 : ∀ y : UInt8, (BitVec.ofInt 8 ((y.toNat : Nat) : Int)).toNat = y.toNat := fun y => by rw [BitVec.toNat_ofInt]; have := y.toNat_lt; omega
  show IntKind.u8.wrap ((BitVec.ofInt 8 ((x.toNat : Nat) : Int) &&& BitVec.ofInt 8 ((y.toNat : Nat) : Int)).toNat : Nat) = _
  rw [BitVec.toNat_and, h1, h1, UInt8.toNat_and, IntKind.wrap_u8]
  have : x.toNat &&& y.toNat < 256 := Nat.lt_of_le_of_lt Nat.and_le_left x.toNat_lt
  omega
set_option maxRecDepth 100000 in
set_option maxHeartbeats 8000000 in
theorem lawBurnBits (w : World) (s : ByteArray) (hs : s.size ≤ 9223372036854775807) (at_ : Int) (_ : (Lit.int .i64 at_).wf = true) (t : ByteArray) (ht : t.size ≤ 9223372036854775807) :
    Calls Tryz.prog 4 #[.string s, .int .i64 at_, .string t] w fun e w' => e = .returned (.bool true) ∧ Upd none' w w' := by
  obtain ⟨j, hjmod, hj⟩ := uN at_ 1748 (by decide) (by decide)
  rw [show ((1748 : Nat) : Int) = 1748 from rfl] at hjmod
  obtain ⟨a, ha⟩ : ∃ a : Nat, 2048 + j = a := ⟨_, rfl⟩
  have hw1 : IntKind.i64.wrap (2048 + (j : Int)) = (a : Int) := by rw [IntWalk.i64_in _ (by omega)]; omega
  obtain ⟨fa, hfa⟩ : ∃ fa : ByteArray, (⟨(freshL s).toArray⟩ : ByteArray) = fa := ⟨_, rfl⟩
  have hsz : fa.size = 4096 := by rw [← hfa]; simpa [ByteArray.size] using freshL_len s
  have HFA := Lib.hid hfa
  have HT := Lib.hid ht
  clear hfa
  go_enter Tryz.func4, Tryz.ntmps4
  go_upto_region 4 with (first | (go_at_call 26; refine (awake17 _).mono ?_; rintro e w0 ⟨rfl, hU1⟩) | (go_at_call 27; refine (c_twins17 hU1 _ hs fa HFA.out).mono ?_; rintro e w1 ⟨b, r, rfl, hC1⟩))
  have HN := Lib.hid (rdy_new Own.emp_ok (at_new fa) hC1 (Int.le_refl 0) (by decide))
  clear hC1
  go_upto_region 7 with (first | (go_at_call 28; refine HN.out.mono ?_; rintro e w2 ⟨k, fo, fi, rfl, hR2⟩) | (go_at_call 25; refine (num_any _ _).mono ?_; rintro e w' ⟨rfl, rfl⟩))
  have HR2 := Lib.hid hR2
  clear hR2 HN
  by_cases hl : t.size ≤ 300
  · have HC := Lib.hid (rdy_cells HR2.out fa rfl)
    have HB : Hid (Calls Tryz.prog 29 #[.pointer (some ⟨k, 0, none⟩), .int .i64 (a : Int), .string t] w2 fun e w' => e = .returned (.int .i64 0) ∧ ∃ c' q', c'.a = burnA fa a t.data.toList ∧ Rdy .emp c' b k fo fi 14400 q' w w' []) := by
      refine Lib.hid ?_
      refine (rdy_burns HR2.out (rest_new fa) fa rfl hsz a t (by omega) (by omega) (by omega) (by decide) (by decide)).mono ?_
      rintro e w' ⟨rfl, c', q', -, h2, -, -, h3⟩
      exact ⟨rfl, c', q', h2, h3⟩
    go_upto_region 13 with (go_at_call 24; refine HC.out.mono ?_; rintro e w3 ⟨rfl, rfl⟩)
    clear hjmod hw1
    go_upto_region 14 with (go_at_call 29; refine HB.out.mono ?_; rintro e w4 ⟨rfl, c', q', hca, hR4⟩)
    have hbs : (burnA fa a t.data.toList).size = 4096 := by rw [burnA_size]; exact hsz
    have hbl : ∀ i, i < 4096 → (burnA fa a t.data.toList).data.toList.getD i 0 = if a ≤ i ∧ i < a + t.size then fa.data.toList.getD i 0 &&& t.data.toList.getD (i - a) 0 else fa.data.toList.getD i 0 := fun i hi => burnB_at _ _ _ _ (by rw [show fa.data.toList.length = 4096 from hsz]; exact hi)
    have hc := rdy_cells hR4 _ hca
    obtain ⟨fb, hfb⟩ : ∃ fb, burnA fa a t.data.toList = fb := ⟨_, rfl⟩
    rw [hfb] at hc hbs hbl
    have HC2 := Lib.hid hc
    have HBL := Lib.hid hbl
    have HU := Lib.hid hR4.up
    clear hc hbl hfb hca hR4 HB HC HR2
    go_upto_region 18 with (first | (go_at_call 24; refine HC2.out.mono ?_; rintro e w5 ⟨rfl, rfl⟩) | (go_at_call 25; refine (num_any _ _).mono ?_; rintro e w' ⟨rfl, rfl⟩))
    go_loopw [15] (fun iv wr => ∃ i : Nat, i ≤ 4096 ∧ iv = .int .i64 (i : Int) ∧ Hid (w4 = wr)) (fun iv _ => 4096 - (intOf iv).toNat)
    case atStart => exact ⟨0, by omega, rfl, Lib.hid rfl⟩
    case round =>
      obtain ⟨i, hi, rfl, hw⟩ := hrel
      have hww := hw.out
      subst hww
      clear hw
      by_cases hlt : i < 4096
      · have ga := getD_get fa i (by omega)
        have gb := getD_get fb i (by omega)
        rw [HBL.out i hlt] at gb
        by_cases hin : a ≤ i ∧ i < a + t.size
        · rw [if_pos hin] at gb
          have gt := getD_get t (i - a) (by omega)
          obtain ⟨y, hy⟩ : ∃ y, fa.data.toList.getD i 0 = y := ⟨_, rfl⟩
          obtain ⟨z, hz⟩ : ∃ z, t.data.toList.getD (i - a) 0 = z := ⟨_, rfl⟩
          rw [hy] at ga gb
          rw [hz] at gt gb
          have hand := u8_and2 y z
          obtain ⟨r, hr⟩ : ∃ r : Nat, r = i - a := ⟨_, rfl⟩
          have hwi : IntKind.i64.wrap ((i : Int) - (a : Int)) = (r : Int) := by rw [IntWalk.i64_in _ (by omega)]; omega
          have hrt : r < t.size := by omega
          have gt2 : t[r]'hrt = z := by subst hr; exact gt
          have h1 : (a : Int) ≤ (i : Int) := by omega
          have h2 : (i : Int) < (a : Int) + (t.size : Int) := by omega
          clear hy hz gt hr hin
          go_wp2
          refine ⟨?rel, ?measure⟩
          case rel => exact ⟨i + 1, by omega, by go_num, Lib.hid (by first | rfl | trivial)⟩
          case measure => simp [intOf]; omega
        · rw [if_neg hin] at gb
          have hor : (i : Int) < (a : Int) ∨ (a : Int) ≤ (i : Int) ∧ (a : Int) + (t.size : Int) ≤ (i : Int) := by omega
          clear hin
          rcases hor with h1 | ⟨h1, h2⟩
          all_goals
            go_wp2
            refine ⟨?rel, ?measure⟩
            case rel => exact ⟨i + 1, by omega, by go_num, Lib.hid (by first | rfl | trivial)⟩
            case measure => simp [intOf]; omega
      · obtain rfl : i = 4096 := by omega
        go_wp2
        go_ret
        exact ⟨rfl, HU.out⟩
  · have HU := Lib.hid HR2.out.up
    clear hjmod hw1
    go_wp2
    go_ret
    exact ⟨rfl, HU.out⟩
end Go.Proofs.YtkjdhkpkcepilaaGreat
