/- lichenlaw17.BurnTwice. -/
import Derived.Test.YtkjdhkpkcepilaaGreatAwake17
import Derived.Test.YtkjdhkpkcepilaaGreatNums
namespace Go.Proofs.YtkjdhkpkcepilaaGreat
open Go.RowKit
/-- Another pair of chips, beside all else. -/
theorem c_twins17b {P Q : Own} {w0 w : World} {rows : List (Value × List Value)} (hC : Ctx P Q w0 w rows) (s : ByteArray) (hs : s.size ≤ 9223372036854775807) (fa : ByteArray) (hfa : (⟨(freshL s).toArray⟩ : ByteArray) = fa) :
    Calls Tryz.prog 27 #[.string s] w fun e w' => ∃ b r, e = .returned (.tuple #[.pointer (some ⟨b, 0, none⟩), .pointer (some ⟨r, 0, none⟩)]) ∧ Ctx (ChipP b (St.new fa) 0) (P.star Q) w0 w' rows := by
  refine (twins17 s w hs).mono ?_
  rintro e w' ⟨b, S, r, v, rfl, hA, hS, -, -, -, hU⟩
  rw [hfa] at hA
  have hsz : fa.size = 4096 := by rw [← hfa]; simpa [ByteArray.size] using freshL_len s
  exact ⟨b, r, rfl, hC.beside (chipP_ok _ _ _) hU ⟨hA, new_inv fa hsz⟩ hS⟩
theorem take_extract (t : ByteArray) (i : Nat) (hi : i ≤ t.size) : (t.extract 0 i).data.toList = t.data.toList.take i ∧ (t.extract 0 i).size = i := by
  refine ⟨?_, by rw [ByteArray.size_extract]; omega⟩
  rw [ByteArray.data_extract, Array.toList_extract, List.extract_eq_take_drop, Nat.sub_zero, List.drop_zero]
theorem drop_extract (t : ByteArray) (i : Nat) (hi : i ≤ t.size) : (t.extract i t.size).data.toList = t.data.toList.drop i ∧ (t.extract i t.size).size = t.size - i := by
  refine ⟨?_, by rw [ByteArray.size_extract]; omega⟩
  rw [ByteArray.data_extract, Array.toList_extract, List.extract_eq_take_drop]
  exact List.take_of_length_le (by rw [List.length_drop]; exact Nat.le_refl _)
theorem burnA_twice (a : ByteArray) (k : Nat) (bs : List UInt8) : burnA (burnA a k bs) k bs = burnA a k bs := by
  unfold burnA
  rw [show (⟨(burnB a.data.toList k bs).toArray⟩ : ByteArray).data.toList = burnB a.data.toList k bs from rfl, burnB_twice]
set_option maxRecDepth 100000 in
set_option maxHeartbeats 8000000 in
theorem lawBurnTwice (w : World) (s : ByteArray) (hs : s.size ≤ 9223372036854775807) (at_ : Int) (_ : (Lit.int .i64 at_).wf = true) (t : ByteArray) (ht : t.size ≤ 9223372036854775807) (cut : Int) (_ : (Lit.int .i64 cut).wf = true) :
    Calls Tryz.prog 6 #[.string s, .int .i64 at_, .string t, .int .i64 cut] w fun e w' => e = .returned (.bool true) ∧ Upd none' w w' := by
  obtain ⟨j, hjmod, hj⟩ := uN at_ 1900 (by decide) (by decide)
  rw [show ((1900 : Nat) : Int) = 1900 from rfl] at hjmod
  obtain ⟨a, ha⟩ : ∃ a : Nat, 2048 + j = a := ⟨_, rfl⟩
  have hw1 : IntKind.i64.wrap (2048 + (j : Int)) = (a : Int) := by rw [IntWalk.i64_in _ (by omega)]; omega
  obtain ⟨fa, hfa⟩ : ∃ fa : ByteArray, (⟨(freshL s).toArray⟩ : ByteArray) = fa := ⟨_, rfl⟩
  have hsz : fa.size = 4096 := by rw [← hfa]; simpa [ByteArray.size] using freshL_len s
  have HFA := Lib.hid hfa
  clear hfa
  have HT := Lib.hid ht
  go_enter Tryz.func6, Tryz.ntmps6
  go_upto_region 3 with (go_at_call 26; refine (awake17 _).mono ?_; rintro e w0 ⟨rfl, hU1⟩)
  by_cases hl : t.size ≤ 100
  · obtain ⟨i, himod, hi⟩ := uN cut (t.size + 1) (by omega) (by omega)
    rw [show ((t.size + 1 : Nat) : Int) = (t.size : Int) + 1 by omega] at himod
    have hw3 : IntKind.i64.wrap ((t.size : Int) + 1) = (t.size : Int) + 1 := IntWalk.i64_in _ (by omega)
    have hw4 : IntKind.u64.wrap ((t.size : Int) + 1) = (t.size : Int) + 1 := by rw [IntKind.wrap_u64]; omega
    have hw5 : IntKind.i64.wrap ((a : Int) + (i : Int)) = ((a + i : Nat) : Int) := by rw [IntWalk.i64_in _ (by omega)]; omega
    have hz2 : ((t.size : Int) + 1 == 0) = false := by simp; omega
    go_upto_region 6 with (go_at_call 27; refine (c_twins17 hU1 _ hs fa HFA.out).mono ?_; rintro e w1 ⟨b, r, rfl, hC1⟩)
    have HC1 := Lib.hid hC1
    clear hC1
    go_upto_region 7 with (go_at_call 27; refine (c_twins17b HC1.out _ hs fa HFA.out).mono ?_; rintro e w2 ⟨b2, r2, rfl, hC2⟩)
    have HN := Lib.hid (rdy_new (chipP_ok _ _ _) (at_new fa) (Ctx.unemp (chipP_ok _ _ _) hC2).commQ (Int.le_refl 0) (by decide))
    clear hC2 HC1
    go_upto_region 8 with (go_at_call 28; refine HN.out.mono ?_; rintro e w3 ⟨k, fo, fi, rfl, hR3⟩)
    have HN2 := Lib.hid (rdy_new2 hR3 (at_new fa) (Int.le_refl 0) (by decide))
    clear hR3 HN
    go_upto_region 11 with (first | (go_at_call 28; refine HN2.out.mono ?_; rintro e w4 ⟨k2, fo2, fi2, rfl, hR4⟩) | (go_at_call 25; refine (num_any _ _).mono ?_; rintro e w' ⟨rfl, rfl⟩))
    have HB1 := Lib.hid (rdy_burns hR4.swap (rest_new fa) fa rfl hsz a t (by omega) (by omega) (by omega) (by decide) (by decide))
    clear hR4 HN2
    go_upto_region 14 with (go_at_call 29; refine HB1.out.mono ?_; rintro e w5 ⟨rfl, c1, q1, hr1, ha1, -, -, hR5⟩)
    have HB2 := Lib.hid (rdy_burns hR5 hr1 _ ha1 (by rw [burnA_size]; exact hsz) a t (by omega) (by omega) (by omega) (by decide) (by decide))
    clear hR5 HB1 hr1 ha1
    go_upto_region 15 with (go_at_call 29; refine HB2.out.mono ?_; rintro e w6 ⟨rfl, c2, q2, hr2, ha2, -, -, hR6⟩)
    rw [burnA_twice] at ha2
    have HA2 : Hid (True ∧ c2.a = burnA fa a t.data.toList) := ⟨trivial, ha2⟩
    obtain ⟨x1, x2⟩ := take_extract t i (by omega)
    obtain ⟨y1, y2⟩ := drop_extract t i (by omega)
    have HB3 := Lib.hid (rdy_burns hR6.swap (rest_new fa) fa rfl hsz a (t.extract 0 i) (by omega) (by omega) (by omega) (by decide) (by decide))
    clear hR6 HB2 hr2 ha2
    go_upto_region 16 with (go_at_call 29; refine HB3.out.mono ?_; rintro e w7 ⟨rfl, c3, q3, hr3, ha3, -, -, hR7⟩)
    rw [x1] at ha3
    have HB4 := Lib.hid (rdy_burns hR7 hr3 _ ha3 (by rw [burnA_size]; exact hsz) (a + i) (t.extract i t.size) (by omega) (by omega) (by omega) (by decide) (by decide))
    clear hR7 HB3 hr3 ha3
    go_upto_region 17 with (go_at_call 29; refine HB4.out.mono ?_; rintro e w8 ⟨rfl, c4, q4, hr4, ha4, -, -, hR8⟩)
    rw [y1, burnA_parts _ _ _ _ (show i ≤ t.data.toList.length from by show i ≤ t.size; omega)] at ha4
    have HC4 := Lib.hid (rdy_cells hR8 _ ha4)
    have HC2 := Lib.hid (rdy_cells hR8.swap _ HA2.out.2)
    have HU := Lib.hid hR8.up
    clear hR8 HB4 hr4 ha4 x1 x2 y1 y2
    go_wp2_with (first | (go_at_call 25; refine (num_any _ _).mono ?_; rintro e w' ⟨rfl, rfl⟩) | (go_at_call 24; first | (with_reducible refine HC2.out.mono ?_; rintro e w9 ⟨rfl, rfl⟩) | (with_reducible refine HC4.out.mono ?_; rintro e w9 ⟨rfl, rfl⟩)))
    go_ret
    exact ⟨rfl, HU.out⟩
  · go_wp2
    go_ret
    exact ⟨rfl, hU1⟩
end Go.Proofs.YtkjdhkpkcepilaaGreat
