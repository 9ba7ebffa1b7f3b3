/- LawBurns RowKit RowDo -/
import Derived.Test.YteombggfmeilaaaGreatBu14
import Derived.Test.YteombggfmeilaaaGreatBu20
import Derived.Test.YteombggfmeilaaaGreatBu23
import Derived.Test.YteombggfmeilaaaGreatBu24
import Derived.Test.YteombggfmeilaaaGreatBu00
import Derived.IntWalk
import Derived.Test.YteombggfmeilaaaGreatProg
import Derived.OpenShut
import Derived.ShutString
import Derived.ChangeOld
import Derived.SizedLaws
import Derived.Test.YteombggfmeilaaaGreatBu06
import Derived.Deep.Slices
import Derived.Lib.SmallJoins
/- LawBurns. -/
namespace Go.Proofs.YteombggfmeilaaaGreat
open Go.RowKit
theorem c_twinsR17 {w0 w : World} (h : Upd none' w0 w) (s : ByteArray) (hs : s.size ≤ 9223372036854775807) (fa : ByteArray) (hfa : (⟨(freshL s).toArray⟩ : ByteArray) = fa) :
    Calls Tryz.prog 65 #[.string s] w fun e w' => ∃ b r, e = .returned (.tuple #[.pointer (some ⟨b, 0, none⟩), .pointer (some ⟨r, 0, none⟩)]) ∧ Ctx (ChipP b (St.new fa) 0) (RefP r (St.new fa) 0) w0 w' [] := by
  refine (twins17 s w hs).mono ?_
  rintro e w' ⟨b, S, r, v, rfl, hA, hS, hR, hr, hv, hU⟩
  rw [hfa] at hA hR
  have hsz : fa.size = 4096 := by rw [← hfa]; simpa [ByteArray.size] using freshL_len s
  exact ⟨b, r, rfl, pair_ctx h hU hsz hA hS hR hr hv⟩
theorem i64_and2047b (n : Int) : bits .and .i64 n 2047 = n % 2048 := by
  have hm : (BitVec.ofInt 64 2047).toNat = 2 ^ 11 - 1 := by decide
  have key : (BitVec.ofInt 64 n &&& BitVec.ofInt 64 2047).toNat = (n % ((2 ^ 64 : Nat) : Int)).toNat % 2 ^ 11 := by
    rw [BitVec.toNat_and, BitVec.toNat_ofInt, hm, Nat.and_two_pow_sub_one_eq_mod]
  show IntKind.i64.wrap ((BitVec.ofInt 64 n &&& BitVec.ofInt 64 2047).toNat : Nat) = n % 2048
  rw [key, IntKind.wrap_i64]
  omega
theorem intsR_rs {w : World} {v : Value} {xs : List Int} (h : IntsR w v xs) : RS w v (ints xs) := by
  obtain ⟨h1, h2, a, cap, rfl, h4, h5⟩ := h
  refine ⟨by rw [ints_len]; exact h1, a, cap, by rw [ints_len], by rw [ints_len]; exact h4, fun hn => ?_⟩
  obtain ⟨b, o, e, hb, hc⟩ := h5 (by rintro rfl; exact hn rfl)
  refine ⟨b, o, e, hb, fun j hj => ?_⟩
  rw [ints_len] at hj
  rw [hc j hj, ints_at _ _ hj]
def pagesV (a n : Int) : List Int := if fmayB a n then natI (pagesL a.toNat n.toNat) else []
def pagesE (a n : Int) : Int := if fmayB a n then 0 else 1700
theorem pagesV_len (a n : Int) : (pagesV a n).length ≤ 512 := by
  unfold pagesV
  split
  · rename_i h
    have hb := of_decide_eq_true h
    rw [natI_len]
    have := (pagesL_len n.toNat a.toNat).1
    omega
  · exact Nat.zero_le _
theorem pages_any (a : Int) (n : Nat) (w : World) :
    Calls Tryz.prog 67 #[.int .i64 a, .int .i64 (n : Int)] w fun e w' => ∃ v, e = .returned (.tuple #[v, .int .i64 (pagesE a n)]) ∧ Row w' 3 v (ints (pagesV a n)) ∧ (∀ g, v.ownBlock = some g → w.heap.size ≤ g) ∧ Upd none' w w' := by
  unfold pagesV pagesE
  cases hf : fmayB a (n : Int) with
  | false =>
    rw [if_neg (by decide), if_neg (by decide)]
    refine (pages_no a n hf w).mono ?_
    rintro e w' ⟨rfl, rfl⟩
    exact ⟨_, rfl, Row.nil _ _, fun g hg => by simp [Value.ownBlock] at hg, Upd.refl _ _⟩
  | true =>
    have hb := of_decide_eq_true hf
    rw [if_pos rfl, if_pos rfl]
    obtain ⟨z, rfl⟩ : ∃ z : Nat, a = (z : Int) := ⟨a.toNat, by omega⟩
    rw [Int.toNat_natCast, Int.toNat_natCast]
    exact pages_ok z n (by omega) (by omega) w
theorem ref_pages_any (a : Int) (n : Nat) (w : World) :
    Calls Tryz.prog 68 #[.int .i64 a, .int .i64 (n : Int)] w fun e w' => ∃ v, e = .returned (.tuple #[v, .int .i64 (pagesE a n)]) ∧ Row w' 3 v (ints (pagesV a n)) ∧ (∀ g, v.ownBlock = some g → w.heap.size ≤ g) ∧ Upd none' w w' := by
  unfold pagesV pagesE
  cases hf : fmayB a (n : Int) with
  | false =>
    rw [if_neg (by decide), if_neg (by decide)]
    refine (ref_pages_no a n hf w).mono ?_
    rintro e w' ⟨rfl, rfl⟩
    exact ⟨_, rfl, Row.nil _ _, fun g hg => by simp [Value.ownBlock] at hg, Upd.refl _ _⟩
  | true =>
    have hb := of_decide_eq_true hf
    rw [if_pos rfl, if_pos rfl]
    obtain ⟨z, rfl⟩ : ∃ z : Nat, a = (z : Int) := ⟨a.toNat, by omega⟩
    rw [Int.toNat_natCast, Int.toNat_natCast]
    exact ref_pages_ok z n (by omega) (by omega) w
set_option pp.deepTerms true in
set_option pp.maxSteps 100000 in
set_option maxRecDepth 100000 in
set_option maxHeartbeats 4000000 in
theorem lawBurns (w : World) (s : ByteArray) (hs : s.size ≤ 9223372036854775807) (at_ : Int) (_ : (Lit.int .i64 at_).wf = true) (t : ByteArray) (_ : t.size ≤ 9223372036854775807) (ba : Option Addr) (bl bc : Nat) (busy : List Int) (hbusy : IntsR w (.slice ba bl bc) busy) (hbn : ba = none → bc = 0) (cut : Int) (_ : (Lit.int .i64 cut).wf = true) (mask : ByteArray) (hmk : mask.size ≤ 9223372036854775807) :
    Calls Tryz.prog 10 #[.string s, .int .i64 at_, .string t, .slice ba bl bc, .int .i64 cut, .string mask] w fun e w' => e = .returned (.bool true) ∧ Upd none' w w' := by
  obtain ⟨fa, hfa⟩ : ∃ fa : ByteArray, (⟨(freshL s).toArray⟩ : ByteArray) = fa := ⟨_, rfl⟩
  have HFA := Lib.hid hfa
  have HBUSY := Lib.hid (intsR_rs hbusy)
  have hpl := pagesV_len at_ (t.size : Int)
  obtain ⟨L, hL⟩ : ∃ L, pagesV at_ (t.size : Int) = L := ⟨_, rfl⟩
  obtain ⟨pe, hpe⟩ : ∃ pe, pagesE at_ (t.size : Int) = pe := ⟨_, rfl⟩
  rw [hL] at hpl
  have HPA : Hid (∀ w1, Calls Tryz.prog 67 #[.int .i64 at_, .int .i64 (t.size : Int)] w1 fun e w' => ∃ v, e = .returned (.tuple #[v, .int .i64 pe]) ∧ Row w' 3 v (ints L) ∧ (∀ g, v.ownBlock = some g → w1.heap.size ≤ g) ∧ Upd none' w1 w') := Lib.hid (fun w1 => by rw [← hL, ← hpe]; exact pages_any at_ t.size w1)
  have HPB : Hid (∀ w1, Calls Tryz.prog 68 #[.int .i64 at_, .int .i64 (t.size : Int)] w1 fun e w' => ∃ v, e = .returned (.tuple #[v, .int .i64 pe]) ∧ Row w' 3 v (ints L) ∧ (∀ g, v.ownBlock = some g → w1.heap.size ≤ g) ∧ Upd none' w1 w') := Lib.hid (fun w1 => by rw [← hL, ← hpe]; exact ref_pages_any at_ t.size w1)
  have HPL := Lib.hid hpl
  clear hfa hbusy hL hpe hpl
  go_enter Tryz.func10, Tryz.ntmps10
  go_upto_region 2 with (go_at_call 65; refine (c_twinsR17 (Upd.refl none' w) _ hs fa HFA.out).mono ?_; rintro e w1 ⟨b, r, rfl, hC1⟩)
  have HN := Lib.hid (p_new hC1)
  clear hC1
  go_upto_region 5 with (first | (go_at_call 49; refine HN.out.mono ?_; rintro e w2 ⟨k, fo, fi, rfl, hR2⟩) | (go_at_call 16; refine (num_any _ _).mono ?_; rintro e w' ⟨rfl, rfl⟩))
  have HK := Lib.hid (d_new hR2)
  clear hR2 HN
  go_upto_region 6 with (go_at_call 52; refine HK.out.mono ?_; rintro e w3 ⟨k2, rfl, hR3⟩)
  have HX := Lib.hid (p_nexts hR3 ba bl bc busy (HBUSY.out.upd hR3.upd (fun _ _ _ f => f)) hbn)
  clear hR3 HK
  go_upto_region 7 with (go_at_call 24; refine HX.out.mono ?_; rintro e w4 ⟨rfl, hR4⟩)
  have HY := Lib.hid (d_nexts hR4 ba bl bc busy (HBUSY.out.upd hR4.upd (fun _ _ _ f => f)) hbn)
  clear hR4 HX
  go_upto_region 8 with (go_at_call 25; refine HY.out.mono ?_; rintro e w5 ⟨rfl, hR5⟩)
  have HR9 := Lib.hid hR5
  clear hR5 HY HFA HBUSY hbn
  generalize (Mac.mk (St.new fa) KS.new).nexts busy = m2 at *
  have hcu := i64_and3 cut
  by_cases hc1 : cut % 4 = 3
  · rw [hc1] at hcu
    have hcx := i64_and2047b (cut / 4)
    obtain ⟨x, hx⟩ : ∃ x, cut / 4 % 2048 = x := ⟨_, rfl⟩
    have hx2 : 0 ≤ x ∧ x ≤ 1048576 := by omega
    rw [hx] at hcx
    have HCP := Lib.hid (p_cut HR9.out x hx2)
    clear hx HR9 hc1
    go_upto_region 10 with (go_at_call 54; refine HCP.out.mono ?_; rintro e w10 ⟨rfl, hR10⟩)
    have HCD := Lib.hid (d_cut hR10 x hx2)
    clear hR10 HCP
    go_upto_region 11 with (go_at_call 55; refine HCD.out.mono ?_; rintro e w11 ⟨rfl, hR11⟩)
    have HR11 := Lib.hid hR11
    clear hR11 HCD hcx hcu
    generalize m2.cut x = m3 at *
    go_upto_region 12 with (go_at_call 67; refine (HPA.out _).mono ?_; rintro e w12 ⟨va, rfl, hra, hoa, hUa⟩)
    obtain ⟨pa, pc, rfl, -⟩ := hra.form
    have hll : (ints L).length = L.length := ints_len L
    rw [hll] at hra hoa ⊢
    have HR12 := Lib.hid (HR11.out.row (r := (.slice pa L.length pc, ints L)) hUa (hra.rs (by rw [hll]; have := HPL.out; omega)) (fun g hg => ⟨hoa g hg, hra.lt g hg⟩) hra.mk)
    have HOA : Hid (∀ g, (Value.slice pa L.length pc).ownBlock = some g → w.heap.size ≤ g) := Lib.hid (fun g hg => Nat.le_trans HR11.out.upd.size (hoa g hg))
    clear hra hoa hUa HR11
    go_upto_region 13 with (go_at_call 68; refine (HPB.out _).mono ?_; rintro e w13 ⟨vb, rfl, hrb, hob, hUb⟩)
    obtain ⟨qa, qc, rfl, -⟩ := hrb.form
    rw [hll] at hrb hob ⊢
    have HR13 := Lib.hid (HR12.out.row (r := (.slice qa L.length qc, ints L)) hUb (hrb.rs (by rw [hll]; have := HPL.out; omega)) (fun g hg => ⟨hob g hg, hrb.lt g hg⟩) hrb.mk)
    clear hrb hob hUb HR12 hll
    obtain ⟨⟨m4, e4⟩, h4⟩ : ∃ r, m3.burn at_ t.data.toList = r := ⟨_, rfl⟩
    have HWP := Lib.hid (p_burn HR13.out at_ t (by decide) m4 e4 h4)
    clear HR13
    go_upto_region 14 with (go_at_call 66; refine HWP.out.mono ?_; rintro e w14 ⟨rfl, hR14⟩)
    have HWD := Lib.hid (d_burn hR14.commQ at_ t (by decide) m4 e4 h4)
    clear hR14 HWP h4
    go_upto_region 15 with (go_at_call 69; refine HWD.out.mono ?_; rintro e w15 ⟨rfl, hR15⟩)
    have HR15 := Lib.hid hR15.commQ
    have HCK := Lib.hid (p_clocks hR15.commQ)
    have HLO := Lib.hid (p_lost hR15.commQ)
    have HCE := Lib.hid (d_cells hR15.commQ)
    have HAL : Hid (∀ w', Upd none' w15 w' → Calls Tryz.prog 70 #[.pointer (some ⟨b, 0, none⟩), .pointer (some ⟨r, 0, none⟩)] w' fun e w'' => e = .returned (.bool true) ∧ Upd none' w' w'') := Lib.hid (fun w' u => by
      obtain ⟨N, N2, Q, Q2, g1, g2⟩ := both_views hR15.commQ w' u
      exact alike17 g1 g2)
    have HSI : Hid (∀ w', Upd none' w15 w' → Calls Tryz.prog 33 #[.slice pa L.length pc, .slice qa L.length qc] w' fun e w'' => e = .returned (.bool true) ∧ Upd none' w' w'') := Lib.hid (fun w' u => by
      have hh := (hR15.frame u)
      have := same_ints w' _ _ L L (hh.rs 1 rfl) (hh.rs 0 rfl)
      rw [show sameB L L = true from decide_eq_true rfl] at this
      exact this)
    obtain ⟨c6, c9⟩ := HCE.out w15 (Upd.refl none' w15)
    generalize m4.K.clocks = q at *
    generalize m4.K.lost = lo at *
    clear hR15 HWD
    go_region_held3 (fun w' => w'.cell? ⟨k2, 6, none⟩ = some (.int .i64 q) ∧ w'.cell? ⟨k2, 9, none⟩ = some (.bool lo)) (first | exact ⟨c6, c9⟩ | exact ⟨d6, d9⟩ | exact ⟨f6, f9⟩) (first | (go_at_call 70; refine (HAL.out _ HU16.out).mono ?_; rintro e w17 ⟨rfl, hU17⟩; have HU17 := Lib.hid (HU16.out.trans hU17 (fun _ _ f => f)); obtain ⟨f6, f9⟩ := HCE.out _ HU17.out) | (go_at_call 33; refine (HSI.out _ (Upd.refl none' w15).drew).mono ?_; rintro e w16 ⟨rfl, hU16⟩; have HU16 := Lib.hid ((Upd.refl none' w15).drew.trans hU16 (fun _ _ f => f)); obtain ⟨d6, d9⟩ := HCE.out _ HU16.out) | (go_at_call 58; refine (HLO.out _ HU16.out).mono ?_; rintro e w' ⟨rfl, rfl⟩) | (go_at_call 57; refine (HCK.out _ HU16.out).mono ?_; rintro e w' ⟨rfl, rfl⟩) | (go_at_call 16; refine (num_any _ _).mono ?_; rintro e w' ⟨rfl, rfl⟩))
    have HSP := Lib.hid (c_spoil ((HR15.out.frame HU17.out).sub (rows' := [(.slice pa L.length pc, ints L)]) (fun r hr => by simp only [List.mem_singleton] at hr; subst hr; simp)) HOA.out (fun r hr => by cases hr))
    clear HCK HLO HCE HSI HAL HR15
    go_upto_region 18 with (go_at_call 27; refine HSP.out.mono ?_; rintro e w18 ⟨rfl, hR18⟩)
    have HL1 := Lib.hid (p_loss hR18 mask hmk)
    clear hR18 HSP
    go_upto_region 19 with (go_at_call 28; refine HL1.out.mono ?_; rintro e w19 ⟨rfl, N19, hR19⟩)
    have HL2 := Lib.hid (d_loss (P := .emp) hR19 rfl mask hmk)
    clear hR19 HL1
    go_upto_region 20 with (go_at_call 29; refine HL2.out.mono ?_; rintro e w20 ⟨rfl, N20, Q20, Q21, hg1, hg2⟩)
    have HAL := Lib.hid (alike17 hg1 hg2)
    have HU20 := Lib.hid hg1.upd
    clear hg1 hg2 HL2
    go_wp2_with (first | (go_at_call 64; refine (awake17 _).mono ?_; rintro e w22 ⟨rfl, hU22⟩) | (go_at_call 70; refine HAL.out.mono ?_; rintro e w21 ⟨rfl, hU21⟩))
    go_ret
    exact ⟨rfl, (HU20.out.trans hU21 (fun _ _ f => f)).trans hU22 (fun _ _ f => f)⟩
  · obtain ⟨y, hy⟩ : ∃ y, cut % 4 = y := ⟨_, rfl⟩
    rw [hy] at hcu hc1
    have hcb : (y == 3) = false := by simpa using hc1
    have HR11 := HR9
    clear hc1 HR9 hy
    go_upto_region 11 with fail
    clear hcu hcb
    obtain ⟨w11, hw11⟩ : ∃ w11, w5 = w11 := ⟨_, rfl⟩
    rw [hw11] at HR11 ⊢
    obtain ⟨m3, hm3⟩ : ∃ m3, m2 = m3 := ⟨_, rfl⟩
    rw [hm3] at HR11
    go_upto_region 12 with (go_at_call 67; refine (HPA.out _).mono ?_; rintro e w12 ⟨va, rfl, hra, hoa, hUa⟩)
    obtain ⟨pa, pc, rfl, -⟩ := hra.form
    have hll : (ints L).length = L.length := ints_len L
    rw [hll] at hra hoa ⊢
    have HR12 := Lib.hid (HR11.out.row (r := (.slice pa L.length pc, ints L)) hUa (hra.rs (by rw [hll]; have := HPL.out; omega)) (fun g hg => ⟨hoa g hg, hra.lt g hg⟩) hra.mk)
    have HOA : Hid (∀ g, (Value.slice pa L.length pc).ownBlock = some g → w.heap.size ≤ g) := Lib.hid (fun g hg => Nat.le_trans HR11.out.upd.size (hoa g hg))
    clear hra hoa hUa HR11
    go_upto_region 13 with (go_at_call 68; refine (HPB.out _).mono ?_; rintro e w13 ⟨vb, rfl, hrb, hob, hUb⟩)
    obtain ⟨qa, qc, rfl, -⟩ := hrb.form
    rw [hll] at hrb hob ⊢
    have HR13 := Lib.hid (HR12.out.row (r := (.slice qa L.length qc, ints L)) hUb (hrb.rs (by rw [hll]; have := HPL.out; omega)) (fun g hg => ⟨hob g hg, hrb.lt g hg⟩) hrb.mk)
    clear hrb hob hUb HR12 hll
    obtain ⟨⟨m4, e4⟩, h4⟩ : ∃ r, m3.burn at_ t.data.toList = r := ⟨_, rfl⟩
    have HWP := Lib.hid (p_burn HR13.out at_ t (by decide) m4 e4 h4)
    clear HR13
    go_upto_region 14 with (go_at_call 66; refine HWP.out.mono ?_; rintro e w14 ⟨rfl, hR14⟩)
    have HWD := Lib.hid (d_burn hR14.commQ at_ t (by decide) m4 e4 h4)
    clear hR14 HWP h4
    go_upto_region 15 with (go_at_call 69; refine HWD.out.mono ?_; rintro e w15 ⟨rfl, hR15⟩)
    have HR15 := Lib.hid hR15.commQ
    have HCK := Lib.hid (p_clocks hR15.commQ)
    have HLO := Lib.hid (p_lost hR15.commQ)
    have HCE := Lib.hid (d_cells hR15.commQ)
    have HAL : Hid (∀ w', Upd none' w15 w' → Calls Tryz.prog 70 #[.pointer (some ⟨b, 0, none⟩), .pointer (some ⟨r, 0, none⟩)] w' fun e w'' => e = .returned (.bool true) ∧ Upd none' w' w'') := Lib.hid (fun w' u => by
      obtain ⟨N, N2, Q, Q2, g1, g2⟩ := both_views hR15.commQ w' u
      exact alike17 g1 g2)
    have HSI : Hid (∀ w', Upd none' w15 w' → Calls Tryz.prog 33 #[.slice pa L.length pc, .slice qa L.length qc] w' fun e w'' => e = .returned (.bool true) ∧ Upd none' w' w'') := Lib.hid (fun w' u => by
      have hh := (hR15.frame u)
      have := same_ints w' _ _ L L (hh.rs 1 rfl) (hh.rs 0 rfl)
      rw [show sameB L L = true from decide_eq_true rfl] at this
      exact this)
    obtain ⟨c6, c9⟩ := HCE.out w15 (Upd.refl none' w15)
    generalize m4.K.clocks = q at *
    generalize m4.K.lost = lo at *
    clear hR15 HWD
    go_region_held3 (fun w' => w'.cell? ⟨k2, 6, none⟩ = some (.int .i64 q) ∧ w'.cell? ⟨k2, 9, none⟩ = some (.bool lo)) (first | exact ⟨c6, c9⟩ | exact ⟨d6, d9⟩ | exact ⟨f6, f9⟩) (first | (go_at_call 70; refine (HAL.out _ HU16.out).mono ?_; rintro e w17 ⟨rfl, hU17⟩; have HU17 := Lib.hid (HU16.out.trans hU17 (fun _ _ f => f)); obtain ⟨f6, f9⟩ := HCE.out _ HU17.out) | (go_at_call 33; refine (HSI.out _ (Upd.refl none' w15).drew).mono ?_; rintro e w16 ⟨rfl, hU16⟩; have HU16 := Lib.hid ((Upd.refl none' w15).drew.trans hU16 (fun _ _ f => f)); obtain ⟨d6, d9⟩ := HCE.out _ HU16.out) | (go_at_call 58; refine (HLO.out _ HU16.out).mono ?_; rintro e w' ⟨rfl, rfl⟩) | (go_at_call 57; refine (HCK.out _ HU16.out).mono ?_; rintro e w' ⟨rfl, rfl⟩) | (go_at_call 16; refine (num_any _ _).mono ?_; rintro e w' ⟨rfl, rfl⟩))
    have HSP := Lib.hid (c_spoil ((HR15.out.frame HU17.out).sub (rows' := [(.slice pa L.length pc, ints L)]) (fun r hr => by simp only [List.mem_singleton] at hr; subst hr; simp)) HOA.out (fun r hr => by cases hr))
    clear HCK HLO HCE HSI HAL HR15
    go_upto_region 18 with (go_at_call 27; refine HSP.out.mono ?_; rintro e w18 ⟨rfl, hR18⟩)
    have HL1 := Lib.hid (p_loss hR18 mask hmk)
    clear hR18 HSP
    go_upto_region 19 with (go_at_call 28; refine HL1.out.mono ?_; rintro e w19 ⟨rfl, N19, hR19⟩)
    have HL2 := Lib.hid (d_loss (P := .emp) hR19 rfl mask hmk)
    clear hR19 HL1
    go_upto_region 20 with (go_at_call 29; refine HL2.out.mono ?_; rintro e w20 ⟨rfl, N20, Q20, Q21, hg1, hg2⟩)
    have HAL := Lib.hid (alike17 hg1 hg2)
    have HU20 := Lib.hid hg1.upd
    clear hg1 hg2 HL2
    go_wp2_with (first | (go_at_call 64; refine (awake17 _).mono ?_; rintro e w22 ⟨rfl, hU22⟩) | (go_at_call 70; refine HAL.out.mono ?_; rintro e w21 ⟨rfl, hU21⟩))
    go_ret
    exact ⟨rfl, (HU20.out.trans hU21 (fun _ _ f => f)).trans hU22 (fun _ _ f => f)⟩
end Go.Proofs.YteombggfmeilaaaGreat
/- RowKit. -/
namespace Go.Proofs.YteombggfmeilaaaGreat
open Go.ChangeShapes Go.WideShapes Go.ChangeAt Go.RowKit
theorem rowOwn : ownKnob Tryz.prog.godebug = none := by kernel_rfl
theorem rowLaid : laidOutB Tryz.prog = true := by kernel_rfl
theorem addr_of_cell {w : World} {a : Addr} {v : Value} (h : w.cell? a = some v) : a = ⟨a.block, a.off, none⟩ := by
  unfold World.cell? at h
  obtain ⟨b, o, sp⟩ := a
  cases sp with
  | none => rfl
  | some x => simp at h; split at h <;> simp at h
theorem intsR_of_trod {H : Type} {enc : TypeId × Value → H} {P : Program} {t e : TypeId} (hu : P.underlying t = some (.slice e)) (he : P.underlying e = some (.int .i64)) (hc : P.cellsOf e = 1) (hb : P.bytesOf e = 8) {W : World}
    {a0 : Option Addr} {len cap : Nat} {d : DataW H} {ps : List MemPlace} (h : DataW.Trod enc P W 0 (fun _ => true) true t (.slice a0 len cap) d ps) (hlt : ∀ x ∈ ps, x.block < W.heap.size)
    {ts : List TypeId} {ds : List (DataW H)} (hs : (DataW.weightsEach P ts ds).all (· ≤ reachBytes) = true) {j : Nat} (ht : ts[j]? = some t) (hd : ds[j]? = some d) : ∃ xs, IntsR W (.slice a0 len cap) xs := by
  obtain ⟨fuel, hf⟩ := h
  rcases open_ints hu he hc hf with ⟨hcs, _⟩ | ⟨x, l, c, zs, hcs, _, hl, hm, hz, hx, hcell, hwz⟩
  · simp [Value.cells] at hcs
    obtain ⟨rfl, rfl, rfl⟩ := hcs
    exact ⟨[], by simp, by simp, none, 0, rfl, by simp, fun h => absurd rfl h⟩
  · simp [Value.cells] at hcs
    obtain ⟨rfl, rfl, rfl⟩ := hcs
    simp only [Prod.mk.injEq] at hx
    obtain ⟨rfl, rfl⟩ := hx
    have hz' : zs.length = cap := by simpa using hz
    have hreach := sized_slice hs ht hd hu
    rw [hb] at hreach
    simp only [lits, List.length_map, List.length_take, List.length_drop, reachBytes] at hreach
    have hlen : (zs.take len).length = len := by simp; omega
    refine ⟨zs.take len, by rw [hlen]; omega, fun y hy => ?_, some x, cap, by rw [hlen], by omega, fun hn => ?_⟩
    · have := hwz y (List.mem_of_mem_take hy)
      simpa [Lit.wf, IntKind.min, IntKind.max, IntKind.signed, IntKind.bits] using this
    · have hpos : 0 < len := by
        cases len with
        | zero => simp at hn
        | succ n => omega
      have h0 := hcell 0 (by omega)
      rw [show x.add 0 = x from by simp [Addr.add]] at h0
      have hx := addr_of_cell h0
      refine ⟨x.block, x.off, congrArg some hx, World.block_lt_of_cell? W x h0, fun i hi => ?_⟩
      rw [hlen] at hi
      have hi' := hcell i (by omega)
      have ea : x.add i = ⟨x.block, x.off + i, none⟩ := by
        obtain ⟨xb, xo, sp⟩ := x
        simp only [Addr.mk.injEq, true_and] at hx
        subst hx
        unfold Addr.add; split
        · subst i; rfl
        · rfl
      rw [ea] at hi'
      rw [hi']
      simp [List.getD_eq_getElem?_getD, hi]
end Go.Proofs.YteombggfmeilaaaGreat
/- RowDo. -/
namespace Go.Proofs.YteombggfmeilaaaGreat
open Go.ChangeShapes Go.WideShapes Go.ChangeAt Go.RowKit Go.Deep
theorem intsN_of_trod {H : Type} {enc : TypeId × Value → H} {P : Program} {t e : TypeId} (hu : P.underlying t = some (.slice e)) (he : P.underlying e = some (.int .i64)) (hc : P.cellsOf e = 1) (hb : P.bytesOf e = 8) {W : World}
    {a0 : Option Addr} {len cap : Nat} {d : DataW H} {ps : List MemPlace} (h : DataW.Trod enc P W 0 (fun _ => true) true t (.slice a0 len cap) d ps) (hlt : ∀ x ∈ ps, x.block < W.heap.size)
    {ts : List TypeId} {ds : List (DataW H)} (hs : (DataW.weightsEach P ts ds).all (· ≤ reachBytes) = true) {j : Nat} (ht : ts[j]? = some t) (hd : ds[j]? = some d) : ∃ xs, IntsR W (.slice a0 len cap) xs ∧ (a0 = none → cap = 0) := by
  obtain ⟨xs, hx⟩ := intsR_of_trod hu he hc hb h hlt hs ht hd
  refine ⟨xs, hx, fun hn => ?_⟩
  obtain ⟨fuel, hf⟩ := h
  rcases open_ints hu he hc hf with ⟨hcs, _⟩ | ⟨x, l, c, zs, hcs, _⟩
  · simp only [Value.cells, List.cons.injEq, and_true, Value.slice.injEq] at hcs
    exact hcs.2.2
  · simp only [Value.cells, List.cons.injEq, and_true, Value.slice.injEq] at hcs
    rw [hn] at hcs
    cases hcs.1
end Go.Proofs.YteombggfmeilaaaGreat
