/- LawFetches -/
import Derived.Test.YteombggfmeilaaaGreatBa26
import Derived.Test.YteombggfmeilaaaGreatBa23
import Derived.Test.YteombggfmeilaaaGreatBa00
import Derived.IntWalk
/- LawFetches. -/
namespace Go.Proofs.YteombggfmeilaaaGreat
open Go.RowKit
theorem c_twinsR16f {w0 w : World} (h : Upd none' w0 w) (s : ByteArray) (hs : s.size ≤ 9223372036854775807) (fa : ByteArray) (hfa : (⟨(freshL s).toArray⟩ : ByteArray) = fa) :
    Calls Tryz.prog 48 #[.string s] w fun e w' => ∃ b r, e = .returned (.tuple #[.pointer (some ⟨b, 0, none⟩), .pointer (some ⟨r, 0, none⟩)]) ∧ Ctx (ChipP b (St.new fa) 0) (RefP r (St.new fa) 0) w0 w' [] := by
  refine (twins16 s w hs).mono ?_
  rintro e w' ⟨b, S, r, v, rfl, hA, hS, hR, hr, hv, hU⟩
  rw [hfa] at hA hR
  have hsz : fa.size = 4096 := by rw [← hfa]; simpa [ByteArray.size] using freshL_len s
  exact ⟨b, r, rfl, pair_ctx h hU hsz hA hS hR hr hv⟩
theorem i64_and2047 (n : Int) : bits .and .i64 n 2047 = n % 2048 := by
  have hm : (BitVec.ofInt 64 2047).toNat = 2 ^ 11 - 1 := by decide
  have key : (BitVec.ofInt 64 n &&& BitVec.ofInt 64 2047).toNat = (n % ((2 ^ 64 : Nat) : Int)).toNat % 2 ^ 11 := by
    rw [BitVec.toNat_and, BitVec.toNat_ofInt, hm, Nat.and_two_pow_sub_one_eq_mod]
  show IntKind.i64.wrap ((BitVec.ofInt 64 n &&& BitVec.ofInt 64 2047).toNat : Nat) = n % 2048
  rw [key, IntKind.wrap_i64]
  omega
set_option pp.deepTerms true in
set_option pp.maxSteps 100000 in
set_option maxRecDepth 100000 in
set_option maxHeartbeats 4000000 in
theorem lawFetches (w : World) (s : ByteArray) (hs : s.size ≤ 9223372036854775807) (fast : Bool) (at_ : Int) (_ : (Lit.int .i64 at_).wf = true) (many : Int) (_ : (Lit.int .i64 many).wf = true) (cut : Int) (_ : (Lit.int .i64 cut).wf = true) :
    Calls Tryz.prog 7 #[.string s, .bool fast, .int .i64 at_, .int .i64 many, .int .i64 cut] w fun e w' => e = .returned (.bool true) ∧ Upd none' w w' := by
  obtain ⟨fa, hfa⟩ : ∃ fa : ByteArray, (⟨(freshL s).toArray⟩ : ByteArray) = fa := ⟨_, rfl⟩
  have HFA := Lib.hid hfa
  clear hfa
  go_enter Tryz.func7, Tryz.ntmps7
  go_upto_region 2 with (go_at_call 48; refine (c_twinsR16f (Upd.refl none' w) _ hs fa HFA.out).mono ?_; rintro e w1 ⟨b, r, rfl, hC1⟩)
  have HN := Lib.hid (p_new hC1)
  clear hC1
  go_upto_region 5 with (first | (go_at_call 49; refine HN.out.mono ?_; rintro e w2 ⟨k, fo, fi, rfl, hR2⟩) | (go_at_call 16; refine (num_any _ _).mono ?_; rintro e w' ⟨rfl, rfl⟩))
  have HK := Lib.hid (d_new hR2)
  clear hR2 HN
  go_upto_region 6 with (go_at_call 52; refine HK.out.mono ?_; rintro e w3 ⟨k2, rfl, hR3⟩)
  have HR3 := Lib.hid hR3
  clear hR3 HK HFA
  obtain ⟨m0, hm0⟩ : ∃ m0 : Mac, Mac.mk (St.new fa) KS.new = m0 := ⟨_, rfl⟩
  rw [hm0] at HR3
  clear hm0
  cases fast with
  | false =>
    go_upto_region 11 with fail
    have HR9 := HR3
    clear HR3
    obtain ⟨w9, hw9⟩ : ∃ w9, w3 = w9 := ⟨_, rfl⟩
    rw [hw9] at HR9 ⊢
    obtain ⟨m2, hm2⟩ : ∃ m2, m0 = m2 := ⟨_, rfl⟩
    rw [hm2] at HR9
    clear hm2
    have hcu := i64_and7 cut
    by_cases hc1 : cut % 8 = 7
    · rw [hc1] at hcu
      have hcx := i64_and2047 (cut / 8)
      obtain ⟨x, hx⟩ : ∃ x, cut / 8 % 2048 = x := ⟨_, rfl⟩
      have hx2 : 0 ≤ x ∧ x ≤ 1048576 := by omega
      rw [hx] at hcx
      have HCP := Lib.hid (p_cut HR9.out x hx2)
      clear hx HR9 hc1
      go_upto_region 13 with (go_at_call 54; refine HCP.out.mono ?_; rintro e w10 ⟨rfl, hR10⟩)
      have HCD := Lib.hid (d_cut hR10 x hx2)
      clear hR10 HCP
      go_upto_region 14 with (go_at_call 55; refine HCD.out.mono ?_; rintro e w11 ⟨rfl, hR11⟩)
      have HR11 := Lib.hid hR11
      clear hR11 HCD hcx hcu
      generalize m2.cut x = m3 at *
      have HWP := Lib.hid (p_fetchAll HR11.out at_ many (by decide))
      obtain ⟨⟨m4, x4, e4⟩, h4⟩ : ∃ r, m3.fetch at_ many = r := ⟨_, rfl⟩
      rw [h4] at HWP
      clear HR11
      go_upto_region 15 with (go_at_call 51; refine HWP.out.mono ?_; rintro e w12 ⟨rfl, hR12⟩)
      have hwd := d_fetchAll hR12.commQ at_ many (by decide)
      rw [h4] at hwd
      have HWD := Lib.hid hwd
      clear hR12 HWP hwd h4
      go_upto_region 16 with (go_at_call 56; refine HWD.out.mono ?_; rintro e w13 ⟨rfl, hR13⟩)
      have HU13 := Lib.hid hR13.upd
      have HCK := Lib.hid (p_clocks hR13.commQ)
      have HLO := Lib.hid (p_lost hR13.commQ)
      have HCE := Lib.hid (d_cells hR13.commQ)
      obtain ⟨c6, c9⟩ := HCE.out w13 (Upd.refl none' w13)
      generalize m4.K.clocks = q at *
      generalize m4.K.lost = lo at *
      generalize textB x4 = T at *
      clear hR13 HWD
      go_region_held3 (fun w' => w'.cell? ⟨k2, 6, none⟩ = some (.int .i64 q) ∧ w'.cell? ⟨k2, 9, none⟩ = some (.bool lo)) (first | exact ⟨c6, c9⟩ | exact ⟨f6, f9⟩) (first | (go_at_call 47; refine (awake16 _).mono ?_; rintro e w15 ⟨rfl, hU15⟩; have HU15 := Lib.hid ((Upd.refl none' w13).drew.trans hU15 (fun _ _ f => f)); obtain ⟨f6, f9⟩ := HCE.out _ HU15.out) | (go_at_call 58; refine (HLO.out _ (Upd.refl none' w13).drew).mono ?_; rintro e w' ⟨rfl, rfl⟩) | (go_at_call 57; refine (HCK.out _ (Upd.refl none' w13).drew).mono ?_; rintro e w' ⟨rfl, rfl⟩) | (go_at_call 16; refine (num_any _ _).mono ?_; rintro e w' ⟨rfl, rfl⟩))
      go_wp2
      go_ret
      exact ⟨rfl, HU13.out.trans HU15.out (fun _ _ f => f)⟩
    · obtain ⟨y, hy⟩ : ∃ y, cut % 8 = y := ⟨_, rfl⟩
      rw [hy] at hcu hc1
      have hcb : (y == 7) = false := by simpa using hc1
      have HR11 := HR9
      clear hc1 HR9 hy
      go_upto_region 14 with fail
      clear hcu hcb
      obtain ⟨w11, hw11⟩ : ∃ w11, w9 = w11 := ⟨_, rfl⟩
      rw [hw11] at HR11 ⊢
      obtain ⟨m3, hm3⟩ : ∃ m3, m2 = m3 := ⟨_, rfl⟩
      rw [hm3] at HR11
      have HWP := Lib.hid (p_fetchAll HR11.out at_ many (by decide))
      obtain ⟨⟨m4, x4, e4⟩, h4⟩ : ∃ r, m3.fetch at_ many = r := ⟨_, rfl⟩
      rw [h4] at HWP
      clear HR11
      go_upto_region 15 with (go_at_call 51; refine HWP.out.mono ?_; rintro e w12 ⟨rfl, hR12⟩)
      have hwd := d_fetchAll hR12.commQ at_ many (by decide)
      rw [h4] at hwd
      have HWD := Lib.hid hwd
      clear hR12 HWP hwd h4
      go_upto_region 16 with (go_at_call 56; refine HWD.out.mono ?_; rintro e w13 ⟨rfl, hR13⟩)
      have HU13 := Lib.hid hR13.upd
      have HCK := Lib.hid (p_clocks hR13.commQ)
      have HLO := Lib.hid (p_lost hR13.commQ)
      have HCE := Lib.hid (d_cells hR13.commQ)
      obtain ⟨c6, c9⟩ := HCE.out w13 (Upd.refl none' w13)
      generalize m4.K.clocks = q at *
      generalize m4.K.lost = lo at *
      generalize textB x4 = T at *
      clear hR13 HWD
      go_region_held3 (fun w' => w'.cell? ⟨k2, 6, none⟩ = some (.int .i64 q) ∧ w'.cell? ⟨k2, 9, none⟩ = some (.bool lo)) (first | exact ⟨c6, c9⟩ | exact ⟨f6, f9⟩) (first | (go_at_call 47; refine (awake16 _).mono ?_; rintro e w15 ⟨rfl, hU15⟩; have HU15 := Lib.hid ((Upd.refl none' w13).drew.trans hU15 (fun _ _ f => f)); obtain ⟨f6, f9⟩ := HCE.out _ HU15.out) | (go_at_call 58; refine (HLO.out _ (Upd.refl none' w13).drew).mono ?_; rintro e w' ⟨rfl, rfl⟩) | (go_at_call 57; refine (HCK.out _ (Upd.refl none' w13).drew).mono ?_; rintro e w' ⟨rfl, rfl⟩) | (go_at_call 16; refine (num_any _ _).mono ?_; rintro e w' ⟨rfl, rfl⟩))
      go_wp2
      go_ret
      exact ⟨rfl, HU13.out.trans HU15.out (fun _ _ f => f)⟩
  | true =>
    obtain ⟨⟨m1, e1, o1⟩, h1⟩ : ∃ r, m0.go 6 0 [] 0 = r := ⟨_, rfl⟩
    obtain ⟨⟨m2, e2, o2⟩, h2⟩ : ∃ r, m1.go 1 0 [0, 2] 0 = r := ⟨_, rfl⟩
    have HE := Lib.hid (p_go HR3.out.nilrow 6 (by decide) (by decide) 0 none 0 [] List.mem_cons_self 0 (by kernel_rfl) 8 (by rw [show phsMany (cmdPhs (opOf 6) 0 [] 0) = 8 from by kernel_rfl]; decide) (by decide) m1 e1 o1 h1)
    go_upto_region 8 with (go_at_call 50; refine HE.out.mono ?_; rintro e w4 ⟨oa4, oc4, rfl, hR4⟩)
    have HG := Lib.hid (p_go (show Ctx _ _ w (w4.alloc (.cells #[.int .i64 0, .int .i64 2] 3)) [(.slice none 0 0, ints []), (.slice (some ⟨w4.heap.size, 0, none⟩) 2 2, ints [0, 2])] from ((hR4.sub (rows' := []) (fun r hr => by simp at hr)).lit (ints [0, 2]) 3 2 rfl (by decide)).nilrow) 1 (by decide) (by decide) 0 (some ⟨w4.heap.size, 0, none⟩) 2 [0, 2] (by simp) 0 (by kernel_rfl) 24 (by rw [show phsMany (cmdPhs (opOf 1) 0 [0, 2] 0) = 24 from by kernel_rfl]; decide) (by decide) m2 e2 o2 h2)
    clear hR4 HE HR3
    go_upto_region 9 with (go_at_call 50; refine HG.out.mono ?_; rintro e w5 ⟨oa5, oc5, rfl, hR5⟩)
    have HF := Lib.hid (d_go ((hR5.commQ.sub (rows' := []) (fun r hr => by simp at hr)).nilrow) 6 (by decide) (by decide) 0 none 0 [] List.mem_cons_self 0 (by kernel_rfl) 8 (by rw [show phsMany (cmdPhs (opOf 6) 0 [] 0) = 8 from by kernel_rfl]; decide) (by decide) m1 e1 o1 h1)
    clear hR5 HG
    go_upto_region 10 with (go_at_call 53; refine HF.out.mono ?_; rintro e w6 ⟨oa6, oc6, rfl, hR6⟩)
    have HH := Lib.hid (d_go (show Ctx _ _ w (w6.alloc (.cells #[.int .i64 0, .int .i64 2] 3)) [(.slice none 0 0, ints []), (.slice (some ⟨w6.heap.size, 0, none⟩) 2 2, ints [0, 2])] from ((hR6.sub (rows' := []) (fun r hr => by simp at hr)).lit (ints [0, 2]) 3 2 rfl (by decide)).nilrow) 1 (by decide) (by decide) 0 (some ⟨w6.heap.size, 0, none⟩) 2 [0, 2] (by simp) 0 (by kernel_rfl) 24 (by rw [show phsMany (cmdPhs (opOf 1) 0 [0, 2] 0) = 24 from by kernel_rfl]; decide) (by decide) m2 e2 o2 h2)
    clear hR6 HF h1
    go_upto_region 11 with (go_at_call 53; refine HH.out.mono ?_; rintro e w9 ⟨oa9, oc9, rfl, hR9⟩)
    have HR9 := Lib.hid (hR9.commQ.sub (rows' := []) (fun r hr => by simp at hr))
    clear hR9 HH h2
    have hcu := i64_and7 cut
    by_cases hc1 : cut % 8 = 7
    · rw [hc1] at hcu
      have hcx := i64_and2047 (cut / 8)
      obtain ⟨x, hx⟩ : ∃ x, cut / 8 % 2048 = x := ⟨_, rfl⟩
      have hx2 : 0 ≤ x ∧ x ≤ 1048576 := by omega
      rw [hx] at hcx
      have HCP := Lib.hid (p_cut HR9.out x hx2)
      clear hx HR9 hc1
      go_upto_region 13 with (go_at_call 54; refine HCP.out.mono ?_; rintro e w10 ⟨rfl, hR10⟩)
      have HCD := Lib.hid (d_cut hR10 x hx2)
      clear hR10 HCP
      go_upto_region 14 with (go_at_call 55; refine HCD.out.mono ?_; rintro e w11 ⟨rfl, hR11⟩)
      have HR11 := Lib.hid hR11
      clear hR11 HCD hcx hcu
      generalize m2.cut x = m3 at *
      have HWP := Lib.hid (p_fetchAll HR11.out at_ many (by decide))
      obtain ⟨⟨m4, x4, e4⟩, h4⟩ : ∃ r, m3.fetch at_ many = r := ⟨_, rfl⟩
      rw [h4] at HWP
      clear HR11
      go_upto_region 15 with (go_at_call 51; refine HWP.out.mono ?_; rintro e w12 ⟨rfl, hR12⟩)
      have hwd := d_fetchAll hR12.commQ at_ many (by decide)
      rw [h4] at hwd
      have HWD := Lib.hid hwd
      clear hR12 HWP hwd h4
      go_upto_region 16 with (go_at_call 56; refine HWD.out.mono ?_; rintro e w13 ⟨rfl, hR13⟩)
      have HU13 := Lib.hid hR13.upd
      have HCK := Lib.hid (p_clocks hR13.commQ)
      have HLO := Lib.hid (p_lost hR13.commQ)
      have HCE := Lib.hid (d_cells hR13.commQ)
      obtain ⟨c6, c9⟩ := HCE.out w13 (Upd.refl none' w13)
      generalize m4.K.clocks = q at *
      generalize m4.K.lost = lo at *
      generalize textB x4 = T at *
      clear hR13 HWD
      go_region_held3 (fun w' => w'.cell? ⟨k2, 6, none⟩ = some (.int .i64 q) ∧ w'.cell? ⟨k2, 9, none⟩ = some (.bool lo)) (first | exact ⟨c6, c9⟩ | exact ⟨f6, f9⟩) (first | (go_at_call 47; refine (awake16 _).mono ?_; rintro e w15 ⟨rfl, hU15⟩; have HU15 := Lib.hid ((Upd.refl none' w13).drew.trans hU15 (fun _ _ f => f)); obtain ⟨f6, f9⟩ := HCE.out _ HU15.out) | (go_at_call 58; refine (HLO.out _ (Upd.refl none' w13).drew).mono ?_; rintro e w' ⟨rfl, rfl⟩) | (go_at_call 57; refine (HCK.out _ (Upd.refl none' w13).drew).mono ?_; rintro e w' ⟨rfl, rfl⟩) | (go_at_call 16; refine (num_any _ _).mono ?_; rintro e w' ⟨rfl, rfl⟩))
      go_wp2
      go_ret
      exact ⟨rfl, HU13.out.trans HU15.out (fun _ _ f => f)⟩
    · obtain ⟨y, hy⟩ : ∃ y, cut % 8 = y := ⟨_, rfl⟩
      rw [hy] at hcu hc1
      have hcb : (y == 7) = false := by simpa using hc1
      have HR11 := HR9
      clear hc1 HR9 hy
      go_upto_region 14 with fail
      clear hcu hcb
      obtain ⟨w11, hw11⟩ : ∃ w11, w9 = w11 := ⟨_, rfl⟩
      rw [hw11] at HR11 ⊢
      obtain ⟨m3, hm3⟩ : ∃ m3, m2 = m3 := ⟨_, rfl⟩
      rw [hm3] at HR11
      have HWP := Lib.hid (p_fetchAll HR11.out at_ many (by decide))
      obtain ⟨⟨m4, x4, e4⟩, h4⟩ : ∃ r, m3.fetch at_ many = r := ⟨_, rfl⟩
      rw [h4] at HWP
      clear HR11
      go_upto_region 15 with (go_at_call 51; refine HWP.out.mono ?_; rintro e w12 ⟨rfl, hR12⟩)
      have hwd := d_fetchAll hR12.commQ at_ many (by decide)
      rw [h4] at hwd
      have HWD := Lib.hid hwd
      clear hR12 HWP hwd h4
      go_upto_region 16 with (go_at_call 56; refine HWD.out.mono ?_; rintro e w13 ⟨rfl, hR13⟩)
      have HU13 := Lib.hid hR13.upd
      have HCK := Lib.hid (p_clocks hR13.commQ)
      have HLO := Lib.hid (p_lost hR13.commQ)
      have HCE := Lib.hid (d_cells hR13.commQ)
      obtain ⟨c6, c9⟩ := HCE.out w13 (Upd.refl none' w13)
      generalize m4.K.clocks = q at *
      generalize m4.K.lost = lo at *
      generalize textB x4 = T at *
      clear hR13 HWD
      go_region_held3 (fun w' => w'.cell? ⟨k2, 6, none⟩ = some (.int .i64 q) ∧ w'.cell? ⟨k2, 9, none⟩ = some (.bool lo)) (first | exact ⟨c6, c9⟩ | exact ⟨f6, f9⟩) (first | (go_at_call 47; refine (awake16 _).mono ?_; rintro e w15 ⟨rfl, hU15⟩; have HU15 := Lib.hid ((Upd.refl none' w13).drew.trans hU15 (fun _ _ f => f)); obtain ⟨f6, f9⟩ := HCE.out _ HU15.out) | (go_at_call 58; refine (HLO.out _ (Upd.refl none' w13).drew).mono ?_; rintro e w' ⟨rfl, rfl⟩) | (go_at_call 57; refine (HCK.out _ (Upd.refl none' w13).drew).mono ?_; rintro e w' ⟨rfl, rfl⟩) | (go_at_call 16; refine (num_any _ _).mono ?_; rintro e w' ⟨rfl, rfl⟩))
      go_wp2
      go_ret
      exact ⟨rfl, HU13.out.trans HU15.out (fun _ _ f => f)⟩
end Go.Proofs.YteombggfmeilaaaGreat
