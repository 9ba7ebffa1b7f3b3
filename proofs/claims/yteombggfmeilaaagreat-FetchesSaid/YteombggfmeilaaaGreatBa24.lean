/- LawWaits RowKit -/
import Derived.Test.YteombggfmeilaaaGreatBa14
import Derived.Test.YteombggfmeilaaaGreatBa20
import Derived.Test.YteombggfmeilaaaGreatBa23
import Derived.Test.YteombggfmeilaaaGreatBa00
import Derived.IntWalk
import Derived.Test.YteombggfmeilaaaGreatProg
import Derived.OpenShut
import Derived.ShutString
import Derived.ChangeOld
import Derived.SizedLaws
/- LawWaits. -/
namespace Go.Proofs.YteombggfmeilaaaGreat
open Go.RowKit
theorem c_twinsR14 {w0 w : World} (h : Upd none' w0 w) (s : ByteArray) (hs : s.size ≤ 9223372036854775807) (fa : ByteArray) (hfa : (⟨(freshL s).toArray⟩ : ByteArray) = fa) :
    Calls Tryz.prog 59 #[.string s] w fun e w' => ∃ b r, e = .returned (.tuple #[.pointer (some ⟨b, 0, none⟩), .pointer (some ⟨r, 0, none⟩)]) ∧ Ctx (ChipP b (St.new fa) 0) (RefP r (St.new fa) 0) w0 w' [] := by
  refine (twins14 s w hs).mono ?_
  rintro e w' ⟨b, S, r, v, rfl, hA, hS, hR, hr, hv, hU⟩
  rw [hfa] at hA hR
  have hsz : fa.size = 4096 := by rw [← hfa]; simpa [ByteArray.size] using freshL_len s
  exact ⟨b, r, rfl, pair_ctx h hU hsz hA hS hR hr hv⟩
set_option maxRecDepth 100000 in
set_option maxHeartbeats 8000000 in
theorem lawWaits (w : World) (duration : Int) (_ : (Lit.int .i64 duration).wf = true) (most : Int) (_ : (Lit.int .i64 most).wf = true) (erase : Bool) (cut : Int) (_ : (Lit.int .i64 cut).wf = true) :
    Calls Tryz.prog 8 #[.int .i64 duration, .int .i64 most, .bool erase, .int .i64 cut] w fun e w' => e = .returned (.bool true) ∧ Upd none' w w' := by
  obtain ⟨j, hj, hj4⟩ := uN duration 400 (by decide) (by decide)
  have hj : (IntKind.u64.wrap duration).tmod 400 = (j : Int) := hj
  obtain ⟨d, hd, hd1, hd4⟩ : ∃ d : Nat, (d : Int) = 1 + (j : Int) ∧ 1 ≤ d ∧ d ≤ 400 := ⟨1 + j, by omega, by omega, by omega⟩
  have hwd : IntKind.i64.wrap (1 + (j : Int)) = (d : Int) := by rw [hd]; exact IntWalk.i64_in _ (by omega)
  have hmat := i64_and63 most
  obtain ⟨mo, hmo⟩ : ∃ mo : Nat, most % 64 = (mo : Int) := ⟨(most % 64).toNat, by omega⟩
  have hmo2 : mo < 64 := by omega
  rw [hmo] at hmat
  obtain ⟨fa, hfa⟩ : ∃ fa : ByteArray, (⟨(freshL ⟨#[97, 98]⟩).toArray⟩ : ByteArray) = fa := ⟨_, rfl⟩
  have HFA := Lib.hid hfa
  have HD := Lib.hid (And.intro hd1 hd4)
  clear hfa hd hmo
  go_enter Tryz.func8, Tryz.ntmps8
  go_upto_region 2 with (go_at_call 59; refine (c_twinsR14 (Upd.refl none' w) _ (by decide) fa HFA.out).mono ?_; rintro e w1 ⟨b, r, rfl, hC1⟩)
  have HN := Lib.hid (p_new hC1)
  clear hC1
  go_upto_region 5 with (first | (go_at_call 49; refine HN.out.mono ?_; rintro e w2 ⟨k, fo, fi, rfl, hR2⟩) | (go_at_call 16; refine (num_any _ _).mono ?_; rintro e w' ⟨rfl, rfl⟩))
  have HK := Lib.hid (d_new hR2)
  clear hR2 HN
  go_upto_region 7 with (go_at_call 52; refine HK.out.mono ?_; rintro e w3 ⟨k2, rfl, hR3⟩)
  have HX := Lib.hid (p_next1 hR3 (d : Int) (by have := HD.out; omega))
  clear hR3 HK
  go_upto_region 8 with (go_at_call 24; refine HX.out.mono ?_; rintro e w4 ⟨rfl, hR4⟩)
  have HY := Lib.hid (d_next1 hR4 (d : Int) (by have := HD.out; omega))
  clear hR4 HX
  go_upto_region 9 with (go_at_call 25; refine HY.out.mono ?_; rintro e w5 ⟨rfl, hR5⟩)
  have HR5 := Lib.hid (show Ctx _ _ w (w5.alloc (.cells #[.int .i64 1, .int .i64 2, .int .i64 3] 3)) [(.slice none 0 0, ints []), (.slice (some ⟨w5.heap.size, 0, none⟩) 3 3, ints [1, 2, 3])] from (hR5.lit (ints [1, 2, 3]) 3 3 rfl (by decide)).nilrow)
  clear hR5 HY hj hwd HFA
  obtain ⟨m0, hm0⟩ : ∃ m0 : Mac, (Mac.mk (St.new fa) KS.new).next [(d : Int)] = m0 := ⟨_, rfl⟩
  rw [hm0] at HR5
  obtain ⟨⟨m1, e1, o1⟩, h1⟩ : ∃ r, m0.go 6 0 [] 0 = r := ⟨_, rfl⟩
  have HE := Lib.hid (p_go HR5.out 6 (by decide) (by decide) 0 none 0 [] List.mem_cons_self 0 (by kernel_rfl) 8 (by rw [show phsMany (cmdPhs (opOf 6) 0 [] 0) = 8 from by kernel_rfl]; decide) (by decide) m1 e1 o1 h1)
  go_upto_region 10 with fail
  obtain ⟨gx, hgx⟩ : ∃ gx, w5.heap.size = gx := ⟨_, rfl⟩
  rw [hgx] at HE ⊢
  clear hm0 HR5
  cases erase with
  | false =>
    go_upto_region 14 with (go_at_call 50; refine HE.out.mono ?_; rintro e w6 ⟨oa6, oc6, rfl, hR6⟩)
    have HF := Lib.hid (d_go (hR6.commQ.sub (rows' := [(.slice none 0 0, ints []), (.slice (some ⟨gx, 0, none⟩) 3 3, ints [1, 2, 3])]) (fun r hr => List.mem_cons_of_mem _ hr)) 6 (by decide) (by decide) 0 none 0 [] List.mem_cons_self 0 (by kernel_rfl) 8 (by rw [show phsMany (cmdPhs (opOf 6) 0 [] 0) = 8 from by kernel_rfl]; decide) (by decide) m1 e1 o1 h1)
    clear hR6 HE
    go_upto_region 15 with (go_at_call 53; refine HF.out.mono ?_; rintro e w7 ⟨oa7, oc7, rfl, hR7⟩)
    obtain ⟨⟨m2, e2, o2⟩, h2⟩ : ∃ r, m1.go 2 3000 [1, 2, 3] 0 = r := ⟨_, rfl⟩
    have HG := Lib.hid (p_go (hR7.commQ.sub (rows' := [(.slice none 0 0, ints []), (.slice (some ⟨gx, 0, none⟩) 3 3, ints [1, 2, 3])]) (fun r hr => List.mem_cons_of_mem _ hr)) 2 (by decide) (by decide) 3000 (some ⟨gx, 0, none⟩) 3 [1, 2, 3] (by simp) 0 (by kernel_rfl) 56 (by rw [show phsMany (cmdPhs (opOf 2) 3000 [1, 2, 3] 0) = 56 from by kernel_rfl]; decide) (by decide) m2 e2 o2 h2)
    clear hR7 HF h1
    go_upto_region 16 with (go_at_call 50; refine HG.out.mono ?_; rintro e w8 ⟨oa8, oc8, rfl, hR8⟩)
    have HH := Lib.hid (d_go (hR8.commQ.sub (rows' := [(.slice none 0 0, ints []), (.slice (some ⟨gx, 0, none⟩) 3 3, ints [1, 2, 3])]) (fun r hr => List.mem_cons_of_mem _ hr)) 2 (by decide) (by decide) 3000 (some ⟨gx, 0, none⟩) 3 [1, 2, 3] (by simp) 0 (by kernel_rfl) 56 (by rw [show phsMany (cmdPhs (opOf 2) 3000 [1, 2, 3] 0) = 56 from by kernel_rfl]; decide) (by decide) m2 e2 o2 h2)
    clear hR8 HG
    go_upto_region 17 with (go_at_call 53; refine HH.out.mono ?_; rintro e w9 ⟨oa9, oc9, rfl, hR9⟩)
    have HR9 := Lib.hid (hR9.commQ.sub (rows' := []) (fun r hr => by simp at hr))
    clear hR9 HH h2
    have hcu := i64_and1 cut
    by_cases hc1 : cut % 2 = 1
    · rw [hc1] at hcu
      have hcx := i64_and1023 (cut / 2)
      obtain ⟨x, hx⟩ : ∃ x, cut / 2 % 1024 = x := ⟨_, rfl⟩
      have hx2 : 0 ≤ x ∧ x ≤ 1048576 := by omega
      rw [hx] at hcx
      have HCP := Lib.hid (p_cut HR9.out x hx2)
      clear hx HR9 hc1
      go_upto_region 19 with (go_at_call 54; refine HCP.out.mono ?_; rintro e w10 ⟨rfl, hR10⟩)
      have HCD := Lib.hid (d_cut hR10 x hx2)
      clear hR10 HCP
      go_upto_region 21 with (go_at_call 55; refine HCD.out.mono ?_; rintro e w11 ⟨rfl, hR11⟩)
      have HR11 := Lib.hid hR11
      clear hR11 HCD hcx hcu
      generalize m2.cut x = m3 at *
      have HWP := Lib.hid (p_wait HR11.out mo (by omega) (by omega))
      obtain ⟨⟨m4, x4, e4⟩, h4⟩ : ∃ r, m3.waits mo 1 = r := ⟨_, rfl⟩
      rw [h4] at HWP
      clear HR11 hmat
      go_upto_region 22 with (go_at_call 60; refine HWP.out.mono ?_; rintro e w12 ⟨rfl, hR12⟩)
      have hwd := d_wait hR12.commQ mo (by omega) (by omega)
      rw [h4] at hwd
      have HWD := Lib.hid hwd
      clear hR12 HWP hwd h4
      go_upto_region 23 with (go_at_call 61; refine HWD.out.mono ?_; rintro e w13 ⟨rfl, hR13⟩)
      have HU13 := Lib.hid hR13.upd
      have HCK := Lib.hid (p_clocks hR13.commQ)
      have HLO := Lib.hid (p_lost hR13.commQ)
      have HCE := Lib.hid (d_cells hR13.commQ)
      have HAL : Hid (∀ w', Upd none' w13 w' → Calls Tryz.prog 62 #[.pointer (some ⟨b, 0, none⟩), .pointer (some ⟨r, 0, none⟩)] w' fun e w'' => e = .returned (.bool true) ∧ Upd none' w' w'') := Lib.hid (fun w' u => by
        obtain ⟨N, N2, Q, Q2, g1, g2⟩ := both_views hR13.commQ w' u
        exact alike14 g1 g2)
      obtain ⟨c6, c9⟩ := HCE.out w13 (Upd.refl none' w13)
      generalize m4.K.clocks = q at *
      generalize m4.K.lost = lo at *
      clear hR13 HWD
      go_region_held3 (fun w' => w'.cell? ⟨k2, 6, none⟩ = some (.int .i64 q) ∧ w'.cell? ⟨k2, 9, none⟩ = some (.bool lo)) (first | exact ⟨c6, c9⟩ | exact ⟨d6, d9⟩ | exact ⟨f6, f9⟩) (first | (go_at_call 63; refine (awake14 _).mono ?_; rintro e w15 ⟨rfl, hU15⟩; have HU15 := Lib.hid (HU14.out.trans hU15 (fun _ _ f => f)); obtain ⟨f6, f9⟩ := HCE.out _ HU15.out) | (go_at_call 62; refine (HAL.out _ (Upd.refl none' w13).drew).mono ?_; rintro e w14 ⟨rfl, hU14⟩; have HU14 := Lib.hid ((Upd.refl none' w13).drew.trans hU14 (fun _ _ f => f)); obtain ⟨d6, d9⟩ := HCE.out _ HU14.out) | (go_at_call 58; refine (HLO.out _ (Upd.refl none' w13).drew).mono ?_; rintro e w' ⟨rfl, rfl⟩) | (go_at_call 57; refine (HCK.out _ (Upd.refl none' w13).drew).mono ?_; rintro e w' ⟨rfl, rfl⟩) | (go_at_call 16; refine (num_any _ _).mono ?_; rintro e w' ⟨rfl, rfl⟩))
      go_wp2
      go_ret
      exact ⟨rfl, HU13.out.trans HU15.out (fun _ _ f => f)⟩
    · have hc0 : cut % 2 = 0 := by omega
      rw [hc0] at hcu
      have HR11 := HR9
      clear hc1 HR9 hc0
      go_upto_region 21 with fail
      clear hcu
      obtain ⟨w11, hw11⟩ : ∃ w11, w9 = w11 := ⟨_, rfl⟩
      rw [hw11] at HR11 ⊢
      obtain ⟨m3, hm3⟩ : ∃ m3, m2 = m3 := ⟨_, rfl⟩
      rw [hm3] at HR11
      have HWP := Lib.hid (p_wait HR11.out mo (by omega) (by omega))
      obtain ⟨⟨m4, x4, e4⟩, h4⟩ : ∃ r, m3.waits mo 1 = r := ⟨_, rfl⟩
      rw [h4] at HWP
      clear HR11 hmat
      go_upto_region 22 with (go_at_call 60; refine HWP.out.mono ?_; rintro e w12 ⟨rfl, hR12⟩)
      have hwd := d_wait hR12.commQ mo (by omega) (by omega)
      rw [h4] at hwd
      have HWD := Lib.hid hwd
      clear hR12 HWP hwd h4
      go_upto_region 23 with (go_at_call 61; refine HWD.out.mono ?_; rintro e w13 ⟨rfl, hR13⟩)
      have HU13 := Lib.hid hR13.upd
      have HCK := Lib.hid (p_clocks hR13.commQ)
      have HLO := Lib.hid (p_lost hR13.commQ)
      have HCE := Lib.hid (d_cells hR13.commQ)
      have HAL : Hid (∀ w', Upd none' w13 w' → Calls Tryz.prog 62 #[.pointer (some ⟨b, 0, none⟩), .pointer (some ⟨r, 0, none⟩)] w' fun e w'' => e = .returned (.bool true) ∧ Upd none' w' w'') := Lib.hid (fun w' u => by
        obtain ⟨N, N2, Q, Q2, g1, g2⟩ := both_views hR13.commQ w' u
        exact alike14 g1 g2)
      obtain ⟨c6, c9⟩ := HCE.out w13 (Upd.refl none' w13)
      generalize m4.K.clocks = q at *
      generalize m4.K.lost = lo at *
      clear hR13 HWD
      go_region_held3 (fun w' => w'.cell? ⟨k2, 6, none⟩ = some (.int .i64 q) ∧ w'.cell? ⟨k2, 9, none⟩ = some (.bool lo)) (first | exact ⟨c6, c9⟩ | exact ⟨d6, d9⟩ | exact ⟨f6, f9⟩) (first | (go_at_call 63; refine (awake14 _).mono ?_; rintro e w15 ⟨rfl, hU15⟩; have HU15 := Lib.hid (HU14.out.trans hU15 (fun _ _ f => f)); obtain ⟨f6, f9⟩ := HCE.out _ HU15.out) | (go_at_call 62; refine (HAL.out _ (Upd.refl none' w13).drew).mono ?_; rintro e w14 ⟨rfl, hU14⟩; have HU14 := Lib.hid ((Upd.refl none' w13).drew.trans hU14 (fun _ _ f => f)); obtain ⟨d6, d9⟩ := HCE.out _ HU14.out) | (go_at_call 58; refine (HLO.out _ (Upd.refl none' w13).drew).mono ?_; rintro e w' ⟨rfl, rfl⟩) | (go_at_call 57; refine (HCK.out _ (Upd.refl none' w13).drew).mono ?_; rintro e w' ⟨rfl, rfl⟩) | (go_at_call 16; refine (num_any _ _).mono ?_; rintro e w' ⟨rfl, rfl⟩))
      go_wp2
      go_ret
      exact ⟨rfl, HU13.out.trans HU15.out (fun _ _ f => f)⟩
  | true =>
    go_upto_region 14 with (go_at_call 50; refine HE.out.mono ?_; rintro e w6 ⟨oa6, oc6, rfl, hR6⟩)
    have HF := Lib.hid (d_go (hR6.commQ.sub (rows' := [(.slice none 0 0, ints []), (.slice (some ⟨gx, 0, none⟩) 3 3, ints [1, 2, 3])]) (fun r hr => List.mem_cons_of_mem _ hr)) 6 (by decide) (by decide) 0 none 0 [] List.mem_cons_self 0 (by kernel_rfl) 8 (by rw [show phsMany (cmdPhs (opOf 6) 0 [] 0) = 8 from by kernel_rfl]; decide) (by decide) m1 e1 o1 h1)
    clear hR6 HE
    go_upto_region 15 with (go_at_call 53; refine HF.out.mono ?_; rintro e w7 ⟨oa7, oc7, rfl, hR7⟩)
    obtain ⟨⟨m2, e2, o2⟩, h2⟩ : ∃ r, m1.go 32 3000 [] 0 = r := ⟨_, rfl⟩
    have HG := Lib.hid (p_go (hR7.commQ.sub (rows' := [(.slice none 0 0, ints []), (.slice (some ⟨gx, 0, none⟩) 3 3, ints [1, 2, 3])]) (fun r hr => List.mem_cons_of_mem _ hr)) 32 (by decide) (by decide) 3000 none 0 [] (by simp) 0 (by kernel_rfl) 32 (by rw [show phsMany (cmdPhs (opOf 32) 3000 [] 0) = 32 from by kernel_rfl]; decide) (by decide) m2 e2 o2 h2)
    clear hR7 HF h1
    go_upto_region 16 with (go_at_call 50; refine HG.out.mono ?_; rintro e w8 ⟨oa8, oc8, rfl, hR8⟩)
    have HH := Lib.hid (d_go (hR8.commQ.sub (rows' := [(.slice none 0 0, ints []), (.slice (some ⟨gx, 0, none⟩) 3 3, ints [1, 2, 3])]) (fun r hr => List.mem_cons_of_mem _ hr)) 32 (by decide) (by decide) 3000 none 0 [] (by simp) 0 (by kernel_rfl) 32 (by rw [show phsMany (cmdPhs (opOf 32) 3000 [] 0) = 32 from by kernel_rfl]; decide) (by decide) m2 e2 o2 h2)
    clear hR8 HG
    go_upto_region 17 with (go_at_call 53; refine HH.out.mono ?_; rintro e w9 ⟨oa9, oc9, rfl, hR9⟩)
    have HR9 := Lib.hid (hR9.commQ.sub (rows' := []) (fun r hr => by simp at hr))
    clear hR9 HH h2
    have hcu := i64_and1 cut
    by_cases hc1 : cut % 2 = 1
    · rw [hc1] at hcu
      have hcx := i64_and1023 (cut / 2)
      obtain ⟨x, hx⟩ : ∃ x, cut / 2 % 1024 = x := ⟨_, rfl⟩
      have hx2 : 0 ≤ x ∧ x ≤ 1048576 := by omega
      rw [hx] at hcx
      have HCP := Lib.hid (p_cut HR9.out x hx2)
      clear hx HR9 hc1
      go_upto_region 19 with (go_at_call 54; refine HCP.out.mono ?_; rintro e w10 ⟨rfl, hR10⟩)
      have HCD := Lib.hid (d_cut hR10 x hx2)
      clear hR10 HCP
      go_upto_region 21 with (go_at_call 55; refine HCD.out.mono ?_; rintro e w11 ⟨rfl, hR11⟩)
      have HR11 := Lib.hid hR11
      clear hR11 HCD hcx hcu
      generalize m2.cut x = m3 at *
      have HWP := Lib.hid (p_wait HR11.out mo (by omega) (by omega))
      obtain ⟨⟨m4, x4, e4⟩, h4⟩ : ∃ r, m3.waits mo 1 = r := ⟨_, rfl⟩
      rw [h4] at HWP
      clear HR11 hmat
      go_upto_region 22 with (go_at_call 60; refine HWP.out.mono ?_; rintro e w12 ⟨rfl, hR12⟩)
      have hwd := d_wait hR12.commQ mo (by omega) (by omega)
      rw [h4] at hwd
      have HWD := Lib.hid hwd
      clear hR12 HWP hwd h4
      go_upto_region 23 with (go_at_call 61; refine HWD.out.mono ?_; rintro e w13 ⟨rfl, hR13⟩)
      have HU13 := Lib.hid hR13.upd
      have HCK := Lib.hid (p_clocks hR13.commQ)
      have HLO := Lib.hid (p_lost hR13.commQ)
      have HCE := Lib.hid (d_cells hR13.commQ)
      have HAL : Hid (∀ w', Upd none' w13 w' → Calls Tryz.prog 62 #[.pointer (some ⟨b, 0, none⟩), .pointer (some ⟨r, 0, none⟩)] w' fun e w'' => e = .returned (.bool true) ∧ Upd none' w' w'') := Lib.hid (fun w' u => by
        obtain ⟨N, N2, Q, Q2, g1, g2⟩ := both_views hR13.commQ w' u
        exact alike14 g1 g2)
      obtain ⟨c6, c9⟩ := HCE.out w13 (Upd.refl none' w13)
      generalize m4.K.clocks = q at *
      generalize m4.K.lost = lo at *
      clear hR13 HWD
      go_region_held3 (fun w' => w'.cell? ⟨k2, 6, none⟩ = some (.int .i64 q) ∧ w'.cell? ⟨k2, 9, none⟩ = some (.bool lo)) (first | exact ⟨c6, c9⟩ | exact ⟨d6, d9⟩ | exact ⟨f6, f9⟩) (first | (go_at_call 63; refine (awake14 _).mono ?_; rintro e w15 ⟨rfl, hU15⟩; have HU15 := Lib.hid (HU14.out.trans hU15 (fun _ _ f => f)); obtain ⟨f6, f9⟩ := HCE.out _ HU15.out) | (go_at_call 62; refine (HAL.out _ (Upd.refl none' w13).drew).mono ?_; rintro e w14 ⟨rfl, hU14⟩; have HU14 := Lib.hid ((Upd.refl none' w13).drew.trans hU14 (fun _ _ f => f)); obtain ⟨d6, d9⟩ := HCE.out _ HU14.out) | (go_at_call 58; refine (HLO.out _ (Upd.refl none' w13).drew).mono ?_; rintro e w' ⟨rfl, rfl⟩) | (go_at_call 57; refine (HCK.out _ (Upd.refl none' w13).drew).mono ?_; rintro e w' ⟨rfl, rfl⟩) | (go_at_call 16; refine (num_any _ _).mono ?_; rintro e w' ⟨rfl, rfl⟩))
      go_wp2
      go_ret
      exact ⟨rfl, HU13.out.trans HU15.out (fun _ _ f => f)⟩
    · have hc0 : cut % 2 = 0 := by omega
      rw [hc0] at hcu
      have HR11 := HR9
      clear hc1 HR9 hc0
      go_upto_region 21 with fail
      clear hcu
      obtain ⟨w11, hw11⟩ : ∃ w11, w9 = w11 := ⟨_, rfl⟩
      rw [hw11] at HR11 ⊢
      obtain ⟨m3, hm3⟩ : ∃ m3, m2 = m3 := ⟨_, rfl⟩
      rw [hm3] at HR11
      have HWP := Lib.hid (p_wait HR11.out mo (by omega) (by omega))
      obtain ⟨⟨m4, x4, e4⟩, h4⟩ : ∃ r, m3.waits mo 1 = r := ⟨_, rfl⟩
      rw [h4] at HWP
      clear HR11 hmat
      go_upto_region 22 with (go_at_call 60; refine HWP.out.mono ?_; rintro e w12 ⟨rfl, hR12⟩)
      have hwd := d_wait hR12.commQ mo (by omega) (by omega)
      rw [h4] at hwd
      have HWD := Lib.hid hwd
      clear hR12 HWP hwd h4
      go_upto_region 23 with (go_at_call 61; refine HWD.out.mono ?_; rintro e w13 ⟨rfl, hR13⟩)
      have HU13 := Lib.hid hR13.upd
      have HCK := Lib.hid (p_clocks hR13.commQ)
      have HLO := Lib.hid (p_lost hR13.commQ)
      have HCE := Lib.hid (d_cells hR13.commQ)
      have HAL : Hid (∀ w', Upd none' w13 w' → Calls Tryz.prog 62 #[.pointer (some ⟨b, 0, none⟩), .pointer (some ⟨r, 0, none⟩)] w' fun e w'' => e = .returned (.bool true) ∧ Upd none' w' w'') := Lib.hid (fun w' u => by
        obtain ⟨N, N2, Q, Q2, g1, g2⟩ := both_views hR13.commQ w' u
        exact alike14 g1 g2)
      obtain ⟨c6, c9⟩ := HCE.out w13 (Upd.refl none' w13)
      generalize m4.K.clocks = q at *
      generalize m4.K.lost = lo at *
      clear hR13 HWD
      go_region_held3 (fun w' => w'.cell? ⟨k2, 6, none⟩ = some (.int .i64 q) ∧ w'.cell? ⟨k2, 9, none⟩ = some (.bool lo)) (first | exact ⟨c6, c9⟩ | exact ⟨d6, d9⟩ | exact ⟨f6, f9⟩) (first | (go_at_call 63; refine (awake14 _).mono ?_; rintro e w15 ⟨rfl, hU15⟩; have HU15 := Lib.hid (HU14.out.trans hU15 (fun _ _ f => f)); obtain ⟨f6, f9⟩ := HCE.out _ HU15.out) | (go_at_call 62; refine (HAL.out _ (Upd.refl none' w13).drew).mono ?_; rintro e w14 ⟨rfl, hU14⟩; have HU14 := Lib.hid ((Upd.refl none' w13).drew.trans hU14 (fun _ _ f => f)); obtain ⟨d6, d9⟩ := HCE.out _ HU14.out) | (go_at_call 58; refine (HLO.out _ (Upd.refl none' w13).drew).mono ?_; rintro e w' ⟨rfl, rfl⟩) | (go_at_call 57; refine (HCK.out _ (Upd.refl none' w13).drew).mono ?_; rintro e w' ⟨rfl, rfl⟩) | (go_at_call 16; refine (num_any _ _).mono ?_; rintro e w' ⟨rfl, rfl⟩))
      go_wp2
      go_ret
      exact ⟨rfl, HU13.out.trans HU15.out (fun _ _ f => f)⟩
end Go.Proofs.YteombggfmeilaaaGreat
/- RowKit. -/
namespace Go.Proofs.YteombggfmeilaaaGreat
open Go.ChangeShapes Go.WideShapes Go.ChangeAt Go.RowKit
theorem rowOwn : ownKnob Tryz.prog.godebug = none := by kernel_rfl
end Go.Proofs.YteombggfmeilaaaGreat
