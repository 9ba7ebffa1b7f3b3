/- lichenlaw15.ProbeGone. -/
import Derived.Test.YtkjdhkpkcepilaaGreatAwake15
import Derived.Test.YtkjdhkpkcepilaaGreatCtlL
namespace Go.Proofs.YtkjdhkpkcepilaaGreat
open Go.RowKit
theorem cutd (X : Drv × Bool) (h : X.2 = false) (n : Int) (h1 : X.1.clocks = n) (h2 : X.1.s.first = 0) (h3 : X.1.s.second = 0) : ∃ d, X = (d, false) ∧ d.clocks = n ∧ d.s.first = 0 ∧ d.s.second = 0 := ⟨X.1, Prod.ext rfl h, h1, h2, h3⟩
set_option maxRecDepth 100000 in
set_option maxHeartbeats 4000000 in
/-- The chip's number, cut. -/
theorem cut_id {c : Cor} {t : St} (h : At c t) (hg : c.goes = false) (hj : c.job = none) (he : c.en = false) (hp : c.prot = false) (hq : c.quad = false) (j : Nat) (hj2 : j < 32) :
    ∃ d : Drv, Drv.phases ⟨t.select, [], 0, (j : Int)⟩ (cmdPhs (opOf 159) 0 [] 3) = (d, false) ∧ d.clocks = (j : Int) ∧ d.s.first = 0 ∧ d.s.second = 0 := by
  have htg := h.goes.trans hg
  have htj := h.job.trans hj
  have hte := h.en.trans he
  have htp := h.prot.trans hp
  have htq := h.quad.trans hq
  clear h hg hj he hp hq
  obtain ⟨a, prot, quad, wipes, tabled, sel, en, goes, job, busy, op, stage, left, got, addr, mode, moded, data, told, now, beyond⟩ := t
  change goes = false at htg
  change job = none at htj
  change en = false at hte
  change prot = false at htp
  change quad = false at htq
  subst htg
  subst htj
  subst hte
  subst htp
  subst htq
  rcases (show j = 0 ∨ j = 1 ∨ j = 2 ∨ j = 3 ∨ j = 4 ∨ j = 5 ∨ j = 6 ∨ j = 7 ∨ j = 8 ∨ j = 9 ∨ j = 10 ∨ j = 11 ∨ j = 12 ∨ j = 13 ∨ j = 14 ∨ j = 15 ∨ j = 16 ∨ j = 17 ∨ j = 18 ∨ j = 19 ∨ j = 20 ∨ j = 21 ∨ j = 22 ∨ j = 23 ∨ j = 24 ∨ j = 25 ∨ j = 26 ∨ j = 27 ∨ j = 28 ∨ j = 29 ∨ j = 30 ∨ j = 31 by omega) with rfl | rfl | rfl | rfl | rfl | rfl | rfl | rfl | rfl | rfl | rfl | rfl | rfl | rfl | rfl | rfl | rfl | rfl | rfl | rfl | rfl | rfl | rfl | rfl | rfl | rfl | rfl | rfl | rfl | rfl | rfl | rfl
  all_goals exact cutd _ (by kernel_rfl) _ (by kernel_rfl) (by kernel_rfl) (by kernel_rfl)
theorem probe_gone (k : Nat) (w : World) (X : World → Prop) (hX : ∀ w1 w2, X w1 → Upd none' w1 w2 → X w2) (h0 : X w) (hrun : ∀ w1, X w1 → Calls Tryz.prog 36 #[.pointer (some ⟨k, 0, none⟩), .int .i64 159, .int .i64 0, .slice none 0 0, .int .i64 3] w1 fun e w' => e = .returned (.tuple #[.slice none 0 0, .int .i64 1101]) ∧ X w') :
    Calls Tryz.prog 37 #[.pointer (some ⟨k, 0, none⟩)] w fun e w' => e = .returned (.tuple #[.int .i64 0, .int .i64 0, .int .i64 0, .int .i64 1101]) ∧ X w' := by
  have HR := Lib.hid hrun
  have HX := Lib.hid hX
  have H0 := Lib.hid h0
  clear hrun hX h0
  go_enter Tryz.func37, Tryz.ntmps37
  go_wp2_with (first | (go_at_call 36; refine (HR.out _ (HX.out _ _ H0.out hU1)).mono ?_; rintro e w2 ⟨rfl, hR2⟩) | (go_at_call 68; refine (probe_id _).mono ?_; rintro e w1 ⟨rfl, hrs1, hU1⟩))
  refine bodyPost_ret (results_tmp4 rfl _ _ _) rfl ?_
  exact ⟨rfl, hR2⟩
theorem probe_gone2 (k : Nat) (w : World) (X Y : World → Prop) (h0 : X w) (hX : ∀ w1 w2, X w1 → Upd none' w1 w2 → X w2) (hrun : ∀ w1, X w1 → Calls Tryz.prog 36 #[.pointer (some ⟨k, 0, none⟩), .int .i64 159, .int .i64 0, .slice none 0 0, .int .i64 3] w1 fun e w' => e = .returned (.tuple #[.slice none 0 0, .int .i64 1101]) ∧ Y w') :
    Calls Tryz.prog 37 #[.pointer (some ⟨k, 0, none⟩)] w fun e w' => e = .returned (.tuple #[.int .i64 0, .int .i64 0, .int .i64 0, .int .i64 1101]) ∧ Y w' := by
  have HR := Lib.hid hrun
  have HX := Lib.hid hX
  have H0 := Lib.hid h0
  clear hrun hX h0
  go_enter Tryz.func37, Tryz.ntmps37
  go_wp2_with (first | (go_at_call 36; refine (HR.out _ (HX.out _ _ H0.out hU1)).mono ?_; rintro e w2 ⟨rfl, hR2⟩) | (go_at_call 68; refine (probe_id _).mono ?_; rintro e w1 ⟨rfl, hrs1, hU1⟩))
  refine bodyPost_ret (results_tmp4 rfl _ _ _) rfl ?_
  exact ⟨rfl, hR2⟩
theorem sets_gone (k : Nat) (a b c d : Int) (w : World) (hrun : Calls Tryz.prog 36 #[.pointer (some ⟨k, 0, none⟩), .int .i64 a, .int .i64 0, .slice none 0 0, .int .i64 1] w fun e w' => e = .returned (.tuple #[.slice none 0 0, .int .i64 1101]) ∧ w = w') :
    Calls Tryz.prog 72 #[.pointer (some ⟨k, 0, none⟩), .int .i64 a, .int .i64 b, .int .i64 c, .int .i64 d] w fun e w' => e = .returned (.int .i64 1101) ∧ w = w' := by
  have hst : Calls Tryz.prog 106 #[.pointer (some ⟨k, 0, none⟩), .int .i64 a] w fun e w' => e = .returned (.tuple #[.int .i64 0, .int .i64 1101]) ∧ w = w' := by
    have HR := Lib.hid hrun
    clear hrun
    go_enter Tryz.func106, Tryz.ntmps106
    go_wp2_with (go_at_call 36; refine HR.out.mono ?_; rintro e w2 ⟨rfl, rfl⟩)
    go_ret2
    exact ⟨rfl, rfl⟩
  have HS := Lib.hid hst
  clear hst hrun
  go_enter Tryz.func72, Tryz.ntmps72
  go_wp2_with (go_at_call 106; refine HS.out.mono ?_; rintro e w2 ⟨rfl, rfl⟩)
  go_ret
  exact ⟨rfl, rfl⟩
theorem quad_gone (k : Nat) (w : World) (hrun : ∀ a, Calls Tryz.prog 36 #[.pointer (some ⟨k, 0, none⟩), .int .i64 a, .int .i64 0, .slice none 0 0, .int .i64 1] w fun e w' => e = .returned (.tuple #[.slice none 0 0, .int .i64 1101]) ∧ w = w') :
    Calls Tryz.prog 38 #[.pointer (some ⟨k, 0, none⟩)] w fun e w' => e = .returned (.int .i64 1101) ∧ w = w' := by
  have HS := Lib.hid (sets_gone k 53 2 5 4 w (hrun 53))
  clear hrun
  go_enter Tryz.func38, Tryz.ntmps38
  go_wp2_with (go_at_call 72; refine HS.out.mono ?_; rintro e w2 ⟨rfl, rfl⟩)
  go_ret
  exact ⟨rfl, rfl⟩
theorem protect_gone (k : Nat) (w : World) (hrun : ∀ a, Calls Tryz.prog 36 #[.pointer (some ⟨k, 0, none⟩), .int .i64 a, .int .i64 0, .slice none 0 0, .int .i64 1] w fun e w' => e = .returned (.tuple #[.slice none 0 0, .int .i64 1101]) ∧ w = w') :
    Calls Tryz.prog 39 #[.pointer (some ⟨k, 0, none⟩)] w fun e w' => e = .returned (.int .i64 1101) ∧ w = w' := by
  have HS := Lib.hid (sets_gone k 5 4 53 2 w (hrun 5))
  clear hrun
  go_enter Tryz.func39, Tryz.ntmps39
  go_wp2_with (go_at_call 72; refine HS.out.mono ?_; rintro e w2 ⟨rfl, rfl⟩)
  go_ret
  exact ⟨rfl, rfl⟩
set_option maxRecDepth 100000 in
set_option maxHeartbeats 8000000 in
theorem lawProbeGone (w : World) (cut : Int) (_ : (Lit.int .i64 cut).wf = true) :
    Calls Tryz.prog 16 #[.int .i64 cut] w fun e w' => e = .returned (.bool true) ∧ Upd none' w w' := by
  have hand := i64_and31 cut
  obtain ⟨j, hjm⟩ : ∃ j : Nat, cut % 32 = (j : Int) := ⟨(cut % 32).toNat, by omega⟩
  have hj : j < 32 := by omega
  rw [hjm] at hand
  obtain ⟨fa, hfa⟩ : ∃ fa : ByteArray, (⟨(freshL ⟨#[97]⟩).toArray⟩ : ByteArray) = fa := ⟨_, rfl⟩
  have HFA := Lib.hid hfa
  clear hfa hjm
  go_enter Tryz.func16, Tryz.ntmps16
  go_upto_region 4 with (first | (go_at_call 34; refine (awake15 _).mono ?_; rintro e w0 ⟨rfl, hU1⟩) | (go_at_call 35; refine (c_twins15 hU1 _ (by decide) fa HFA.out).mono ?_; rintro e w1 ⟨b, r, rfl, hC1⟩))
  have HN := Lib.hid (c_ctlnew hC1)
  clear hC1
  go_upto_region 7 with (first | (go_at_call 28; refine HN.out.mono ?_; rintro e w2 ⟨kk, fo, fi, rfl, hC2⟩) | (go_at_call 25; refine (num_any _ _).mono ?_; rintro e w' ⟨rfl, rfl⟩))
  have HCT := Lib.hid (c_cut Own.emp_ok hC2 (j : Int) (by omega))
  clear hC2 HN
  go_upto_region 8 with (go_at_call 32; refine HCT.out.mono ?_; rintro e w3 ⟨rfl, hC3⟩)
  obtain ⟨d, hd, hdc, hd1, hd2⟩ := cut_id (at_new fa) rfl rfl rfl rfl rfl j hj
  have hdn : ∀ w1, Upd none' w3 w1 → Ctx (ChipP b (St.new fa) 0) ((CtlC kk b fo fi { KS.new with left := (j : Int) }).star .emp) w w1 [] := fun w1 u => hC3.frame u
  have hrun : ∀ w1, Ctx (ChipP b (St.new fa) 0) ((CtlC kk b fo fi { KS.new with left := (j : Int) }).star .emp) w w1 [] → Calls Tryz.prog 36 #[.pointer (some ⟨kk, 0, none⟩), .int .i64 159, .int .i64 0, .slice none 0 0, .int .i64 3] w1 fun e w' => e = .returned (.tuple #[.slice none 0 0, .int .i64 1101]) ∧ Ctx (ChipP b d.s (0 + d.clocks + 1)) ((CtlC kk b fo fi (KS.driven { KS.new with left := (j : Int) } d).gone).star .emp) w w' [] := fun w1 h => by
    refine (c_run_cut Own.emp_ok h.nilrow (by decide) rfl (by dsimp only; omega) (show (0 : Int) ≤ 0 ∧ (0 : Int) ≤ 1048576 by decide) rfl rfl 159 (by decide) (by decide) 0 none 0 [] List.mem_cons_self 3 (by kernel_rfl) (by rw [show phsMany (cmdPhs (opOf 159) 0 [] 3) = 32 from by kernel_rfl]; decide) d hd).mono ?_
    rintro e w' ⟨rfl, h2⟩
    exact ⟨rfl, h2.tl⟩
  have hpg := probe_gone2 kk w3 _ _ hC3 (fun w1 w2 h u => h.frame u) hrun
  have HPG := Lib.hid hpg
  have HD := Lib.hid (And.intro hdc (And.intro hd1 hd2))
  clear hpg hrun hdn hC3 hd hdc hd1 hd2 HCT
  go_upto_region 9 with (go_at_call 37; refine HPG.out.mono ?_; rintro e w4 ⟨rfl, hC4⟩)
  have hck := k_clocks hC4
  rw [show ((KS.driven { KS.new with left := (j : Int) } d).gone).clocks = (j : Int) from by show 0 + d.clocks = _; rw [HD.out.1]; omega] at hck
  have HCK := Lib.hid hck
  have HRL := Lib.hid (fun w1 (u : Upd none' w4 w1) c r => c_run_lost (hC4.frame u) rfl c 0 r (.slice none 0 0))
  have hpg2 := probe_gone kk w4 (fun w1 => Upd none' w4 w1) (fun w1 w2 h u => h.trans u (fun _ _ f => f)) (Upd.refl _ _) (fun w1 u => (HRL.out w1 u 159 3).mono (by rintro e w' ⟨rfl, rfl⟩; exact ⟨rfl, u⟩))
  have HPG2 := Lib.hid hpg2
  have HC4 := Lib.hid hC4
  clear hck hpg2 hC4 HPG
  go_upto_region 10 with (go_at_call 31; refine HCK.out.mono ?_; rintro e w5 ⟨rfl, rfl⟩)
  go_upto_region 11 with (go_at_call 37; refine HPG2.out.mono ?_; rintro e w5 ⟨rfl, hU5⟩)
  have HQ := Lib.hid (quad_gone kk w5 (fun a => HRL.out w5 hU5 a 1))
  have HP := Lib.hid (protect_gone kk w5 (fun a => HRL.out w5 hU5 a 1))
  have hC5 := HC4.out.frame hU5
  have HS := Lib.hid (c_status hC5 0 0 HD.out.2.1 HD.out.2.2)
  clear HRL HPG2 HC4 HCK hU5
  go_upto_region 12 with (first | (go_at_call 38; refine HQ.out.mono ?_; rintro e w6 ⟨rfl, rfl⟩) | (go_at_call 39; refine HP.out.mono ?_; rintro e w6 ⟨rfl, rfl⟩))
  clear hC5
  go_upto_region 13 with (go_at_call 40; refine HS.out.mono ?_; rintro e w6 ⟨rfl, hC6⟩)
  have hck := k_clocks hC6
  rw [show ((KS.driven { KS.new with left := (j : Int) } d).gone).clocks = (j : Int) from by show 0 + d.clocks = _; rw [HD.out.1]; omega] at hck
  have HCK := Lib.hid hck
  have HU := Lib.hid hC6.upd
  clear hC6 hck HS HQ HP
  go_wp2_with (first | (go_at_call 25; refine (num_any _ _).mono ?_; rintro e w' ⟨rfl, rfl⟩) | (go_at_call 31; refine HCK.out.mono ?_; rintro e w7 ⟨rfl, rfl⟩))
  go_ret
  exact ⟨rfl, HU.out⟩
end Go.Proofs.YtkjdhkpkcepilaaGreat
