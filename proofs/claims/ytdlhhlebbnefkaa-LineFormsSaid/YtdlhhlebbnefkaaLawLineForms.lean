/- LineForms: caches, places, texts that are none: for every two numbers. No condition. -/
import Derived.Test.YtdlhhlebbnefkaaLineF
import Derived.Test.YtdlhhlebbnefkaaAwake12
import Derived.Test.YtdlhhlebbnefkaaBits
import Derived.Deep.CutBlock
namespace Go.Proofs.Ytdlhhlebbnefkaa
open Go.RowKit
theorem forms_d (x : Int) : ∃ d : Int, x % 1024 + 1 = d ∧ IntKind.i64.wrap (1 + x % 1024) = d ∧ 1 ≤ d ∧ d ≤ 1024 := ⟨_, rfl, by rw [Int.add_comm]; exact IntWalk.i64_in _ (by omega), by omega, by omega⟩
theorem forms_may (t : ByteArray) (h : t.size = 16) : mayB [64, -1] [t, ⟨#[]⟩] 1 = true := may_intro (by decide) (by decide) (.inr ⟨by decide, h⟩) (.inl ⟨rfl, rfl⟩) (by decide)
set_option maxRecDepth 100000 in
set_option maxHeartbeats 10000000 in
theorem lawLineForms (w : World) (wh : Int) (_ : (Lit.int .i64 wh).wf = true) (x : Int) (_ : (Lit.int .i64 x).wf = true) :
    Calls Try.prog 8 #[.int .i64 wh, .int .i64 x] w fun e w' => e = .returned (.bool true) ∧ Upd none' w w' := by
  have hx := i64_and1023 x
  obtain ⟨d, -, hd2, hd3, hd4⟩ := forms_d x
  go_enter Try.func8, Try.ntmps8
  go_wp2_with fail
  refine (awake12 w).mono ?_
  rintro e w0 ⟨rfl, hU0⟩
  go_upto_region 5 with (first | (go_at_call 27; refine (new_cr _).mono ?_; rintro e w1 ⟨va, na, vb, nb, rfl, hC1, hU1⟩) | (go_at_call 31; refine (text_walk _ 97).mono ?_; rintro e w2 ⟨rfl, hU2⟩) | (go_at_call 20; refine (keep_cr2 _ va vb na nb [-1, -1] [⟨#[]⟩, ⟨#[]⟩] 0 64 (textS 97) [64, -1] [textS 97, ⟨#[]⟩] 1 (keep_first (by decide) _ _ _) (hC1.upd hU2) rfl rfl (text_size _)).mono ?_; rintro e w3 ⟨vc, nc, vd, nd, rfl, hC3, hf1, hf2, hU3⟩))
  have hUw := (((hU0.trans hU1 (fun _ _ f => f)).trans hU2 (fun _ _ f => f)).trans hU3 (fun _ _ f => f)).alloc (.cells #[.slice vc 2 nc, .slice vd 2 nd, .int .i64 1] 42)
  have hBk := Blk.new w3 [.slice vc 2 nc, .slice vd 2 nd, .int .i64 1] 42
  have hCk := hC3.upd ((Upd.refl none' w3).alloc (.cells #[.slice vc 2 nc, .slice vd 2 nd, .int .i64 1] 42))
  generalize w3.heap.size = oc at *
  generalize w3.alloc (.cells #[.slice vc 2 nc, .slice vd 2 nd, .int .i64 1] 42) = W4 at *
  clear hU0 hU1 hU2 hU3 hC1 hC3 hf1 hf2 hx hd2
  have k0 := hBk.cell 0
  have k1 := hBk.cell 1
  have k2 := hBk.cell 2
  simp only [List.getElem?_cons_zero, List.getElem?_cons_succ] at k0 k1 k2
  have HBk := Lib.hid hBk
  have HCk := Lib.hid hCk
  have HUw := Lib.hid hUw
  clear hBk hCk hUw
  go_upto_region 8 with (first | (go_at_call 14; refine (num_any _ _).mono ?_; rintro e w' ⟨rfl, rfl⟩) | (go_at_call 19; refine (copy_cache _ vc vd 2 2 nc nd 1 [64, -1] [textS 97, ⟨#[]⟩] HCk.out.r1 HCk.out.r2 (cr_none1 HCk.out) (cr_none2 HCk.out) (by decide) (by decide)).mono ?_; rintro e W5 ⟨v1, u1, rfl, hR1, hR2, hf1, hf2, hU5⟩; obtain ⟨ve, ne, rfl, -⟩ := hR1.form; obtain ⟨vf, nf, rfl, -⟩ := hR2.form))
  obtain ⟨ge, rfl, hle, hce, hoe, hge, -⟩ := row2 hR1
  obtain ⟨gf, rfl, hlf, hcf, hof, hgf, -⟩ := row2 hR2
  have hge2 := hf1 ge hoe
  have hgf2 := (hf2 gf hof).1
  have hgef : ge ≠ gf := fun e => (hf2 gf hof).2 (by rw [← e]; exact hoe)
  have hP : BP (W5.alloc (.cells #[.slice (some ⟨ge, 0, none⟩) 2 ne, .slice (some ⟨gf, 0, none⟩) 2 nf, .int .i64 1] 42)) W5.heap.size ge gf ne nf [64, -1] [textS 97, ⟨#[]⟩] 1 :=
    ⟨Blk.new W5 _ _, hR1.upd ((Upd.refl none' W5).alloc _) (fun _ _ f => f), hR2.upd ((Upd.refl none' W5).alloc _) (fun _ _ f => f), by omega, by omega, hgef, rfl, rfl⟩
  have hUw5 := (HUw.out.trans hU5 (fun _ _ f => f)).alloc (.cells #[.slice (some ⟨ge, 0, none⟩) 2 ne, .slice (some ⟨gf, 0, none⟩) 2 nf, .int .i64 1] 42)
  have hU45 := hU5.alloc (.cells #[.slice (some ⟨ge, 0, none⟩) 2 ne, .slice (some ⟨gf, 0, none⟩) 2 nf, .int .i64 1] 42)
  have hBk5 := HBk.out.upd hU45 (fun f => f)
  have hCk5 := HCk.out.upd hU45
  have hs5 := hU5.size
  have hv1 : ∀ k, (Value.slice vc 2 nc).ownBlock = some k → k < W4.heap.size := HCk.out.r1.lt (by simp [ints])
  have hv2 : ∀ k, (Value.slice vd 2 nd).ownBlock = some k → k < W4.heap.size := HCk.out.r2.lt (by simp [strs])
  have hw4 := HUw.out.size
  have hol := HBk.out.lt
  rw [show (ints [64, -1]).length = 2 from rfl, show (strs [textS 97, ⟨#[]⟩]).length = 2 from rfl]
  generalize W5.heap.size = ob at *
  generalize W5.alloc (.cells #[.slice (some ⟨ge, 0, none⟩) 2 ne, .slice (some ⟨gf, 0, none⟩) 2 nf, .int .i64 1] 42) = W6 at *
  clear HUw HBk HCk hR1 hR2 hf1 hf2 hU5 hU45 k0 k1 k2 hle hlf hoe hof
  have HP := Lib.hid hP
  have HUW := Lib.hid hUw5
  have HBK := Lib.hid hBk5
  have HCK := Lib.hid hCk5
  have HV1 := Lib.hid hv1
  have HV2 := Lib.hid hv2
  clear hP hUw5 hBk5 hCk5 hv1 hv2
  obtain ⟨r, hr, hrr⟩ := nine wh
  go_upto_block 0 with fail
  clear hr
  go_cut [] (fun wx => BadC wx ob ∧ Hid (Upd (fun k => W4.heap.size ≤ k) W6 wx))
  case first => as_aux_lemma =>
    obtain ⟨hge3, p0, p1, f0, f1⟩ := row2k HP.out.R1
    obtain ⟨hgf3, q0, q1, g0, g1⟩ := row2k HP.out.R2
    have k0 := HP.out.B.cell 0
    have k1 := HP.out.B.cell 1
    have k2 := HP.out.B.cell 2
    have r0 := HP.out.B.frozen 0
    have r1 := HP.out.B.frozen 1
    have r2 := HP.out.B.frozen 2
    simp only [List.getElem?_cons_zero, List.getElem?_cons_succ] at k0 k1 k2
    rcases hrr with rfl | rfl | rfl | rfl | rfl | rfl | rfl | rfl | rfl
    · go_wp2_with fail
      go_meet
      exact ⟨HP.out.bad_short, Lib.hid ((Upd.refl _ W6).setCell ⟨ob, 0, none⟩ _ (fun _ => by dsimp only; omega))⟩
    · go_wp2_with fail
      go_meet
      exact ⟨HP.out.bad_nil, Lib.hid ((Upd.refl _ W6).setCell ⟨ob, 1, none⟩ _ (fun _ => by dsimp only; omega))⟩
    · go_wp2_with fail
      go_meet
      exact ⟨HP.out.bad_next _ (no_next (.inr (by omega))), Lib.hid ((Upd.refl _ W6).setCell ⟨ob, 2, none⟩ _ (fun _ => by dsimp only; omega))⟩
    · go_wp2_with fail
      go_meet
      exact ⟨HP.out.bad_next _ (no_next (.inl (by omega))), Lib.hid ((Upd.refl _ W6).setCell ⟨ob, 2, none⟩ _ (fun _ => by dsimp only; omega))⟩
    · go_wp2_with fail
      go_meet
      exact ⟨(HP.out.setAt 0 (by decide) 65).bad (no_line0 (l1_no (by decide) (by decide))), Lib.hid ((Upd.refl _ W6).setCell ⟨ge, 0, none⟩ _ (fun _ => by dsimp only; omega))⟩
    · go_wp2_with fail
      go_meet
      exact ⟨(HP.out.setAt 0 (by decide) 4096).bad (no_line0 (l1_no (by decide) (by decide))), Lib.hid ((Upd.refl _ W6).setCell ⟨ge, 0, none⟩ _ (fun _ => by dsimp only; omega))⟩
    · go_wp2_with fail
      go_meet
      exact ⟨(HP.out.setText 0 (by decide) ⟨#[115, 104, 111, 114, 116]⟩).bad (no_line0 (l1_short (by decide) (by decide))), Lib.hid ((Upd.refl _ W6).setCell ⟨gf, 0, none⟩ _ (fun _ => by dsimp only; omega))⟩
    · go_upto_region 26 with fail
      have hP1 := HP.out.setAt 1 (by decide) 64
      have hU1 := (Upd.refl (fun k => W4.heap.size ≤ k) W6).setCell ⟨ge, 1, none⟩ (.int .i64 64) (fun _ => by dsimp only; omega)
      clear p0 p1 f0 f1 q0 q1 g0 g1 k0 k1 k2 r0 r1 r2
      generalize W6.setCell ⟨ge, 1, none⟩ (.int .i64 64) = W7 at *
      have HP1 := Lib.hid hP1
      have k1 := hP1.B.cell 1
      simp only [List.getElem?_cons_zero, List.getElem?_cons_succ] at k1
      obtain ⟨hgf3, q0, q1, g0, g1⟩ := row2k hP1.R2
      clear hP1

      go_region_with (go_at_call 31; refine (text_walk _ 98).mono ?_; rintro e W8 ⟨rfl, hU8⟩; have hU8' := (Upd.refl none' W7).drew.trans hU8 (fun _ _ f => f); have HP8 := Lib.hid (HP1.out.upd hU8'); have m1 := HP8.out.B.cell 1; simp only [List.getElem?_cons_zero, List.getElem?_cons_succ] at m1; obtain ⟨hgf4, n0, n1, l0, l1⟩ := row2k HP8.out.R2)
      all_goals
        go_wp2_with fail
        go_meet
        exact ⟨(HP8.out.setText 1 (by decide) (textS 98)).bad no_twice, Lib.hid ((hU1.trans hU8' (fun _ _ f => f.elim)).setCell ⟨gf, 1, none⟩ _ (fun _ => by dsimp only; omega))⟩
    · go_wp2_with fail
      go_meet
      exact ⟨(HP.out.setAt 1 (by decide) (-2)).bad (no_line1 (l1_no (by decide) (by decide))), Lib.hid ((Upd.refl _ W6).setCell ⟨ge, 1, none⟩ _ (fun _ => by dsimp only; omega))⟩
  case rest =>
    obtain ⟨⟨ba, bn, bc, bd, bm, be, nx, xs, ts, hBb, hCb, hbad⟩, hU⟩ := hcut
    have hU' := hU.out
    have hBk := HBK.out.upd hU' (show ¬ W4.heap.size ≤ oc by omega)
    have hCk := HCK.out.updS hU' (fun k hk => by have := HV1.out k hk; omega) (fun k hk => by have := HV2.out k hk; omega)
    have hUw : Upd none' w wc := HUW.out.trans hU' (fun k h1 h2 => by omega)
    clear hU hU' HBK HCK HUW HV1 HV2 HP
    rename World => W7
    have HBK := Lib.hid hBk
    have HCK := Lib.hid hCk
    have HUW := Lib.hid hUw
    have HBAD := Lib.hid hbad
    clear hBk hCk hUw hbad
    go_upto_region 27 with fail
    have k0 := hBb.cell 0
    have k1 := hBb.cell 1
    have k2 := hBb.cell 2
    simp only [List.getElem?_cons_zero, List.getElem?_cons_succ] at k0 k1 k2
    have HB1 := Lib.hid hBb
    have HC1 := Lib.hid hCb
    have s1 := HB1.out.lt
    go_cut [9, 10] (fun s2 s3 wx => KeptNo W7 wx s2 s3)
    case first => as_aux_lemma =>
      go_region_held3 (fun w' => w'.cell? ⟨ob, 0, none⟩ = some (.slice ba bn bc) ∧ w'.cell? ⟨ob, 1, none⟩ = some (.slice bd bm be) ∧ w'.cell? ⟨ob, 2, none⟩ = some (.int .i64 nx)) (first | exact ⟨k0, k1, k2⟩ | exact ⟨d0, d1, d2⟩ | exact ⟨e0, e1, e2⟩ | exact ⟨by go_simp, by go_simp, by go_simp⟩)
        (first
        | (go_at_call 31; refine (text_walk _ 99).mono ?_; rintro e w33 ⟨rfl, hU33⟩; have d0 := ((HB1.out).upd (S := none') (w' := w33) (by (repeat (first | (with_reducible exact Upd.refl _ _) | (with_reducible refine Upd.drew ?_) | (with_reducible refine Upd.alloc ?_ _) | (refine Upd.trans (T := none') ?_ (by assumption) (fun _ _ f => f.elim))))) (fun f => f)).cell 0; have d1 := ((HB1.out).upd (S := none') (w' := w33) (by (repeat (first | (with_reducible exact Upd.refl _ _) | (with_reducible refine Upd.drew ?_) | (with_reducible refine Upd.alloc ?_ _) | (refine Upd.trans (T := none') ?_ (by assumption) (fun _ _ f => f.elim))))) (fun f => f)).cell 1; have d2 := ((HB1.out).upd (S := none') (w' := w33) (by (repeat (first | (with_reducible exact Upd.refl _ _) | (with_reducible refine Upd.drew ?_) | (with_reducible refine Upd.alloc ?_ _) | (refine Upd.trans (T := none') ?_ (by assumption) (fun _ _ f => f.elim))))) (fun f => f)).cell 2; simp only [List.getElem?_cons_zero, List.getElem?_cons_succ] at d0 d1 d2; have s33 : ob < w33.heap.size := ((HB1.out).upd (S := none') (w' := w33) (by (repeat (first | (with_reducible exact Upd.refl _ _) | (with_reducible refine Upd.drew ?_) | (with_reducible refine Upd.alloc ?_ _) | (refine Upd.trans (T := none') ?_ (by assumption) (fun _ _ f => f.elim))))) (fun f => f)).lt; try (have z33 : Hid (Blk w33 W7.heap.size [.slice none 0 0, .slice none 0 0, .int .i64 0] 42) := (Blk.new W7 [.slice none 0 0, .slice none 0 0, .int .i64 0] 42).drew.upd (S := none') hU33 (fun f => f); have q0 := z33.out.cell 0; have q1 := z33.out.cell 1; have q2 := z33.out.cell 2; have r0 := z33.out.frozen 0; have r1 := z33.out.frozen 1; have r2 := z33.out.frozen 2; have s33' := z33.out.lt; simp only [List.getElem?_cons_zero, List.getElem?_cons_succ] at q0 q1 q2))
        | (go_at_call 20; refine (keep_no _ (.slice ba bn bc) (.slice bd bm be) xs ts nx 0 (textS 99) (HC1.out.upd ?hq1).r1 (HC1.out.upd ?hq2).r2 (keep_bad HBAD.out)).mono ?_; (case hq1 => (repeat (first | (with_reducible exact Upd.refl _ _) | (with_reducible refine Upd.drew ?_) | (with_reducible refine Upd.alloc ?_ _) | (refine Upd.trans (T := none') ?_ (by assumption) (fun _ _ f => f.elim))))); (case hq2 => (repeat (first | (with_reducible exact Upd.refl _ _) | (with_reducible refine Upd.drew ?_) | (with_reducible refine Upd.alloc ?_ _) | (refine Upd.trans (T := none') ?_ (by assumption) (fun _ _ f => f.elim))))); rintro e w34 ⟨rfl, hU34⟩; unfold cacheV; have e0 := ((HB1.out).upd (S := none') (w' := w34) (by (repeat (first | (with_reducible exact Upd.refl _ _) | (with_reducible refine Upd.drew ?_) | (with_reducible refine Upd.alloc ?_ _) | (refine Upd.trans (T := none') ?_ (by assumption) (fun _ _ f => f.elim))))) (fun f => f)).cell 0; have e1 := ((HB1.out).upd (S := none') (w' := w34) (by (repeat (first | (with_reducible exact Upd.refl _ _) | (with_reducible refine Upd.drew ?_) | (with_reducible refine Upd.alloc ?_ _) | (refine Upd.trans (T := none') ?_ (by assumption) (fun _ _ f => f.elim))))) (fun f => f)).cell 1; have e2 := ((HB1.out).upd (S := none') (w' := w34) (by (repeat (first | (with_reducible exact Upd.refl _ _) | (with_reducible refine Upd.drew ?_) | (with_reducible refine Upd.alloc ?_ _) | (refine Upd.trans (T := none') ?_ (by assumption) (fun _ _ f => f.elim))))) (fun f => f)).cell 2; simp only [List.getElem?_cons_zero, List.getElem?_cons_succ] at e0 e1 e2; have s34 : ob < w34.heap.size := ((HB1.out).upd (S := none') (w' := w34) (by (repeat (first | (with_reducible exact Upd.refl _ _) | (with_reducible refine Upd.drew ?_) | (with_reducible refine Upd.alloc ?_ _) | (refine Upd.trans (T := none') ?_ (by assumption) (fun _ _ f => f.elim))))) (fun f => f)).lt; first | (have z34 : Hid (Blk w34 W7.heap.size [.slice none 0 0, .slice none 0 0, .int .i64 0] 42) := z33.out.upd (S := none') hU34 (fun f => f); have q0 := z34.out.cell 0; have q1 := z34.out.cell 1; have q2 := z34.out.cell 2; have r0 := z34.out.frozen 0; have r1 := z34.out.frozen 1; have r2 := z34.out.frozen 2; have s34' := z34.out.lt; simp only [List.getElem?_cons_zero, List.getElem?_cons_succ] at q0 q1 q2) | (have z34 : Hid (Blk w34 w33.heap.size [.slice none 0 0, .slice none 0 0, .int .i64 0] 42) := (Blk.new w33 [.slice none 0 0, .slice none 0 0, .int .i64 0] 42).upd (S := none') hU34 (fun f => f); have q0 := z34.out.cell 0; have q1 := z34.out.cell 1; have q2 := z34.out.cell 2; have r0 := z34.out.frozen 0; have r1 := z34.out.frozen 1; have r2 := z34.out.frozen 2; have s34' := z34.out.lt; simp only [List.getElem?_cons_zero, List.getElem?_cons_succ] at q0 q1 q2) | skip))
      all_goals
        have Z33 := hU33.size
        have Z34 := hU34.size
        simp only [heap_drew, World.size_alloc] at Z33 Z34
        clear k0 k1 k2 d0 d1 d2 e0 e1 e2
      · have U1 : Upd none' W7 w33 := (Upd.refl none' W7).drew.trans hU33 (fun _ _ f => f)
        have U2 : Upd none' w33 w34 := hU34
        clear hU33 hU34
        go_wp2_with fail
        go_meet
        exact kept_no_alloc W7 w33 w34 U1 U2
      · have U1 : Upd none' W7 w33 := (Upd.refl none' W7).drew.trans hU33 (fun _ _ f => f)
        have U2 : Upd none' w33 w34 := ((Upd.refl none' w33).alloc _).trans hU34 (fun _ _ f => f)
        clear hU33 hU34
        go_wp2_with fail
        go_meet
        exact kept_no_set W7 w33 w34 w33.heap.size U1 U2 (by omega) _ rfl
      · have U1 : Upd none' W7 w33 := ((Upd.refl none' W7).alloc _).drew.trans hU33 (fun _ _ f => f)
        have U2 : Upd none' w33 w34 := hU34
        clear hU33 hU34
        go_wp2_with fail
        go_meet
        exact kept_no_set W7 w33 w34 W7.heap.size U1 U2 (by omega) _ rfl
    case rest =>
      obtain ⟨_, rfl, rfl, -, hUx⟩ := hcut
      have hBb2 := HB1.out.upd hUx (fun f => f)
      have hCb2 := HC1.out.upd hUx
      have hBk2 := HBK.out.upd hUx (fun f => f)
      have hCk2 := HCK.out.upd hUx
      have hUw2 := HUW.out.trans hUx (fun _ _ f => f)
      clear hUx HB1 HC1 HBK HCK HUW k0 k1 k2 hBb hCb
      rename World => W8
      have k0 := hBb2.cell 0
      have k1 := hBb2.cell 1
      have k2 := hBb2.cell 2
      simp only [List.getElem?_cons_zero, List.getElem?_cons_succ] at k0 k1 k2
      have HBB := Lib.hid hBb2
      have HCB := Lib.hid hCb2
      have HBK := Lib.hid hBk2
      have HCK := Lib.hid hCk2
      have HUW := Lib.hid hUw2
      clear hBb2 hCb2 hBk2 hCk2 hUw2
      go_upto_region 29 with (go_at_call 22; refine (find_bad _ _ _ _ _ _ _ xs ts nx _ HCB.out HBAD.out (by decide)).mono ?_; rintro e W9 ⟨rfl, hU9⟩)
      have hBb := HBB.out.upd hU9 (fun f => f)
      have hCb := HCB.out.upd hU9
      have hBk := HBK.out.upd hU9 (fun f => f)
      have hCk := HCK.out.upd hU9
      have hUw := HUW.out.trans hU9 (fun _ _ f => f)
      clear hU9 HBB HCB HBK HCK HUW k0 k1 k2
      have HBB := Lib.hid hBb
      have HCB := Lib.hid hCb
      have HUW := Lib.hid hUw
      clear hBb hCb hUw
      have k0 := hBk.cell 0
      have k1 := hBk.cell 1
      have k2 := hBk.cell 2
      simp only [List.getElem?_cons_zero, List.getElem?_cons_succ] at k0 k1 k2
      have HB1 := Lib.hid hBk
      have HC1 := Lib.hid hCk
      have s1 := HB1.out.lt
      go_cut [13, 14] (fun s2 s3 wx => KeptNo W9 wx s2 s3)
      case first => as_aux_lemma =>
        go_region_held3 (fun w' => w'.cell? ⟨oc, 0, none⟩ = some (.slice vc 2 nc) ∧ w'.cell? ⟨oc, 1, none⟩ = some (.slice vd 2 nd) ∧ w'.cell? ⟨oc, 2, none⟩ = some (.int .i64 1)) (first | exact ⟨k0, k1, k2⟩ | exact ⟨d0, d1, d2⟩ | exact ⟨e0, e1, e2⟩ | exact ⟨by go_simp, by go_simp, by go_simp⟩)
          (first
          | (go_at_call 31; refine (text_walk _ 99).mono ?_; rintro e w33 ⟨rfl, hU33⟩; have d0 := ((HB1.out).upd (S := none') (w' := w33) (by (repeat (first | (with_reducible exact Upd.refl _ _) | (with_reducible refine Upd.drew ?_) | (with_reducible refine Upd.alloc ?_ _) | (refine Upd.trans (T := none') ?_ (by assumption) (fun _ _ f => f.elim))))) (fun f => f)).cell 0; have d1 := ((HB1.out).upd (S := none') (w' := w33) (by (repeat (first | (with_reducible exact Upd.refl _ _) | (with_reducible refine Upd.drew ?_) | (with_reducible refine Upd.alloc ?_ _) | (refine Upd.trans (T := none') ?_ (by assumption) (fun _ _ f => f.elim))))) (fun f => f)).cell 1; have d2 := ((HB1.out).upd (S := none') (w' := w33) (by (repeat (first | (with_reducible exact Upd.refl _ _) | (with_reducible refine Upd.drew ?_) | (with_reducible refine Upd.alloc ?_ _) | (refine Upd.trans (T := none') ?_ (by assumption) (fun _ _ f => f.elim))))) (fun f => f)).cell 2; simp only [List.getElem?_cons_zero, List.getElem?_cons_succ] at d0 d1 d2; have s33 : oc < w33.heap.size := ((HB1.out).upd (S := none') (w' := w33) (by (repeat (first | (with_reducible exact Upd.refl _ _) | (with_reducible refine Upd.drew ?_) | (with_reducible refine Upd.alloc ?_ _) | (refine Upd.trans (T := none') ?_ (by assumption) (fun _ _ f => f.elim))))) (fun f => f)).lt; try (have z33 : Hid (Blk w33 W9.heap.size [.slice none 0 0, .slice none 0 0, .int .i64 0] 42) := (Blk.new W9 [.slice none 0 0, .slice none 0 0, .int .i64 0] 42).drew.upd (S := none') hU33 (fun f => f); have q0 := z33.out.cell 0; have q1 := z33.out.cell 1; have q2 := z33.out.cell 2; have r0 := z33.out.frozen 0; have r1 := z33.out.frozen 1; have r2 := z33.out.frozen 2; have s33' := z33.out.lt; simp only [List.getElem?_cons_zero, List.getElem?_cons_succ] at q0 q1 q2))
          | (go_at_call 20; refine (keep_no _ (.slice vc 2 nc) (.slice vd 2 nd) [64, -1] [textS 97, ⟨#[]⟩] 1 8 (textS 99) (HC1.out.upd ?hq1).r1 (HC1.out.upd ?hq2).r2 (keep_at (by decide))).mono ?_; (case hq1 => (repeat (first | (with_reducible exact Upd.refl _ _) | (with_reducible refine Upd.drew ?_) | (with_reducible refine Upd.alloc ?_ _) | (refine Upd.trans (T := none') ?_ (by assumption) (fun _ _ f => f.elim))))); (case hq2 => (repeat (first | (with_reducible exact Upd.refl _ _) | (with_reducible refine Upd.drew ?_) | (with_reducible refine Upd.alloc ?_ _) | (refine Upd.trans (T := none') ?_ (by assumption) (fun _ _ f => f.elim))))); rintro e w34 ⟨rfl, hU34⟩; unfold cacheV; have e0 := ((HB1.out).upd (S := none') (w' := w34) (by (repeat (first | (with_reducible exact Upd.refl _ _) | (with_reducible refine Upd.drew ?_) | (with_reducible refine Upd.alloc ?_ _) | (refine Upd.trans (T := none') ?_ (by assumption) (fun _ _ f => f.elim))))) (fun f => f)).cell 0; have e1 := ((HB1.out).upd (S := none') (w' := w34) (by (repeat (first | (with_reducible exact Upd.refl _ _) | (with_reducible refine Upd.drew ?_) | (with_reducible refine Upd.alloc ?_ _) | (refine Upd.trans (T := none') ?_ (by assumption) (fun _ _ f => f.elim))))) (fun f => f)).cell 1; have e2 := ((HB1.out).upd (S := none') (w' := w34) (by (repeat (first | (with_reducible exact Upd.refl _ _) | (with_reducible refine Upd.drew ?_) | (with_reducible refine Upd.alloc ?_ _) | (refine Upd.trans (T := none') ?_ (by assumption) (fun _ _ f => f.elim))))) (fun f => f)).cell 2; simp only [List.getElem?_cons_zero, List.getElem?_cons_succ] at e0 e1 e2; have s34 : oc < w34.heap.size := ((HB1.out).upd (S := none') (w' := w34) (by (repeat (first | (with_reducible exact Upd.refl _ _) | (with_reducible refine Upd.drew ?_) | (with_reducible refine Upd.alloc ?_ _) | (refine Upd.trans (T := none') ?_ (by assumption) (fun _ _ f => f.elim))))) (fun f => f)).lt; first | (have z34 : Hid (Blk w34 W9.heap.size [.slice none 0 0, .slice none 0 0, .int .i64 0] 42) := z33.out.upd (S := none') hU34 (fun f => f); have q0 := z34.out.cell 0; have q1 := z34.out.cell 1; have q2 := z34.out.cell 2; have r0 := z34.out.frozen 0; have r1 := z34.out.frozen 1; have r2 := z34.out.frozen 2; have s34' := z34.out.lt; simp only [List.getElem?_cons_zero, List.getElem?_cons_succ] at q0 q1 q2) | (have z34 : Hid (Blk w34 w33.heap.size [.slice none 0 0, .slice none 0 0, .int .i64 0] 42) := (Blk.new w33 [.slice none 0 0, .slice none 0 0, .int .i64 0] 42).upd (S := none') hU34 (fun f => f); have q0 := z34.out.cell 0; have q1 := z34.out.cell 1; have q2 := z34.out.cell 2; have r0 := z34.out.frozen 0; have r1 := z34.out.frozen 1; have r2 := z34.out.frozen 2; have s34' := z34.out.lt; simp only [List.getElem?_cons_zero, List.getElem?_cons_succ] at q0 q1 q2) | skip))
        all_goals
          have Z33 := hU33.size
          have Z34 := hU34.size
          simp only [heap_drew, World.size_alloc] at Z33 Z34
          clear k0 k1 k2 d0 d1 d2 e0 e1 e2
        · have U1 : Upd none' W9 w33 := (Upd.refl none' W9).drew.trans hU33 (fun _ _ f => f)
          have U2 : Upd none' w33 w34 := hU34
          clear hU33 hU34
          go_wp2_with fail
          go_meet
          exact kept_no_alloc W9 w33 w34 U1 U2
        · have U1 : Upd none' W9 w33 := (Upd.refl none' W9).drew.trans hU33 (fun _ _ f => f)
          have U2 : Upd none' w33 w34 := ((Upd.refl none' w33).alloc _).trans hU34 (fun _ _ f => f)
          clear hU33 hU34
          go_wp2_with fail
          go_meet
          exact kept_no_set W9 w33 w34 w33.heap.size U1 U2 (by omega) _ rfl
        · have U1 : Upd none' W9 w33 := ((Upd.refl none' W9).alloc _).drew.trans hU33 (fun _ _ f => f)
          have U2 : Upd none' w33 w34 := hU34
          clear hU33 hU34
          go_wp2_with fail
          go_meet
          exact kept_no_set W9 w33 w34 W9.heap.size U1 U2 (by omega) _ rfl
      case rest =>
        obtain ⟨_, rfl, rfl, -, hUx⟩ := hcut
        have hBk2 := HB1.out.upd hUx (fun f => f)
        have hCk2 := HC1.out.upd hUx
        have hBb2 := HBB.out.upd hUx (fun f => f)
        have hCb2 := HCB.out.upd hUx
        have hUw2 := HUW.out.trans hUx (fun _ _ f => f)
        clear hUx HB1 HC1 HBB HCB HUW k0 k1 k2 hBk hCk
        rename World => W10
        have hBk := hBk2
        have hCk := hCk2
        have HBB := Lib.hid hBb2
        have HCB := Lib.hid hCb2
        have HUW := Lib.hid hUw2
        clear hBb2 hCb2 hUw2 hBk2 hCk2
        go_upto_region 30 with fail
        have k0 := hBk.cell 0
        have k1 := hBk.cell 1
        have k2 := hBk.cell 2
        simp only [List.getElem?_cons_zero, List.getElem?_cons_succ] at k0 k1 k2
        have HB1 := Lib.hid hBk
        have HC1 := Lib.hid hCk
        have s1 := HB1.out.lt
        go_cut [15, 16] (fun s2 s3 wx => KeptNo W10 wx s2 s3)
        case first => as_aux_lemma =>
          go_region_held3 (fun w' => w'.cell? ⟨oc, 0, none⟩ = some (.slice vc 2 nc) ∧ w'.cell? ⟨oc, 1, none⟩ = some (.slice vd 2 nd) ∧ w'.cell? ⟨oc, 2, none⟩ = some (.int .i64 1)) (first | exact ⟨k0, k1, k2⟩ | exact ⟨d0, d1, d2⟩ | exact ⟨e0, e1, e2⟩ | exact ⟨by go_simp, by go_simp, by go_simp⟩)
            (first
            | (go_at_call 31; refine (text_walk _ 99).mono ?_; rintro e w33 ⟨rfl, hU33⟩; have d0 := ((HB1.out).upd (S := none') (w' := w33) (by (repeat (first | (with_reducible exact Upd.refl _ _) | (with_reducible refine Upd.drew ?_) | (with_reducible refine Upd.alloc ?_ _) | (refine Upd.trans (T := none') ?_ (by assumption) (fun _ _ f => f.elim))))) (fun f => f)).cell 0; have d1 := ((HB1.out).upd (S := none') (w' := w33) (by (repeat (first | (with_reducible exact Upd.refl _ _) | (with_reducible refine Upd.drew ?_) | (with_reducible refine Upd.alloc ?_ _) | (refine Upd.trans (T := none') ?_ (by assumption) (fun _ _ f => f.elim))))) (fun f => f)).cell 1; have d2 := ((HB1.out).upd (S := none') (w' := w33) (by (repeat (first | (with_reducible exact Upd.refl _ _) | (with_reducible refine Upd.drew ?_) | (with_reducible refine Upd.alloc ?_ _) | (refine Upd.trans (T := none') ?_ (by assumption) (fun _ _ f => f.elim))))) (fun f => f)).cell 2; simp only [List.getElem?_cons_zero, List.getElem?_cons_succ] at d0 d1 d2; have s33 : oc < w33.heap.size := ((HB1.out).upd (S := none') (w' := w33) (by (repeat (first | (with_reducible exact Upd.refl _ _) | (with_reducible refine Upd.drew ?_) | (with_reducible refine Upd.alloc ?_ _) | (refine Upd.trans (T := none') ?_ (by assumption) (fun _ _ f => f.elim))))) (fun f => f)).lt; try (have z33 : Hid (Blk w33 W10.heap.size [.slice none 0 0, .slice none 0 0, .int .i64 0] 42) := (Blk.new W10 [.slice none 0 0, .slice none 0 0, .int .i64 0] 42).drew.upd (S := none') hU33 (fun f => f); have q0 := z33.out.cell 0; have q1 := z33.out.cell 1; have q2 := z33.out.cell 2; have r0 := z33.out.frozen 0; have r1 := z33.out.frozen 1; have r2 := z33.out.frozen 2; have s33' := z33.out.lt; simp only [List.getElem?_cons_zero, List.getElem?_cons_succ] at q0 q1 q2))
            | (go_at_call 20; refine (keep_no _ (.slice vc 2 nc) (.slice vd 2 nd) [64, -1] [textS 97, ⟨#[]⟩] 1 (-16) (textS 99) (HC1.out.upd ?hq1).r1 (HC1.out.upd ?hq2).r2 (keep_at (by decide))).mono ?_; (case hq1 => (repeat (first | (with_reducible exact Upd.refl _ _) | (with_reducible refine Upd.drew ?_) | (with_reducible refine Upd.alloc ?_ _) | (refine Upd.trans (T := none') ?_ (by assumption) (fun _ _ f => f.elim))))); (case hq2 => (repeat (first | (with_reducible exact Upd.refl _ _) | (with_reducible refine Upd.drew ?_) | (with_reducible refine Upd.alloc ?_ _) | (refine Upd.trans (T := none') ?_ (by assumption) (fun _ _ f => f.elim))))); rintro e w34 ⟨rfl, hU34⟩; unfold cacheV; have e0 := ((HB1.out).upd (S := none') (w' := w34) (by (repeat (first | (with_reducible exact Upd.refl _ _) | (with_reducible refine Upd.drew ?_) | (with_reducible refine Upd.alloc ?_ _) | (refine Upd.trans (T := none') ?_ (by assumption) (fun _ _ f => f.elim))))) (fun f => f)).cell 0; have e1 := ((HB1.out).upd (S := none') (w' := w34) (by (repeat (first | (with_reducible exact Upd.refl _ _) | (with_reducible refine Upd.drew ?_) | (with_reducible refine Upd.alloc ?_ _) | (refine Upd.trans (T := none') ?_ (by assumption) (fun _ _ f => f.elim))))) (fun f => f)).cell 1; have e2 := ((HB1.out).upd (S := none') (w' := w34) (by (repeat (first | (with_reducible exact Upd.refl _ _) | (with_reducible refine Upd.drew ?_) | (with_reducible refine Upd.alloc ?_ _) | (refine Upd.trans (T := none') ?_ (by assumption) (fun _ _ f => f.elim))))) (fun f => f)).cell 2; simp only [List.getElem?_cons_zero, List.getElem?_cons_succ] at e0 e1 e2; have s34 : oc < w34.heap.size := ((HB1.out).upd (S := none') (w' := w34) (by (repeat (first | (with_reducible exact Upd.refl _ _) | (with_reducible refine Upd.drew ?_) | (with_reducible refine Upd.alloc ?_ _) | (refine Upd.trans (T := none') ?_ (by assumption) (fun _ _ f => f.elim))))) (fun f => f)).lt; first | (have z34 : Hid (Blk w34 W10.heap.size [.slice none 0 0, .slice none 0 0, .int .i64 0] 42) := z33.out.upd (S := none') hU34 (fun f => f); have q0 := z34.out.cell 0; have q1 := z34.out.cell 1; have q2 := z34.out.cell 2; have r0 := z34.out.frozen 0; have r1 := z34.out.frozen 1; have r2 := z34.out.frozen 2; have s34' := z34.out.lt; simp only [List.getElem?_cons_zero, List.getElem?_cons_succ] at q0 q1 q2) | (have z34 : Hid (Blk w34 w33.heap.size [.slice none 0 0, .slice none 0 0, .int .i64 0] 42) := (Blk.new w33 [.slice none 0 0, .slice none 0 0, .int .i64 0] 42).upd (S := none') hU34 (fun f => f); have q0 := z34.out.cell 0; have q1 := z34.out.cell 1; have q2 := z34.out.cell 2; have r0 := z34.out.frozen 0; have r1 := z34.out.frozen 1; have r2 := z34.out.frozen 2; have s34' := z34.out.lt; simp only [List.getElem?_cons_zero, List.getElem?_cons_succ] at q0 q1 q2) | skip))
          all_goals
            have Z33 := hU33.size
            have Z34 := hU34.size
            simp only [heap_drew, World.size_alloc] at Z33 Z34
            clear k0 k1 k2 d0 d1 d2 e0 e1 e2
          · have U1 : Upd none' W10 w33 := (Upd.refl none' W10).drew.trans hU33 (fun _ _ f => f)
            have U2 : Upd none' w33 w34 := hU34
            clear hU33 hU34
            go_wp2_with fail
            go_meet
            exact kept_no_alloc W10 w33 w34 U1 U2
          · have U1 : Upd none' W10 w33 := (Upd.refl none' W10).drew.trans hU33 (fun _ _ f => f)
            have U2 : Upd none' w33 w34 := ((Upd.refl none' w33).alloc _).trans hU34 (fun _ _ f => f)
            clear hU33 hU34
            go_wp2_with fail
            go_meet
            exact kept_no_set W10 w33 w34 w33.heap.size U1 U2 (by omega) _ rfl
          · have U1 : Upd none' W10 w33 := ((Upd.refl none' W10).alloc _).drew.trans hU33 (fun _ _ f => f)
            have U2 : Upd none' w33 w34 := hU34
            clear hU33 hU34
            go_wp2_with fail
            go_meet
            exact kept_no_set W10 w33 w34 W10.heap.size U1 U2 (by omega) _ rfl
        case rest =>
          obtain ⟨_, rfl, rfl, -, hUx⟩ := hcut
          have hBk2 := HB1.out.upd hUx (fun f => f)
          have hCk2 := HC1.out.upd hUx
          have hBb2 := HBB.out.upd hUx (fun f => f)
          have hCb2 := HCB.out.upd hUx
          have hUw2 := HUW.out.trans hUx (fun _ _ f => f)
          clear hUx HB1 HC1 HBB HCB HUW k0 k1 k2 hBk hCk
          rename World => W11
          have hBk := hBk2
          have hCk := hCk2
          have HBB := Lib.hid hBb2
          have HCB := Lib.hid hCb2
          have HUW := Lib.hid hUw2
          clear hBb2 hCb2 hUw2 hBk2 hCk2
          go_upto_region 31 with fail
          have k0 := hBk.cell 0
          have k1 := hBk.cell 1
          have k2 := hBk.cell 2
          simp only [List.getElem?_cons_zero, List.getElem?_cons_succ] at k0 k1 k2
          have HB1 := Lib.hid hBk
          have HC1 := Lib.hid hCk
          have s1 := HB1.out.lt
          go_cut [17, 18] (fun s2 s3 wx => KeptNo W11 wx s2 s3)
          case first => as_aux_lemma =>
            go_region_held3 (fun w' => w'.cell? ⟨oc, 0, none⟩ = some (.slice vc 2 nc) ∧ w'.cell? ⟨oc, 1, none⟩ = some (.slice vd 2 nd) ∧ w'.cell? ⟨oc, 2, none⟩ = some (.int .i64 1)) (first | exact ⟨k0, k1, k2⟩ | exact ⟨d0, d1, d2⟩ | exact ⟨e0, e1, e2⟩ | exact ⟨by go_simp, by go_simp, by go_simp⟩)
              (first
              | (go_at_call 31; refine (text_walk _ 99).mono ?_; rintro e w33 ⟨rfl, hU33⟩; have d0 := ((HB1.out).upd (S := none') (w' := w33) (by (repeat (first | (with_reducible exact Upd.refl _ _) | (with_reducible refine Upd.drew ?_) | (with_reducible refine Upd.alloc ?_ _) | (refine Upd.trans (T := none') ?_ (by assumption) (fun _ _ f => f.elim))))) (fun f => f)).cell 0; have d1 := ((HB1.out).upd (S := none') (w' := w33) (by (repeat (first | (with_reducible exact Upd.refl _ _) | (with_reducible refine Upd.drew ?_) | (with_reducible refine Upd.alloc ?_ _) | (refine Upd.trans (T := none') ?_ (by assumption) (fun _ _ f => f.elim))))) (fun f => f)).cell 1; have d2 := ((HB1.out).upd (S := none') (w' := w33) (by (repeat (first | (with_reducible exact Upd.refl _ _) | (with_reducible refine Upd.drew ?_) | (with_reducible refine Upd.alloc ?_ _) | (refine Upd.trans (T := none') ?_ (by assumption) (fun _ _ f => f.elim))))) (fun f => f)).cell 2; simp only [List.getElem?_cons_zero, List.getElem?_cons_succ] at d0 d1 d2; have s33 : oc < w33.heap.size := ((HB1.out).upd (S := none') (w' := w33) (by (repeat (first | (with_reducible exact Upd.refl _ _) | (with_reducible refine Upd.drew ?_) | (with_reducible refine Upd.alloc ?_ _) | (refine Upd.trans (T := none') ?_ (by assumption) (fun _ _ f => f.elim))))) (fun f => f)).lt; try (have z33 : Hid (Blk w33 W11.heap.size [.slice none 0 0, .slice none 0 0, .int .i64 0] 42) := (Blk.new W11 [.slice none 0 0, .slice none 0 0, .int .i64 0] 42).drew.upd (S := none') hU33 (fun f => f); have q0 := z33.out.cell 0; have q1 := z33.out.cell 1; have q2 := z33.out.cell 2; have r0 := z33.out.frozen 0; have r1 := z33.out.frozen 1; have r2 := z33.out.frozen 2; have s33' := z33.out.lt; simp only [List.getElem?_cons_zero, List.getElem?_cons_succ] at q0 q1 q2))
              | (go_at_call 20; refine (keep_no _ (.slice vc 2 nc) (.slice vd 2 nd) [64, -1] [textS 97, ⟨#[]⟩] 1 4096 (textS 99) (HC1.out.upd ?hq1).r1 (HC1.out.upd ?hq2).r2 (keep_at (by decide))).mono ?_; (case hq1 => (repeat (first | (with_reducible exact Upd.refl _ _) | (with_reducible refine Upd.drew ?_) | (with_reducible refine Upd.alloc ?_ _) | (refine Upd.trans (T := none') ?_ (by assumption) (fun _ _ f => f.elim))))); (case hq2 => (repeat (first | (with_reducible exact Upd.refl _ _) | (with_reducible refine Upd.drew ?_) | (with_reducible refine Upd.alloc ?_ _) | (refine Upd.trans (T := none') ?_ (by assumption) (fun _ _ f => f.elim))))); rintro e w34 ⟨rfl, hU34⟩; unfold cacheV; have e0 := ((HB1.out).upd (S := none') (w' := w34) (by (repeat (first | (with_reducible exact Upd.refl _ _) | (with_reducible refine Upd.drew ?_) | (with_reducible refine Upd.alloc ?_ _) | (refine Upd.trans (T := none') ?_ (by assumption) (fun _ _ f => f.elim))))) (fun f => f)).cell 0; have e1 := ((HB1.out).upd (S := none') (w' := w34) (by (repeat (first | (with_reducible exact Upd.refl _ _) | (with_reducible refine Upd.drew ?_) | (with_reducible refine Upd.alloc ?_ _) | (refine Upd.trans (T := none') ?_ (by assumption) (fun _ _ f => f.elim))))) (fun f => f)).cell 1; have e2 := ((HB1.out).upd (S := none') (w' := w34) (by (repeat (first | (with_reducible exact Upd.refl _ _) | (with_reducible refine Upd.drew ?_) | (with_reducible refine Upd.alloc ?_ _) | (refine Upd.trans (T := none') ?_ (by assumption) (fun _ _ f => f.elim))))) (fun f => f)).cell 2; simp only [List.getElem?_cons_zero, List.getElem?_cons_succ] at e0 e1 e2; have s34 : oc < w34.heap.size := ((HB1.out).upd (S := none') (w' := w34) (by (repeat (first | (with_reducible exact Upd.refl _ _) | (with_reducible refine Upd.drew ?_) | (with_reducible refine Upd.alloc ?_ _) | (refine Upd.trans (T := none') ?_ (by assumption) (fun _ _ f => f.elim))))) (fun f => f)).lt; first | (have z34 : Hid (Blk w34 W11.heap.size [.slice none 0 0, .slice none 0 0, .int .i64 0] 42) := z33.out.upd (S := none') hU34 (fun f => f); have q0 := z34.out.cell 0; have q1 := z34.out.cell 1; have q2 := z34.out.cell 2; have r0 := z34.out.frozen 0; have r1 := z34.out.frozen 1; have r2 := z34.out.frozen 2; have s34' := z34.out.lt; simp only [List.getElem?_cons_zero, List.getElem?_cons_succ] at q0 q1 q2) | (have z34 : Hid (Blk w34 w33.heap.size [.slice none 0 0, .slice none 0 0, .int .i64 0] 42) := (Blk.new w33 [.slice none 0 0, .slice none 0 0, .int .i64 0] 42).upd (S := none') hU34 (fun f => f); have q0 := z34.out.cell 0; have q1 := z34.out.cell 1; have q2 := z34.out.cell 2; have r0 := z34.out.frozen 0; have r1 := z34.out.frozen 1; have r2 := z34.out.frozen 2; have s34' := z34.out.lt; simp only [List.getElem?_cons_zero, List.getElem?_cons_succ] at q0 q1 q2) | skip))
            all_goals
              have Z33 := hU33.size
              have Z34 := hU34.size
              simp only [heap_drew, World.size_alloc] at Z33 Z34
              clear k0 k1 k2 d0 d1 d2 e0 e1 e2
            · have U1 : Upd none' W11 w33 := (Upd.refl none' W11).drew.trans hU33 (fun _ _ f => f)
              have U2 : Upd none' w33 w34 := hU34
              clear hU33 hU34
              go_wp2_with fail
              go_meet
              exact kept_no_alloc W11 w33 w34 U1 U2
            · have U1 : Upd none' W11 w33 := (Upd.refl none' W11).drew.trans hU33 (fun _ _ f => f)
              have U2 : Upd none' w33 w34 := ((Upd.refl none' w33).alloc _).trans hU34 (fun _ _ f => f)
              clear hU33 hU34
              go_wp2_with fail
              go_meet
              exact kept_no_set W11 w33 w34 w33.heap.size U1 U2 (by omega) _ rfl
            · have U1 : Upd none' W11 w33 := ((Upd.refl none' W11).alloc _).drew.trans hU33 (fun _ _ f => f)
              have U2 : Upd none' w33 w34 := hU34
              clear hU33 hU34
              go_wp2_with fail
              go_meet
              exact kept_no_set W11 w33 w34 W11.heap.size U1 U2 (by omega) _ rfl
          case rest =>
            obtain ⟨_, rfl, rfl, -, hUx⟩ := hcut
            have hBk2 := HB1.out.upd hUx (fun f => f)
            have hCk2 := HC1.out.upd hUx
            have hBb2 := HBB.out.upd hUx (fun f => f)
            have hCb2 := HCB.out.upd hUx
            have hUw2 := HUW.out.trans hUx (fun _ _ f => f)
            clear hUx HB1 HC1 HBB HCB HUW k0 k1 k2 hBk hCk
            rename World => W12
            have hBk := hBk2
            have hCk := hCk2
            have HBB := Lib.hid hBb2
            have HCB := Lib.hid hCb2
            have HUW := Lib.hid hUw2
            clear hBb2 hCb2 hUw2 hBk2 hCk2
            have k0 := hBk.cell 0
            have k1 := hBk.cell 1
            have k2 := hBk.cell 2
            simp only [List.getElem?_cons_zero, List.getElem?_cons_succ] at k0 k1 k2
            have HBK := Lib.hid hBk
            have HCK := Lib.hid hCk
            clear hBk hCk
            go_upto_region 33 with (go_at_call 20; refine (keep_no _ (.slice vc 2 nc) (.slice vd 2 nd) [64, -1] [textS 97, ⟨#[]⟩] 1 0 ⟨#[99]⟩ HCK.out.r1 HCK.out.r2 (keep_size (by decide))).mono ?_; rintro e W13 ⟨rfl, hU13⟩; unfold cacheV)
            have hU14 := hU13.alloc (.cells #[.slice none 0 0, .slice none 0 0, .int .i64 0] 42)
            generalize W13.alloc (.cells #[.slice none 0 0, .slice none 0 0, .int .i64 0] 42) = W14 at *
            have hBk := HBK.out.upd hU14 (fun f => f)
            have hCk := HCK.out.upd hU14
            have hBb := HBB.out.upd hU14 (fun f => f)
            have hCb := HCB.out.upd hU14
            have hUw := HUW.out.trans hU14 (fun _ _ f => f)
            clear k0 k1 k2 hU13 hU14 HBK HCK HBB HCB HUW
            have k0 := hBk.cell 0
            have k1 := hBk.cell 1
            have k2 := hBk.cell 2
            have l0 := hBb.cell 0
            have l1 := hBb.cell 1
            have l2 := hBb.cell 2
            simp only [List.getElem?_cons_zero, List.getElem?_cons_succ] at k0 k1 k2 l0 l1 l2
            have HCK := Lib.hid hCk
            have HCB := Lib.hid hCb
            have HBB := Lib.hid hBb
            have HUW := Lib.hid hUw
            clear hBk hCk hBb hCb hUw
            go_upto_region 34 with (go_at_call 22; refine (find_cr _ vc vd nc nd [64, -1] [textS 97, ⟨#[]⟩] 1 _ 0 false HCK.out (by omega) (find_neg (by omega))).mono ?_; rintro e W15 ⟨rfl, hU15⟩)
            clear k0 k1 k2 l0 l1 l2
            have hBb := HBB.out.upd hU15 (fun f => f)
            have l0 := hBb.cell 0
            have l1 := hBb.cell 1
            have l2 := hBb.cell 2
            simp only [List.getElem?_cons_zero, List.getElem?_cons_succ] at l0 l1 l2
            have HCB2 := Lib.hid (HCB.out.upd hU15)
            have HUW2 := Lib.hid (HUW.out.trans hU15 (fun _ _ f => f))
            clear hBb hU15 HUW HCB HBB HCK
            go_wp2_with (first | (go_at_call 14; refine (num_any _ _).mono ?_; rintro e w' ⟨rfl, rfl⟩) | (go_at_call 25; refine (may_bad _ _ _ _ _ _ _ xs ts nx HCB2.out HBAD.out).mono ?_; rintro e W16 ⟨rfl, hU16⟩))
            go_ret
            exact ⟨rfl, HUW2.out.trans hU16 (fun _ _ f => f)⟩
end Go.Proofs.Ytdlhhlebbnefkaa
