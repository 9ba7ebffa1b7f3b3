/- The law LineRound (the regions lines were printed by mkline.py). -/
import Derived.Test.YtdlhhlebbnefkaaLineP
import Derived.Test.YtdlhhlebbnefkaaAwake12
import Derived.Test.YtdlhhlebbnefkaaBits
namespace Go.Proofs.Ytdlhhlebbnefkaa
open Go.RowKit
set_option maxRecDepth 100000 in
set_option maxHeartbeats 4000000 in
theorem lawLineRound (w : World) (a : Int) (_ : (Lit.int .i64 a).wf = true) (b : Int) (_ : (Lit.int .i64 b).wf = true) (c : Int) (_ : (Lit.int .i64 c).wf = true) :
    Calls Try.prog 9 #[.int .i64 a, .int .i64 b, .int .i64 c] w fun e w' => e = .returned (.bool true) ∧ Upd none' w w' := by
  have ha := i64_and63 a
  have hb := i64_and63 b
  have hc := i64_and63 c
  obtain ⟨p, hp⟩ : ∃ p, a % 64 = p := ⟨_, rfl⟩
  obtain ⟨q, hq⟩ : ∃ q, b % 64 = q := ⟨_, rfl⟩
  obtain ⟨r, hr⟩ : ∃ r, c % 64 = r := ⟨_, rfl⟩
  rw [hp] at ha
  rw [hq] at hb
  rw [hr] at hc
  have bp : 0 ≤ p ∧ p < 64 := by omega
  have bq : 0 ≤ q ∧ q < 64 := by omega
  have br : 0 ≤ r ∧ r < 64 := by omega
  clear hp hq hr
  obtain ⟨x, hx⟩ : ∃ x, p * 16 = x := ⟨_, rfl⟩
  obtain ⟨q1, hq1⟩ : ∃ q1, 64 + q = q1 := ⟨_, rfl⟩
  obtain ⟨y, hy⟩ : ∃ y, q1 * 16 = y := ⟨_, rfl⟩
  obtain ⟨r1, hr1⟩ : ∃ r1, 128 + r = r1 := ⟨_, rfl⟩
  obtain ⟨z, hz⟩ : ∃ z, r1 * 16 = z := ⟨_, rfl⟩
  have wx : IntKind.i64.wrap (p * 16) = x := by rw [hx]; exact IntWalk.i64_in _ (by omega)
  have wq : IntKind.i64.wrap (64 + q) = q1 := by rw [hq1]; exact IntWalk.i64_in _ (by omega)
  have wy : IntKind.i64.wrap (q1 * 16) = y := by rw [hy]; exact IntWalk.i64_in _ (by omega)
  have wr : IntKind.i64.wrap (128 + r) = r1 := by rw [hr1]; exact IntWalk.i64_in _ (by omega)
  have wz : IntKind.i64.wrap (r1 * 16) = z := by rw [hz]; exact IntWalk.i64_in _ (by omega)
  have wz1 : IntKind.i64.wrap (z + 1) = z + 1 := IntWalk.i64_in _ (by omega)
  have bx : beginsB x = true := decide_eq_true (by omega)
  have by' : beginsB y = true := decide_eq_true (by omega)
  have bz : beginsB z = true := decide_eq_true (by omega)
  have hxy : x ≠ y := by omega
  have hxz : x ≠ z := by omega
  have hyz : y ≠ z := by omega
  have hx1 : x ≠ -1 := by omega
  have x0 : 0 ≤ x ∧ x < 4096 ∧ x % 16 = 0 := by omega
  have y0 : 0 ≤ y ∧ y < 4096 ∧ y % 16 = 0 := by omega
  have z0 : 0 ≤ z ∧ z < 4080 ∧ z % 16 = 0 := by omega
  clear hx hq1 hy hr1 hz bp bq br
  go_enter Try.func9, Try.ntmps9
  go_wp2_with fail
  refine (awake12 w).mono ?_
  rintro e w0 ⟨rfl, hU0⟩
  go_upto_region 5 with (first
    | (go_at_call 27; refine (new_cr _).mono ?_; rintro e w1 ⟨a1, c1, a2, c2, rfl, hC1, hU1⟩)
    | (go_at_call 31; refine (text_walk _ 120).mono ?_; rintro e w2 ⟨rfl, hU2⟩)
    | (go_at_call 20; refine (keep_cr2 _ a1 a2 c1 c2 [-1, -1] [⟨#[]⟩, ⟨#[]⟩] 0 x (textS 120) [x, -1] [textS 120, ⟨#[]⟩] 1 (keep_first hx1 _ _ _) (hC1.upd hU2) rfl bx (text_size _)).mono ?_; rintro e w3 ⟨va, na, vb, nb, rfl, hC3, hf3, hf3', hU3⟩))
  have hUw := (((hU0.trans hU1 (fun _ _ f => f)).trans hU2 (fun _ _ f => f)).trans hU3 (fun _ _ f => f)).alloc (.cells #[.slice va 2 na, .slice vb 2 nb, .int .i64 1] 42)
  have hBk := Blk.new w3 [.slice va 2 na, .slice vb 2 nb, .int .i64 1] 42
  have hCk := hC3.upd ((Upd.refl none' w3).alloc (.cells #[.slice va 2 na, .slice vb 2 nb, .int .i64 1] 42))
  have so : w.heap.size ≤ w3.heap.size := (((hU0.trans hU1 (fun _ _ f => f)).trans hU2 (fun _ _ f => f)).trans hU3 (fun _ _ f => f)).size
  generalize w3.heap.size = ok at *
  generalize w3.alloc (.cells #[.slice va 2 na, .slice vb 2 nb, .int .i64 1] 42) = W at *
  clear hC1 hC3 hU0 hU1 hU2 hU3 hf3 hf3'
  have k0 := hBk.cell 0
  have k1 := hBk.cell 1
  have k2 := hBk.cell 2
  simp only [List.getElem?_cons_zero, List.getElem?_cons_succ] at k0 k1 k2
  have HB1 := Lib.hid hBk
  have HC1 := Lib.hid hCk
  have s1 := HB1.out.lt
  have HS1 := Lib.hid hBk
  have t1 := HS1.out.lt
  go_cut [12] (fun s3 wx => KeptIn W wx ok s3 [x, y] [textS 120, textS 121] 0)
  case first =>
    go_region_with
      (first
      | (go_at_call 31; refine (text_walk _ 121).mono ?_; rintro e w33 ⟨rfl, hU33⟩; have d0 := ((HB1.out).upd (S := none') (w' := w33) (by (repeat (first | (with_reducible exact Upd.refl _ _) | (with_reducible refine Upd.drew ?_) | (with_reducible refine Upd.alloc ?_ _) | (refine Upd.trans (T := none') ?_ (by assumption) (fun _ _ f => f.elim))))) (fun f => f)).cell 0; have d1 := ((HB1.out).upd (S := none') (w' := w33) (by (repeat (first | (with_reducible exact Upd.refl _ _) | (with_reducible refine Upd.drew ?_) | (with_reducible refine Upd.alloc ?_ _) | (refine Upd.trans (T := none') ?_ (by assumption) (fun _ _ f => f.elim))))) (fun f => f)).cell 1; have d2 := ((HB1.out).upd (S := none') (w' := w33) (by (repeat (first | (with_reducible exact Upd.refl _ _) | (with_reducible refine Upd.drew ?_) | (with_reducible refine Upd.alloc ?_ _) | (refine Upd.trans (T := none') ?_ (by assumption) (fun _ _ f => f.elim))))) (fun f => f)).cell 2; simp only [List.getElem?_cons_zero, List.getElem?_cons_succ] at d0 d1 d2; have s33 : ok < w33.heap.size := ((HB1.out).upd (S := none') (w' := w33) (by (repeat (first | (with_reducible exact Upd.refl _ _) | (with_reducible refine Upd.drew ?_) | (with_reducible refine Upd.alloc ?_ _) | (refine Upd.trans (T := none') ?_ (by assumption) (fun _ _ f => f.elim))))) (fun f => f)).lt)
      | (go_at_call 20; refine (keep_cr2 _ va vb na nb [x, -1] [textS 120, ⟨#[]⟩] 1 y (textS 121) [x, y] [textS 120, textS 121] 0 (keep_new1 hxy (fun h => by omega) _ _ _) (HC1.out.upd ?hq1) (may1 bx (text_size _)) by' (text_size _)).mono ?_; (case hq1 => (repeat (first | (with_reducible exact Upd.refl _ _) | (with_reducible refine Upd.drew ?_) | (with_reducible refine Upd.alloc ?_ _) | (refine Upd.trans (T := none') ?_ (by assumption) (fun _ _ f => f.elim))))); rintro e w34 ⟨b1, g1, b2, g2, rfl, hC34, hf34, hf35, hU34⟩; have e0 := ((HB1.out).upd (S := none') (w' := w34) (by (repeat (first | (with_reducible exact Upd.refl _ _) | (with_reducible refine Upd.drew ?_) | (with_reducible refine Upd.alloc ?_ _) | (refine Upd.trans (T := none') ?_ (by assumption) (fun _ _ f => f.elim))))) (fun f => f)).cell 0; have e1 := ((HB1.out).upd (S := none') (w' := w34) (by (repeat (first | (with_reducible exact Upd.refl _ _) | (with_reducible refine Upd.drew ?_) | (with_reducible refine Upd.alloc ?_ _) | (refine Upd.trans (T := none') ?_ (by assumption) (fun _ _ f => f.elim))))) (fun f => f)).cell 1; have e2 := ((HB1.out).upd (S := none') (w' := w34) (by (repeat (first | (with_reducible exact Upd.refl _ _) | (with_reducible refine Upd.drew ?_) | (with_reducible refine Upd.alloc ?_ _) | (refine Upd.trans (T := none') ?_ (by assumption) (fun _ _ f => f.elim))))) (fun f => f)).cell 2; simp only [List.getElem?_cons_zero, List.getElem?_cons_succ] at e0 e1 e2; have s34 : ok < w34.heap.size := ((HB1.out).upd (S := none') (w' := w34) (by (repeat (first | (with_reducible exact Upd.refl _ _) | (with_reducible refine Upd.drew ?_) | (with_reducible refine Upd.alloc ?_ _) | (refine Upd.trans (T := none') ?_ (by assumption) (fun _ _ f => f.elim))))) (fun f => f)).lt; have z34 : Hid (Blk w34 ok _ _) := ((HS1.out).upd (S := none') (w' := w34) (by (repeat (first | (with_reducible exact Upd.refl _ _) | (with_reducible refine Upd.drew ?_) | (with_reducible refine Upd.alloc ?_ _) | (refine Upd.trans (T := none') ?_ (by assumption) (fun _ _ f => f.elim))))) (fun f => f)); have q0 := z34.out.cell 0; have q1 := z34.out.cell 1; have q2 := z34.out.cell 2; have r0 := z34.out.frozen 0; have r1 := z34.out.frozen 1; have r2 := z34.out.frozen 2; have s34' := z34.out.lt; simp only [List.getElem?_cons_zero, List.getElem?_cons_succ] at q0 q1 q2))
    all_goals
      have Z33 := hU33.size
      have Z34 := hU34.size
      simp only [heap_drew] at Z33 Z34 hf34 hf35
      clear k0 k1 k2 d0 d1 d2 e0 e1 e2
      have U1 : Upd none' W w33 := (Upd.refl none' W).drew.trans hU33 (fun _ _ f => f)
      have U2 : Upd none' w33 w34 := hU34
      clear hU33 hU34
      go_wp2_with fail
      go_meet
      exact kept_in W w33 w34 ok _ _ _ _ _ _ _ _ _ _ hC34 U1 U2 z34.out (fun k hk => by have := hf34 k hk; omega) (fun k hk => by have := hf35 k hk; omega) _ rfl
  case rest =>
    obtain ⟨vc, nc, vd, nd, rfl, hBk2, hCk2, hUk⟩ := hcut
    have hUw2 : Upd none' w wc := hUw.trans hUk (fun k h1 h2 => by omega)
    clear hUk hUw hBk hCk
    rename World => W5
    go_upto_region 6 with fail
    have k0 := hBk2.cell 0
    have k1 := hBk2.cell 1
    have k2 := hBk2.cell 2
    simp only [List.getElem?_cons_zero, List.getElem?_cons_succ] at k0 k1 k2
    have HB1 := Lib.hid hBk2
    have HC1 := Lib.hid hCk2
    have s1 := HB1.out.lt
    go_cut [13, 14] (fun s2 s3 wx => Kept W5 wx s2 s3 [x, y] [textS 119, textS 121] 0)
    case first =>
      go_region_held3 (fun w' => w'.cell? ⟨ok, 0, none⟩ = some (.slice vc 2 nc) ∧ w'.cell? ⟨ok, 1, none⟩ = some (.slice vd 2 nd) ∧ w'.cell? ⟨ok, 2, none⟩ = some (.int .i64 0)) (first | exact ⟨k0, k1, k2⟩ | exact ⟨d0, d1, d2⟩ | exact ⟨e0, e1, e2⟩ | exact ⟨by go_simp, by go_simp, by go_simp⟩)
        (first
        | (go_at_call 31; refine (text_walk _ 119).mono ?_; rintro e w33 ⟨rfl, hU33⟩; have d0 := ((HB1.out).upd (S := none') (w' := w33) (by (repeat (first | (with_reducible exact Upd.refl _ _) | (with_reducible refine Upd.drew ?_) | (with_reducible refine Upd.alloc ?_ _) | (refine Upd.trans (T := none') ?_ (by assumption) (fun _ _ f => f.elim))))) (fun f => f)).cell 0; have d1 := ((HB1.out).upd (S := none') (w' := w33) (by (repeat (first | (with_reducible exact Upd.refl _ _) | (with_reducible refine Upd.drew ?_) | (with_reducible refine Upd.alloc ?_ _) | (refine Upd.trans (T := none') ?_ (by assumption) (fun _ _ f => f.elim))))) (fun f => f)).cell 1; have d2 := ((HB1.out).upd (S := none') (w' := w33) (by (repeat (first | (with_reducible exact Upd.refl _ _) | (with_reducible refine Upd.drew ?_) | (with_reducible refine Upd.alloc ?_ _) | (refine Upd.trans (T := none') ?_ (by assumption) (fun _ _ f => f.elim))))) (fun f => f)).cell 2; simp only [List.getElem?_cons_zero, List.getElem?_cons_succ] at d0 d1 d2; have s33 : ok < w33.heap.size := ((HB1.out).upd (S := none') (w' := w33) (by (repeat (first | (with_reducible exact Upd.refl _ _) | (with_reducible refine Upd.drew ?_) | (with_reducible refine Upd.alloc ?_ _) | (refine Upd.trans (T := none') ?_ (by assumption) (fun _ _ f => f.elim))))) (fun f => f)).lt; try (have z33 : Hid (Blk w33 W5.heap.size [.slice none 0 0, .slice none 0 0, .int .i64 0] 42) := (Blk.new W5 [.slice none 0 0, .slice none 0 0, .int .i64 0] 42).drew.upd (S := none') hU33 (fun f => f); have q0 := z33.out.cell 0; have q1 := z33.out.cell 1; have q2 := z33.out.cell 2; have r0 := z33.out.frozen 0; have r1 := z33.out.frozen 1; have r2 := z33.out.frozen 2; have s33' := z33.out.lt; simp only [List.getElem?_cons_zero, List.getElem?_cons_succ] at q0 q1 q2))
        | (go_at_call 20; refine (keep_cr2 _ vc vd nc nd [x, y] [textS 120, textS 121] 0 x (textS 119) [x, y] [textS 119, textS 121] 0 (keep_old0 _ _ _) (HC1.out.upd ?hq1) (may2 bx by' hxy (text_size _) (text_size _) (by decide) (by decide)) bx (text_size _)).mono ?_; (case hq1 => (repeat (first | (with_reducible exact Upd.refl _ _) | (with_reducible refine Upd.drew ?_) | (with_reducible refine Upd.alloc ?_ _) | (refine Upd.trans (T := none') ?_ (by assumption) (fun _ _ f => f.elim))))); rintro e w34 ⟨b1, g1, b2, g2, rfl, hC34, hf34, hf35, hU34⟩; have e0 := ((HB1.out).upd (S := none') (w' := w34) (by (repeat (first | (with_reducible exact Upd.refl _ _) | (with_reducible refine Upd.drew ?_) | (with_reducible refine Upd.alloc ?_ _) | (refine Upd.trans (T := none') ?_ (by assumption) (fun _ _ f => f.elim))))) (fun f => f)).cell 0; have e1 := ((HB1.out).upd (S := none') (w' := w34) (by (repeat (first | (with_reducible exact Upd.refl _ _) | (with_reducible refine Upd.drew ?_) | (with_reducible refine Upd.alloc ?_ _) | (refine Upd.trans (T := none') ?_ (by assumption) (fun _ _ f => f.elim))))) (fun f => f)).cell 1; have e2 := ((HB1.out).upd (S := none') (w' := w34) (by (repeat (first | (with_reducible exact Upd.refl _ _) | (with_reducible refine Upd.drew ?_) | (with_reducible refine Upd.alloc ?_ _) | (refine Upd.trans (T := none') ?_ (by assumption) (fun _ _ f => f.elim))))) (fun f => f)).cell 2; simp only [List.getElem?_cons_zero, List.getElem?_cons_succ] at e0 e1 e2; have s34 : ok < w34.heap.size := ((HB1.out).upd (S := none') (w' := w34) (by (repeat (first | (with_reducible exact Upd.refl _ _) | (with_reducible refine Upd.drew ?_) | (with_reducible refine Upd.alloc ?_ _) | (refine Upd.trans (T := none') ?_ (by assumption) (fun _ _ f => f.elim))))) (fun f => f)).lt; first | (have z34 : Hid (Blk w34 W5.heap.size [.slice none 0 0, .slice none 0 0, .int .i64 0] 42) := z33.out.upd (S := none') hU34 (fun f => f); have q0 := z34.out.cell 0; have q1 := z34.out.cell 1; have q2 := z34.out.cell 2; have r0 := z34.out.frozen 0; have r1 := z34.out.frozen 1; have r2 := z34.out.frozen 2; have s34' := z34.out.lt; simp only [List.getElem?_cons_zero, List.getElem?_cons_succ] at q0 q1 q2) | (have z34 : Hid (Blk w34 w33.heap.size [.slice none 0 0, .slice none 0 0, .int .i64 0] 42) := (Blk.new w33 [.slice none 0 0, .slice none 0 0, .int .i64 0] 42).upd (S := none') hU34 (fun f => f); have q0 := z34.out.cell 0; have q1 := z34.out.cell 1; have q2 := z34.out.cell 2; have r0 := z34.out.frozen 0; have r1 := z34.out.frozen 1; have r2 := z34.out.frozen 2; have s34' := z34.out.lt; simp only [List.getElem?_cons_zero, List.getElem?_cons_succ] at q0 q1 q2) | skip))
      all_goals
        have Z33 := hU33.size
        have Z34 := hU34.size
        simp only [heap_drew, World.size_alloc] at Z33 Z34 hf34 hf35
        clear k0 k1 k2 d0 d1 d2 e0 e1 e2
      · have U1 : Upd none' W5 w33 := (Upd.refl none' W5).drew.trans hU33 (fun _ _ f => f)
        have U2 : Upd none' w33 w34 := hU34
        clear hU33 hU34
        go_wp2_with fail
        go_meet
        exact kept_alloc W5 w33 w34 _ _ _ _ _ _ _ hC34 U1 U2 (fun k hk => by have := hf34 k hk; omega) (fun k hk => by have := hf35 k hk; omega)
      · have U1 : Upd none' W5 w33 := (Upd.refl none' W5).drew.trans hU33 (fun _ _ f => f)
        have U2 : Upd none' w33 w34 := ((Upd.refl none' w33).alloc _).trans hU34 (fun _ _ f => f)
        clear hU33 hU34
        go_wp2_with fail
        go_meet
        exact kept_set W5 w33 w34 w33.heap.size _ _ _ _ _ _ _ _ _ _ hC34 U1 U2 z34.out (fun k hk => by have := hf34 k hk; omega) (fun k hk => by have := hf35 k hk; omega) (by omega) _ rfl
      · have U1 : Upd none' W5 w33 := ((Upd.refl none' W5).alloc _).drew.trans hU33 (fun _ _ f => f)
        have U2 : Upd none' w33 w34 := hU34
        clear hU33 hU34
        go_wp2_with fail
        go_meet
        exact kept_set W5 w33 w34 W5.heap.size _ _ _ _ _ _ _ _ _ _ hC34 U1 U2 z34.out (fun k hk => by have := hf34 k hk; omega) (fun k hk => by have := hf35 k hk; omega) (by omega) _ rfl
    case rest =>
      obtain ⟨od, ve, ne, vf, nf, rfl, rfl, hBd, hCd, hfd, hfd', hod, hUd⟩ := hcut
      have hkl := hBk2.lt
      have hBk3 := hBk2.upd hUd (fun f => f)
      have hUw3 : Upd none' w wc := hUw2.trans hUd (fun _ _ f => f)
      clear hUd hUw2 hBk2 hCk2
      rename World => W6
      go_upto_region 7 with fail
      have k0 := hBd.cell 0
      have k1 := hBd.cell 1
      have k2 := hBd.cell 2
      simp only [List.getElem?_cons_zero, List.getElem?_cons_succ] at k0 k1 k2
      have HB1 := Lib.hid hBd
      have HC1 := Lib.hid hCd
      have s1 := HB1.out.lt
      have HS1 := Lib.hid hBk3
      have t1 := HS1.out.lt
      go_cut [15] (fun s3 wx => KeptIn W6 wx ok s3 [z, y] [textS 122, textS 121] 1)
      case first =>
        go_region_with
          (first
          | (go_at_call 31; refine (text_walk _ 122).mono ?_; rintro e w33 ⟨rfl, hU33⟩; have d0 := ((HB1.out).upd (S := none') (w' := w33) (by (repeat (first | (with_reducible exact Upd.refl _ _) | (with_reducible refine Upd.drew ?_) | (with_reducible refine Upd.alloc ?_ _) | (refine Upd.trans (T := none') ?_ (by assumption) (fun _ _ f => f.elim))))) (fun f => f)).cell 0; have d1 := ((HB1.out).upd (S := none') (w' := w33) (by (repeat (first | (with_reducible exact Upd.refl _ _) | (with_reducible refine Upd.drew ?_) | (with_reducible refine Upd.alloc ?_ _) | (refine Upd.trans (T := none') ?_ (by assumption) (fun _ _ f => f.elim))))) (fun f => f)).cell 1; have d2 := ((HB1.out).upd (S := none') (w' := w33) (by (repeat (first | (with_reducible exact Upd.refl _ _) | (with_reducible refine Upd.drew ?_) | (with_reducible refine Upd.alloc ?_ _) | (refine Upd.trans (T := none') ?_ (by assumption) (fun _ _ f => f.elim))))) (fun f => f)).cell 2; simp only [List.getElem?_cons_zero, List.getElem?_cons_succ] at d0 d1 d2; have s33 : od < w33.heap.size := ((HB1.out).upd (S := none') (w' := w33) (by (repeat (first | (with_reducible exact Upd.refl _ _) | (with_reducible refine Upd.drew ?_) | (with_reducible refine Upd.alloc ?_ _) | (refine Upd.trans (T := none') ?_ (by assumption) (fun _ _ f => f.elim))))) (fun f => f)).lt)
          | (go_at_call 20; refine (keep_cr2 _ ve vf ne nf [x, y] [textS 119, textS 121] 0 z (textS 122) [z, y] [textS 122, textS 121] 1 (keep_new0 hxz hyz _ _ _) (HC1.out.upd ?hq1) (may2 bx by' hxy (text_size _) (text_size _) (by decide) (by decide)) bz (text_size _)).mono ?_; (case hq1 => (repeat (first | (with_reducible exact Upd.refl _ _) | (with_reducible refine Upd.drew ?_) | (with_reducible refine Upd.alloc ?_ _) | (refine Upd.trans (T := none') ?_ (by assumption) (fun _ _ f => f.elim))))); rintro e w34 ⟨b1, g1, b2, g2, rfl, hC34, hf34, hf35, hU34⟩; have e0 := ((HB1.out).upd (S := none') (w' := w34) (by (repeat (first | (with_reducible exact Upd.refl _ _) | (with_reducible refine Upd.drew ?_) | (with_reducible refine Upd.alloc ?_ _) | (refine Upd.trans (T := none') ?_ (by assumption) (fun _ _ f => f.elim))))) (fun f => f)).cell 0; have e1 := ((HB1.out).upd (S := none') (w' := w34) (by (repeat (first | (with_reducible exact Upd.refl _ _) | (with_reducible refine Upd.drew ?_) | (with_reducible refine Upd.alloc ?_ _) | (refine Upd.trans (T := none') ?_ (by assumption) (fun _ _ f => f.elim))))) (fun f => f)).cell 1; have e2 := ((HB1.out).upd (S := none') (w' := w34) (by (repeat (first | (with_reducible exact Upd.refl _ _) | (with_reducible refine Upd.drew ?_) | (with_reducible refine Upd.alloc ?_ _) | (refine Upd.trans (T := none') ?_ (by assumption) (fun _ _ f => f.elim))))) (fun f => f)).cell 2; simp only [List.getElem?_cons_zero, List.getElem?_cons_succ] at e0 e1 e2; have s34 : od < w34.heap.size := ((HB1.out).upd (S := none') (w' := w34) (by (repeat (first | (with_reducible exact Upd.refl _ _) | (with_reducible refine Upd.drew ?_) | (with_reducible refine Upd.alloc ?_ _) | (refine Upd.trans (T := none') ?_ (by assumption) (fun _ _ f => f.elim))))) (fun f => f)).lt; have z34 : Hid (Blk w34 ok _ _) := ((HS1.out).upd (S := none') (w' := w34) (by (repeat (first | (with_reducible exact Upd.refl _ _) | (with_reducible refine Upd.drew ?_) | (with_reducible refine Upd.alloc ?_ _) | (refine Upd.trans (T := none') ?_ (by assumption) (fun _ _ f => f.elim))))) (fun f => f)); have q0 := z34.out.cell 0; have q1 := z34.out.cell 1; have q2 := z34.out.cell 2; have r0 := z34.out.frozen 0; have r1 := z34.out.frozen 1; have r2 := z34.out.frozen 2; have s34' := z34.out.lt; simp only [List.getElem?_cons_zero, List.getElem?_cons_succ] at q0 q1 q2))
        all_goals
          have Z33 := hU33.size
          have Z34 := hU34.size
          simp only [heap_drew] at Z33 Z34 hf34 hf35
          clear k0 k1 k2 d0 d1 d2 e0 e1 e2
          have U1 : Upd none' W6 w33 := (Upd.refl none' W6).drew.trans hU33 (fun _ _ f => f)
          have U2 : Upd none' w33 w34 := hU34
          clear hU33 hU34
          go_wp2_with fail
          go_meet
          exact kept_in W6 w33 w34 ok _ _ _ _ _ _ _ _ _ _ hC34 U1 U2 z34.out (fun k hk => by have := hf34 k hk; omega) (fun k hk => by have := hf35 k hk; omega) _ rfl
      case rest =>
        obtain ⟨vg, ng, vh, nh, rfl, hBk4, hCk4, hUk4⟩ := hcut
        have hBd4 := hBd.upd hUk4 (by omega)
        have hCd4 := hCd.updS hUk4 (fun k hk e => by have := hfd k hk; omega) (fun k hk e => by have := hfd' k hk; omega)
        have hUw4 : Upd none' w wc := hUw3.trans hUk4 (fun k h1 h2 => by omega)
        clear hUk4 hUw3 hBk3 hBd hCd hfd hfd'
        rename World => W7
        have fa : findV [x, y] [textS 119, textS 121] 0 x = (119, true) := by rw [find2 (may2 bx by' hxy (text_size _) (text_size _) (by decide) (by decide)) x0.1, if_pos (by omega), show (x % 16).toNat = 0 by omega]; kernel_rfl
        have hmz : mayB [z, y] [textS 122, textS 121] 1 = true := may2 bz by' (Ne.symm hyz) (text_size _) (text_size _) (by decide) (by decide)
        have fb : findV [z, y] [textS 122, textS 121] 1 x = (0, false) := by rw [find2 hmz x0.1, if_neg (by omega), if_neg (by omega)]
        have fc : findV [z, y] [textS 122, textS 121] 1 y = (121, true) := by rw [find2 hmz y0.1, if_neg (by omega), if_pos (by omega), show (y % 16).toNat = 0 by omega]; kernel_rfl
        have fd : findV [z, y] [textS 122, textS 121] 1 (z + 1) = (123, true) := by rw [find2 hmz (by omega), if_pos (by omega), show ((z + 1) % 16).toNat = 1 by omega]; kernel_rfl
        have FA := Lib.hid fa
        have FB := Lib.hid fb
        have FC := Lib.hid fc
        have FD := Lib.hid fd
        have lb : ∀ u : UW W7, u.val.cell? ⟨ok, 0, none⟩ = some (.slice vg 2 ng) ∧ u.val.cell? ⟨ok, 1, none⟩ = some (.slice vh 2 nh) ∧ u.val.cell? ⟨ok, 2, none⟩ = some (.int .i64 1) := fun u => by
          have h := hBk4.upd u.upd (fun f => f)
          exact ⟨h.cell 0, h.cell 1, h.cell 2⟩
        have LB := Lib.hid lb
        clear fa fb fc fd hmz lb bx by' bz
        have k0 := hBd4.cell 0
        have k1 := hBd4.cell 1
        have k2 := hBd4.cell 2
        simp only [List.getElem?_cons_zero, List.getElem?_cons_succ] at k0 k1 k2
        go_wp2_with fail
        refine (find_cr W7 ve vf ne nf [x, y] [textS 119, textS 121] 0 x 119 true hCd4 (by omega) FA.out).mono ?_
        rintro e w8 ⟨rfl, hU8⟩
        clear k0 k1 k2
        obtain ⟨k0, k1, k2⟩ := LB.out ⟨w8, hU8⟩
        dsimp only at k0 k1 k2
        go_wp2_with fail
        refine (find_cr w8 vg vh ng nh [z, y] [textS 122, textS 121] 1 x 0 false (hCk4.upd hU8) (by omega) FB.out).mono ?_
        rintro e w9 ⟨rfl, hU9⟩
        have hU9 := hU8.trans hU9 (fun _ _ f => f)
        clear k0 k1 k2
        obtain ⟨k0, k1, k2⟩ := LB.out ⟨w9, hU9⟩
        dsimp only at k0 k1 k2
        go_wp2_with fail
        refine (find_cr w9 vg vh ng nh [z, y] [textS 122, textS 121] 1 y 121 true (hCk4.upd hU9) (by omega) FC.out).mono ?_
        rintro e w10 ⟨rfl, hU10⟩
        have hU10 := hU9.trans hU10 (fun _ _ f => f)
        clear k0 k1 k2
        obtain ⟨k0, k1, k2⟩ := LB.out ⟨w10, hU10⟩
        dsimp only at k0 k1 k2
        go_wp2_with fail
        refine (find_cr w10 vg vh ng nh [z, y] [textS 122, textS 121] 1 (z + 1) 123 true (hCk4.upd hU10) (by omega) FD.out).mono ?_
        rintro e w11 ⟨rfl, hU11⟩
        have hU11 := hU10.trans hU11 (fun _ _ f => f)
        clear k0 k1 k2
        have hBd11 := hBd4.upd hU11 (fun f => f)
        have k2 := hBd11.cell 2
        simp only [List.getElem?_cons_zero, List.getElem?_cons_succ] at k2
        go_wp2_with (go_at_call 14; refine (num_any _ _).mono ?_; rintro e w' ⟨rfl, rfl⟩)
        go_ret
        exact ⟨rfl, hUw4.trans hU11 (fun _ _ f => f)⟩
end Go.Proofs.Ytdlhhlebbnefkaa
