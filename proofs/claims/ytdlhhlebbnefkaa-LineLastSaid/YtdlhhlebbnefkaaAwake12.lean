/- lichenlaw12.awake (the regions' lines were printed by mkline.py). -/
import Derived.Test.YtdlhhlebbnefkaaLineC
namespace Go.Proofs.Ytdlhhlebbnefkaa
open Go.RowKit
set_option maxHeartbeats 2000000 in
theorem awake12 (w : World) :
    Calls Try.prog 30 #[] w fun e w' => e = .returned (.bool true) ∧ Upd none' w w' := by
  go_enter Try.func30, Try.ntmps30
  go_upto_region 2 with (go_at_call 27; refine (new_cr _).mono ?_; rintro e w1 ⟨a1, c1, a2, c2, rfl, hC1, hU1⟩)
  have hB0 := Blk.new w1 [.slice a1 2 c1, .slice a2 2 c2, .int .i64 0] 42
  have hC0 := hC1.upd ((Upd.refl none' w1).alloc (.cells #[.slice a1 2 c1, .slice a2 2 c2, .int .i64 0] 42))
  have hU0 := hU1.alloc (.cells #[.slice a1 2 c1, .slice a2 2 c2, .int .i64 0] 42)
  have so := hU1.size
  generalize w1.heap.size = oc at *
  generalize w1.alloc (.cells #[.slice a1 2 c1, .slice a2 2 c2, .int .i64 0] 42) = W1 at *
  clear hC1 hU1
  have k0 := hB0.cell 0
  have k1 := hB0.cell 1
  have k2 := hB0.cell 2
  simp only [List.getElem?_cons_zero, List.getElem?_cons_succ] at k0 k1 k2
  have HB1 := Lib.hid hB0
  have HC1 := Lib.hid hC0
  have s1 := HB1.out.lt
  go_cut [2, 3] (fun s2 s3 wx => Kept W1 wx s2 s3 [32, -1] [textS 97, ⟨#[]⟩] 1)
  case first =>
    go_region_held3 (fun w' => w'.cell? ⟨oc, 0, none⟩ = some (.slice a1 2 c1) ∧ w'.cell? ⟨oc, 1, none⟩ = some (.slice a2 2 c2) ∧ w'.cell? ⟨oc, 2, none⟩ = some (.int .i64 0)) (first | exact ⟨k0, k1, k2⟩ | exact ⟨d0, d1, d2⟩ | exact ⟨e0, e1, e2⟩ | exact ⟨by go_simp, by go_simp, by go_simp⟩)
      (first
      | (go_at_call 31; refine (text_walk _ 97).mono ?_; rintro e w33 ⟨rfl, hU33⟩; have d0 := ((HB1.out).upd (S := none') (w' := w33) (by (repeat (first | (with_reducible exact Upd.refl _ _) | (with_reducible refine Upd.drew ?_) | (with_reducible refine Upd.alloc ?_ _) | (refine Upd.trans (T := none') ?_ (by assumption) (fun _ _ f => f.elim))))) (fun f => f)).cell 0; have d1 := ((HB1.out).upd (S := none') (w' := w33) (by (repeat (first | (with_reducible exact Upd.refl _ _) | (with_reducible refine Upd.drew ?_) | (with_reducible refine Upd.alloc ?_ _) | (refine Upd.trans (T := none') ?_ (by assumption) (fun _ _ f => f.elim))))) (fun f => f)).cell 1; have d2 := ((HB1.out).upd (S := none') (w' := w33) (by (repeat (first | (with_reducible exact Upd.refl _ _) | (with_reducible refine Upd.drew ?_) | (with_reducible refine Upd.alloc ?_ _) | (refine Upd.trans (T := none') ?_ (by assumption) (fun _ _ f => f.elim))))) (fun f => f)).cell 2; simp only [List.getElem?_cons_zero, List.getElem?_cons_succ] at d0 d1 d2; have s33 : oc < w33.heap.size := ((HB1.out).upd (S := none') (w' := w33) (by (repeat (first | (with_reducible exact Upd.refl _ _) | (with_reducible refine Upd.drew ?_) | (with_reducible refine Upd.alloc ?_ _) | (refine Upd.trans (T := none') ?_ (by assumption) (fun _ _ f => f.elim))))) (fun f => f)).lt; try (have z33 : Hid (Blk w33 W1.heap.size [.slice none 0 0, .slice none 0 0, .int .i64 0] 42) := (Blk.new W1 [.slice none 0 0, .slice none 0 0, .int .i64 0] 42).drew.upd (S := none') hU33 (fun f => f); have q0 := z33.out.cell 0; have q1 := z33.out.cell 1; have q2 := z33.out.cell 2; have r0 := z33.out.frozen 0; have r1 := z33.out.frozen 1; have r2 := z33.out.frozen 2; have s33' := z33.out.lt; simp only [List.getElem?_cons_zero, List.getElem?_cons_succ] at q0 q1 q2))
      | (go_at_call 20; refine (keep_cr _ a1 a2 c1 c2 [-1, -1] [⟨#[]⟩, ⟨#[]⟩] 0 32 (textS 97) (HC1.out.upd ?hq1) rfl rfl (text_size _)).mono ?_; (case hq1 => (repeat (first | (with_reducible exact Upd.refl _ _) | (with_reducible refine Upd.drew ?_) | (with_reducible refine Upd.alloc ?_ _) | (refine Upd.trans (T := none') ?_ (by assumption) (fun _ _ f => f.elim))))); rintro e w34 ⟨b1, g1, b2, g2, rfl, hC34, hf34, hf35, hU34⟩; have e0 := ((HB1.out).upd (S := none') (w' := w34) (by (repeat (first | (with_reducible exact Upd.refl _ _) | (with_reducible refine Upd.drew ?_) | (with_reducible refine Upd.alloc ?_ _) | (refine Upd.trans (T := none') ?_ (by assumption) (fun _ _ f => f.elim))))) (fun f => f)).cell 0; have e1 := ((HB1.out).upd (S := none') (w' := w34) (by (repeat (first | (with_reducible exact Upd.refl _ _) | (with_reducible refine Upd.drew ?_) | (with_reducible refine Upd.alloc ?_ _) | (refine Upd.trans (T := none') ?_ (by assumption) (fun _ _ f => f.elim))))) (fun f => f)).cell 1; have e2 := ((HB1.out).upd (S := none') (w' := w34) (by (repeat (first | (with_reducible exact Upd.refl _ _) | (with_reducible refine Upd.drew ?_) | (with_reducible refine Upd.alloc ?_ _) | (refine Upd.trans (T := none') ?_ (by assumption) (fun _ _ f => f.elim))))) (fun f => f)).cell 2; simp only [List.getElem?_cons_zero, List.getElem?_cons_succ] at e0 e1 e2; have s34 : oc < w34.heap.size := ((HB1.out).upd (S := none') (w' := w34) (by (repeat (first | (with_reducible exact Upd.refl _ _) | (with_reducible refine Upd.drew ?_) | (with_reducible refine Upd.alloc ?_ _) | (refine Upd.trans (T := none') ?_ (by assumption) (fun _ _ f => f.elim))))) (fun f => f)).lt; first | (have z34 : Hid (Blk w34 W1.heap.size [.slice none 0 0, .slice none 0 0, .int .i64 0] 42) := z33.out.upd (S := none') hU34 (fun f => f); have q0 := z34.out.cell 0; have q1 := z34.out.cell 1; have q2 := z34.out.cell 2; have r0 := z34.out.frozen 0; have r1 := z34.out.frozen 1; have r2 := z34.out.frozen 2; have s34' := z34.out.lt; simp only [List.getElem?_cons_zero, List.getElem?_cons_succ] at q0 q1 q2) | (have z34 : Hid (Blk w34 w33.heap.size [.slice none 0 0, .slice none 0 0, .int .i64 0] 42) := (Blk.new w33 [.slice none 0 0, .slice none 0 0, .int .i64 0] 42).upd (S := none') hU34 (fun f => f); have q0 := z34.out.cell 0; have q1 := z34.out.cell 1; have q2 := z34.out.cell 2; have r0 := z34.out.frozen 0; have r1 := z34.out.frozen 1; have r2 := z34.out.frozen 2; have s34' := z34.out.lt; simp only [List.getElem?_cons_zero, List.getElem?_cons_succ] at q0 q1 q2) | skip))
    all_goals
      have Z33 := hU33.size
      have Z34 := hU34.size
      simp only [heap_drew, World.size_alloc] at Z33 Z34 hf34 hf35
      clear k0 k1 k2 d0 d1 d2 e0 e1 e2
    · have U1 : Upd none' W1 w33 := (Upd.refl none' W1).drew.trans hU33 (fun _ _ f => f)
      have U2 : Upd none' w33 w34 := hU34
      clear hU33 hU34
      go_wp2_with fail
      go_meet
      exact kept_alloc W1 w33 w34 _ _ _ _ _ _ _ hC34 U1 U2 (fun k hk => by have := hf34 k hk; omega) (fun k hk => by have := hf35 k hk; omega)
    · have U1 : Upd none' W1 w33 := (Upd.refl none' W1).drew.trans hU33 (fun _ _ f => f)
      have U2 : Upd none' w33 w34 := ((Upd.refl none' w33).alloc _).trans hU34 (fun _ _ f => f)
      clear hU33 hU34
      go_wp2_with fail
      go_meet
      exact kept_set W1 w33 w34 w33.heap.size _ _ _ _ _ _ _ _ _ _ hC34 U1 U2 z34.out (fun k hk => by have := hf34 k hk; omega) (fun k hk => by have := hf35 k hk; omega) (by omega) _ rfl
    · have U1 : Upd none' W1 w33 := ((Upd.refl none' W1).alloc _).drew.trans hU33 (fun _ _ f => f)
      have U2 : Upd none' w33 w34 := hU34
      clear hU33 hU34
      go_wp2_with fail
      go_meet
      exact kept_set W1 w33 w34 W1.heap.size _ _ _ _ _ _ _ _ _ _ hC34 U1 U2 z34.out (fun k hk => by have := hf34 k hk; omega) (fun k hk => by have := hf35 k hk; omega) (by omega) _ rfl
  case rest =>
    obtain ⟨od, b1, d1, b2, d2, rfl, rfl, hBd, hCd, -, -, hod, hUd⟩ := hcut
    have hBc := hB0.upd hUd (fun f => f)
    have hCc := hC0.upd hUd
    have hUc := hU0.trans hUd (fun _ _ f => f)
    have k0 := hBd.cell 0
    have k1 := hBd.cell 1
    have k2 := hBd.cell 2
    simp only [List.getElem?_cons_zero, List.getElem?_cons_succ] at k0 k1 k2
    go_wp2_with fail
    refine (find_cr wc b1 b2 d1 d2 [32, -1] [textS 97, ⟨#[]⟩] 1 35 100 true hCd (by decide) (by kernel_rfl)).mono ?_
    rintro e w2 ⟨rfl, hU2⟩
    have hBd2 := hBd.upd hU2 (fun f => f)
    have k0 := hBd2.cell 0
    have k1 := hBd2.cell 1
    have k2 := hBd2.cell 2
    simp only [List.getElem?_cons_zero, List.getElem?_cons_succ] at k0 k1 k2
    go_wp2_with fail
    refine (find_cr w2 b1 b2 d1 d2 [32, -1] [textS 97, ⟨#[]⟩] 1 48 0 false (hCd.upd hU2) (by decide) (by kernel_rfl)).mono ?_
    rintro e w3 ⟨rfl, hU3⟩
    go_upto_region 5 with fail
    have hU23 := hU2.trans hU3 (fun _ _ f => f)
    have hBc3 := hBc.upd hU23 (fun f => f)
    have hCc3 := hCc.upd hU23
    have hBd3 := hBd.upd hU23 (fun f => f)
    have hCd3 := hCd.upd hU23
    have hUw3 := hUc.trans hU23 (fun _ _ f => f)
    clear k0 k1 k2 hBd2 hU2 hU3 hU23 hBc hCc hBd hCd hUc hB0 hC0 hU0 hUd
    have k0 := hBc3.cell 0
    have k1 := hBc3.cell 1
    have k2 := hBc3.cell 2
    simp only [List.getElem?_cons_zero, List.getElem?_cons_succ] at k0 k1 k2
    have HB1 := Lib.hid hBc3
    have HC1 := Lib.hid hCc3
    have s1 := HB1.out.lt
    go_cut [8, 9] (fun s2 s3 wx => KeptNo w3 wx s2 s3)
    case first =>
      go_region_held3 (fun w' => w'.cell? ⟨oc, 0, none⟩ = some (.slice a1 2 c1) ∧ w'.cell? ⟨oc, 1, none⟩ = some (.slice a2 2 c2) ∧ w'.cell? ⟨oc, 2, none⟩ = some (.int .i64 0)) (first | exact ⟨k0, k1, k2⟩ | exact ⟨d0, d1, d2⟩ | exact ⟨e0, e1, e2⟩ | exact ⟨by go_simp, by go_simp, by go_simp⟩)
        (first
        | (go_at_call 31; refine (text_walk _ 97).mono ?_; rintro e w33 ⟨rfl, hU33⟩; have d0 := ((HB1.out).upd (S := none') (w' := w33) (by (repeat (first | (with_reducible exact Upd.refl _ _) | (with_reducible refine Upd.drew ?_) | (with_reducible refine Upd.alloc ?_ _) | (refine Upd.trans (T := none') ?_ (by assumption) (fun _ _ f => f.elim))))) (fun f => f)).cell 0; have d1 := ((HB1.out).upd (S := none') (w' := w33) (by (repeat (first | (with_reducible exact Upd.refl _ _) | (with_reducible refine Upd.drew ?_) | (with_reducible refine Upd.alloc ?_ _) | (refine Upd.trans (T := none') ?_ (by assumption) (fun _ _ f => f.elim))))) (fun f => f)).cell 1; have d2 := ((HB1.out).upd (S := none') (w' := w33) (by (repeat (first | (with_reducible exact Upd.refl _ _) | (with_reducible refine Upd.drew ?_) | (with_reducible refine Upd.alloc ?_ _) | (refine Upd.trans (T := none') ?_ (by assumption) (fun _ _ f => f.elim))))) (fun f => f)).cell 2; simp only [List.getElem?_cons_zero, List.getElem?_cons_succ] at d0 d1 d2; have s33 : oc < w33.heap.size := ((HB1.out).upd (S := none') (w' := w33) (by (repeat (first | (with_reducible exact Upd.refl _ _) | (with_reducible refine Upd.drew ?_) | (with_reducible refine Upd.alloc ?_ _) | (refine Upd.trans (T := none') ?_ (by assumption) (fun _ _ f => f.elim))))) (fun f => f)).lt; try (have z33 : Hid (Blk w33 w3.heap.size [.slice none 0 0, .slice none 0 0, .int .i64 0] 42) := (Blk.new w3 [.slice none 0 0, .slice none 0 0, .int .i64 0] 42).drew.upd (S := none') hU33 (fun f => f); have q0 := z33.out.cell 0; have q1 := z33.out.cell 1; have q2 := z33.out.cell 2; have r0 := z33.out.frozen 0; have r1 := z33.out.frozen 1; have r2 := z33.out.frozen 2; have s33' := z33.out.lt; simp only [List.getElem?_cons_zero, List.getElem?_cons_succ] at q0 q1 q2))
        | (go_at_call 20; refine (keep_no _ (.slice a1 2 c1) (.slice a2 2 c2) [-1, -1] [⟨#[]⟩, ⟨#[]⟩] 0 33 (textS 97) (HC1.out.upd ?hq1).r1 (HC1.out.upd ?hq2).r2 rfl).mono ?_; (case hq1 => (repeat (first | (with_reducible exact Upd.refl _ _) | (with_reducible refine Upd.drew ?_) | (with_reducible refine Upd.alloc ?_ _) | (refine Upd.trans (T := none') ?_ (by assumption) (fun _ _ f => f.elim))))); (case hq2 => (repeat (first | (with_reducible exact Upd.refl _ _) | (with_reducible refine Upd.drew ?_) | (with_reducible refine Upd.alloc ?_ _) | (refine Upd.trans (T := none') ?_ (by assumption) (fun _ _ f => f.elim))))); rintro e w34 ⟨rfl, hU34⟩; unfold cacheV; have e0 := ((HB1.out).upd (S := none') (w' := w34) (by (repeat (first | (with_reducible exact Upd.refl _ _) | (with_reducible refine Upd.drew ?_) | (with_reducible refine Upd.alloc ?_ _) | (refine Upd.trans (T := none') ?_ (by assumption) (fun _ _ f => f.elim))))) (fun f => f)).cell 0; have e1 := ((HB1.out).upd (S := none') (w' := w34) (by (repeat (first | (with_reducible exact Upd.refl _ _) | (with_reducible refine Upd.drew ?_) | (with_reducible refine Upd.alloc ?_ _) | (refine Upd.trans (T := none') ?_ (by assumption) (fun _ _ f => f.elim))))) (fun f => f)).cell 1; have e2 := ((HB1.out).upd (S := none') (w' := w34) (by (repeat (first | (with_reducible exact Upd.refl _ _) | (with_reducible refine Upd.drew ?_) | (with_reducible refine Upd.alloc ?_ _) | (refine Upd.trans (T := none') ?_ (by assumption) (fun _ _ f => f.elim))))) (fun f => f)).cell 2; simp only [List.getElem?_cons_zero, List.getElem?_cons_succ] at e0 e1 e2; have s34 : oc < w34.heap.size := ((HB1.out).upd (S := none') (w' := w34) (by (repeat (first | (with_reducible exact Upd.refl _ _) | (with_reducible refine Upd.drew ?_) | (with_reducible refine Upd.alloc ?_ _) | (refine Upd.trans (T := none') ?_ (by assumption) (fun _ _ f => f.elim))))) (fun f => f)).lt; first | (have z34 : Hid (Blk w34 w3.heap.size [.slice none 0 0, .slice none 0 0, .int .i64 0] 42) := z33.out.upd (S := none') hU34 (fun f => f); have q0 := z34.out.cell 0; have q1 := z34.out.cell 1; have q2 := z34.out.cell 2; have r0 := z34.out.frozen 0; have r1 := z34.out.frozen 1; have r2 := z34.out.frozen 2; have s34' := z34.out.lt; simp only [List.getElem?_cons_zero, List.getElem?_cons_succ] at q0 q1 q2) | (have z34 : Hid (Blk w34 w33.heap.size [.slice none 0 0, .slice none 0 0, .int .i64 0] 42) := (Blk.new w33 [.slice none 0 0, .slice none 0 0, .int .i64 0] 42).upd (S := none') hU34 (fun f => f); have q0 := z34.out.cell 0; have q1 := z34.out.cell 1; have q2 := z34.out.cell 2; have r0 := z34.out.frozen 0; have r1 := z34.out.frozen 1; have r2 := z34.out.frozen 2; have s34' := z34.out.lt; simp only [List.getElem?_cons_zero, List.getElem?_cons_succ] at q0 q1 q2) | skip))
      all_goals
        have Z33 := hU33.size
        have Z34 := hU34.size
        simp only [heap_drew, World.size_alloc] at Z33 Z34
        clear k0 k1 k2 d0 d1 d2 e0 e1 e2
      · have U1 : Upd none' w3 w33 := (Upd.refl none' w3).drew.trans hU33 (fun _ _ f => f)
        have U2 : Upd none' w33 w34 := hU34
        clear hU33 hU34
        go_wp2_with fail
        go_meet
        exact kept_no_alloc w3 w33 w34 U1 U2
      · have U1 : Upd none' w3 w33 := (Upd.refl none' w3).drew.trans hU33 (fun _ _ f => f)
        have U2 : Upd none' w33 w34 := ((Upd.refl none' w33).alloc _).trans hU34 (fun _ _ f => f)
        clear hU33 hU34
        go_wp2_with fail
        go_meet
        exact kept_no_set w3 w33 w34 w33.heap.size U1 U2 (by omega) _ rfl
      · have U1 : Upd none' w3 w33 := ((Upd.refl none' w3).alloc _).drew.trans hU33 (fun _ _ f => f)
        have U2 : Upd none' w33 w34 := hU34
        clear hU33 hU34
        go_wp2_with fail
        go_meet
        exact kept_no_set w3 w33 w34 w3.heap.size U1 U2 (by omega) _ rfl
    case rest =>
      obtain ⟨o8, rfl, rfl, ho8, hU8⟩ := hcut
      have hUw8 := hUw3.trans hU8 (fun _ _ f => f)
      have hBc8 := hBc3.upd hU8 (fun f => f)
      have hCc8 := hCc3.upd hU8
      have hBd8 := hBd3.upd hU8 (fun f => f)
      have hCd8 := hCd3.upd hU8
      clear hBc3 hCc3 hBd3 hCd3 hU8 hUw3
      go_upto_region 7 with (first
        | (go_at_call 31; refine (text_walk _ 97).mono ?_; rintro e w9 ⟨rfl, hU9⟩)
        | (go_at_call 20; refine (keep_nil _ 32 (textS 97)).mono ?_; rintro e w10 ⟨rfl, hU10⟩))
      have hU11 := ((hU9.trans hU10 (fun _ _ f => f)).alloc (.cells #[.slice none 0 0, .slice none 0 0, .int .i64 0] 42))
      have hBc := hBc8.upd hU11 (fun f => f)
      have hCc := hCc8.upd hU11
      have hBd := hBd8.upd hU11 (fun f => f)
      have hCd := hCd8.upd hU11
      have hUw := hUw8.trans hU11 (fun _ _ f => f)
      generalize w10.alloc (.cells #[.slice none 0 0, .slice none 0 0, .int .i64 0] 42) = w11 at *
      clear hBc8 hCc8 hBd8 hCd8 hUw8 hU11 hU9 hU10
      have k0 := hBc.cell 0
      have k1 := hBc.cell 1
      have k2 := hBc.cell 2
      simp only [List.getElem?_cons_zero, List.getElem?_cons_succ] at k0 k1 k2
      go_wp2_with fail
      refine (may_cr w11 a1 a2 c1 c2 [-1, -1] [⟨#[]⟩, ⟨#[]⟩] 0 true hCc rfl).mono ?_
      rintro e w12 ⟨rfl, hU12⟩
      clear k0 k1 k2
      have hBd := hBd.upd hU12 (fun f => f)
      have hCd := hCd.upd hU12
      have hUw := hUw.trans hU12 (fun _ _ f => f)
      have k0 := hBd.cell 0
      have k1 := hBd.cell 1
      have k2 := hBd.cell 2
      simp only [List.getElem?_cons_zero, List.getElem?_cons_succ] at k0 k1 k2
      go_wp2_with fail
      refine (may_cr w12 b1 b2 d1 d2 [32, -1] [textS 97, ⟨#[]⟩] 1 true hCd (by kernel_rfl)).mono ?_
      rintro e w13 ⟨rfl, hU13⟩
      clear k0 k1 k2
      have hBd := hBd.upd hU13 (fun f => f)
      have hUw := hUw.trans hU13 (fun _ _ f => f)
      have k2 := hBd.cell 2
      simp only [List.getElem?_cons_zero, List.getElem?_cons_succ] at k2
      go_wp2_with (first | (go_at_call 14; refine (num_any _ _).mono ?_; rintro e w' ⟨rfl, rfl⟩) | (go_at_call 25; refine (may_nil _).mono ?_; rintro e w14 ⟨rfl, hU14⟩))
      go_ret
      exact ⟨rfl, hUw.trans hU14 (fun _ _ f => f)⟩
end Go.Proofs.Ytdlhhlebbnefkaa
