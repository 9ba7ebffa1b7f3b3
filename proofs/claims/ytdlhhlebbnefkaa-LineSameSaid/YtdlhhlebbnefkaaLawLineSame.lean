/- LineSame: a line that is kept anew with the same text turns nothing; what is not kept is not there: for every row of places and every other place. No condition. -/
import Derived.Test.YtdlhhlebbnefkaaLineR
import Derived.Test.YtdlhhlebbnefkaaSame
import Derived.Test.YtdlhhlebbnefkaaAwake12
import Derived.Test.YtdlhhlebbnefkaaBits
namespace Go.Proofs.Ytdlhhlebbnefkaa
open Go.RowKit
set_option maxRecDepth 100000 in
set_option maxHeartbeats 1000000 in
theorem lawLineSame (w : World) (v0 : Value) (zs : List Int) (h0 : IntsR w v0 zs) (ot : Int) (_ : (Lit.int .i64 ot).wf = true) :
    Calls Try.prog 10 #[v0, .int .i64 ot] w fun e w' => e = .returned (.bool true) ∧ Upd none' w w' := by
  have hR := Lib.hid h0
  obtain ⟨hz1, _, za, zcap, rfl, hz4, hz5⟩ := h0
  go_enter Try.func10, Try.ntmps10
  go_wp2_with fail
  refine (awake12 w).mono ?_
  rintro e w0 ⟨rfl, hU0⟩
  go_wp2_with (go_at_call 27; refine (new_cr _).mono ?_; rintro e w1 ⟨va, na, vb, nb, rfl, hC1, hU1⟩)
  have hUw := (hU0.trans hU1 (fun _ _ f => f)).alloc (.cells #[.slice va 2 na, .slice vb 2 nb, .int .i64 0] 42)
  have hBk := Blk.new w1 [.slice va 2 na, .slice vb 2 nb, .int .i64 0] 42
  have hCk := hC1.upd ((Upd.refl none' w1).alloc (.cells #[.slice va 2 na, .slice vb 2 nb, .int .i64 0] 42))
  have so : w.heap.size ≤ w1.heap.size := (hU0.trans hU1 (fun _ _ f => f)).size
  generalize w1.heap.size = oc at *
  generalize w1.alloc (.cells #[.slice va 2 na, .slice vb 2 nb, .int .i64 0] 42) = W at *
  clear hC1 hU0 hU1
  go_loopw [6, 7] (fun lv iv wr => ∃ (i : Nat) (last : Int) (xs : List Int) (ts : List ByteArray) (nx : Int) (a1 a2 : Option Addr) (c1 c2 : Nat), iv = .int .i64 i ∧ lv = .int .i64 last ∧ i ≤ zs.length ∧ i ≤ 10 ∧ Upd none' w wr ∧ Blk wr oc [.slice a1 2 c1, .slice a2 2 c2, .int .i64 nx] 42 ∧ CR wr a1 c1 a2 c2 xs ts ∧ mayB xs ts nx = true) (fun _ iv _ => zs.length - (intOf iv).toNat)
  case atStart => exact ⟨0, -1, [-1, -1], [⟨#[]⟩, ⟨#[]⟩], 0, va, vb, na, nb, rfl, rfl, by omega, by omega, hUw, hBk, hCk, rfl⟩
  case round =>
    obtain ⟨i, last, xs, ts, nx, va, vb, na, nb, rfl, rfl, hi, hi10, hUw, hBk, hCk, hm⟩ := hrel
    by_cases hlt : i < zs.length ∧ i < 10
    · obtain ⟨hl1, hl2⟩ := hlt
      obtain ⟨bb, oo, rfl, hbb, hcc⟩ := hz5 (by intro h; simp [h] at hl1)
      have hcell : wr.cell? ⟨bb, oo + i, none⟩ = some (.int .i64 (zs.getD i 0)) := by
        rw [hUw.cell (p := ⟨bb, oo + i, none⟩) hbb (fun f => f)]; exact hcc i hl1
      clear hcc hbb
      obtain ⟨z, hz⟩ : ∃ z, zs.getD i 0 = z := ⟨_, rfl⟩
      rw [hz] at hcell
      clear hz
      have HUw := Lib.hid hUw
      have HR := Lib.hid hz5
      clear hz4 hz5 hUw
      go_upto_region 9 with fail
      obtain ⟨c, a, htm, hw, hw9, hwa, hba⟩ := byte_of z
      rw [htm, hw]
      have hw9' : IntKind.u8.wrap (c.toNat : Int) = (c.toNat : Int) := u8_wrap_byte c
      clear htm hw hcell hw9
      have k0 := hBk.cell 0
      have k1 := hBk.cell 1
      have k2 := hBk.cell 2
      simp only [List.getElem?_cons_zero, List.getElem?_cons_succ] at k0 k1 k2
      have HB1 := Lib.hid hBk
      have HC1 := Lib.hid hCk
      have s1 := HB1.out.lt
      go_cut [9, 10] (fun s2 s3 wx => Kept wr wx s2 s3 (xs.set (keepAt xs nx a) a) (ts.set (keepAt xs nx a) (textS c)) (nextOf xs nx a))
      case first =>
        go_region_held3 (fun w' => w'.cell? ⟨oc, 0, none⟩ = some (.slice va 2 na) ∧ w'.cell? ⟨oc, 1, none⟩ = some (.slice vb 2 nb) ∧ w'.cell? ⟨oc, 2, none⟩ = some (.int .i64 nx)) (first | exact ⟨k0, k1, k2⟩ | exact ⟨d0, d1, d2⟩ | exact ⟨e0, e1, e2⟩ | exact ⟨by go_simp, by go_simp, by go_simp⟩)
          (first
          | (go_at_call 31; (try rw [hw9']); refine (text_walk _ c).mono ?_; rintro e w33 ⟨rfl, hU33⟩; have d0 := ((HB1.out).upd (S := none') (w' := w33) (by (repeat (first | (with_reducible exact Upd.refl _ _) | (with_reducible refine Upd.drew ?_) | (with_reducible refine Upd.alloc ?_ _) | (refine Upd.trans (T := none') ?_ (by assumption) (fun _ _ f => f.elim))))) (fun f => f)).cell 0; have d1 := ((HB1.out).upd (S := none') (w' := w33) (by (repeat (first | (with_reducible exact Upd.refl _ _) | (with_reducible refine Upd.drew ?_) | (with_reducible refine Upd.alloc ?_ _) | (refine Upd.trans (T := none') ?_ (by assumption) (fun _ _ f => f.elim))))) (fun f => f)).cell 1; have d2 := ((HB1.out).upd (S := none') (w' := w33) (by (repeat (first | (with_reducible exact Upd.refl _ _) | (with_reducible refine Upd.drew ?_) | (with_reducible refine Upd.alloc ?_ _) | (refine Upd.trans (T := none') ?_ (by assumption) (fun _ _ f => f.elim))))) (fun f => f)).cell 2; simp only [List.getElem?_cons_zero, List.getElem?_cons_succ] at d0 d1 d2; have s33 : oc < w33.heap.size := ((HB1.out).upd (S := none') (w' := w33) (by (repeat (first | (with_reducible exact Upd.refl _ _) | (with_reducible refine Upd.drew ?_) | (with_reducible refine Upd.alloc ?_ _) | (refine Upd.trans (T := none') ?_ (by assumption) (fun _ _ f => f.elim))))) (fun f => f)).lt; try (have z33 : Hid (Blk w33 wr.heap.size [.slice none 0 0, .slice none 0 0, .int .i64 0] 42) := (Blk.new wr [.slice none 0 0, .slice none 0 0, .int .i64 0] 42).drew.upd (S := none') hU33 (fun f => f); have q0 := z33.out.cell 0; have q1 := z33.out.cell 1; have q2 := z33.out.cell 2; have r0 := z33.out.frozen 0; have r1 := z33.out.frozen 1; have r2 := z33.out.frozen 2; have s33' := z33.out.lt; simp only [List.getElem?_cons_zero, List.getElem?_cons_succ] at q0 q1 q2))
          | (go_at_call 20; (try rw [hwa]); refine (keep_cr _ va vb na nb xs ts nx a (textS c) (HC1.out.upd ?hq1) hm hba (text_size _)).mono ?_; (case hq1 => (repeat (first | (with_reducible exact Upd.refl _ _) | (with_reducible refine Upd.drew ?_) | (with_reducible refine Upd.alloc ?_ _) | (refine Upd.trans (T := none') ?_ (by assumption) (fun _ _ f => f.elim))))); rintro e w34 ⟨b1, g1, b2, g2, rfl, hC34, hf34, hf35, hU34⟩; have e0 := ((HB1.out).upd (S := none') (w' := w34) (by (repeat (first | (with_reducible exact Upd.refl _ _) | (with_reducible refine Upd.drew ?_) | (with_reducible refine Upd.alloc ?_ _) | (refine Upd.trans (T := none') ?_ (by assumption) (fun _ _ f => f.elim))))) (fun f => f)).cell 0; have e1 := ((HB1.out).upd (S := none') (w' := w34) (by (repeat (first | (with_reducible exact Upd.refl _ _) | (with_reducible refine Upd.drew ?_) | (with_reducible refine Upd.alloc ?_ _) | (refine Upd.trans (T := none') ?_ (by assumption) (fun _ _ f => f.elim))))) (fun f => f)).cell 1; have e2 := ((HB1.out).upd (S := none') (w' := w34) (by (repeat (first | (with_reducible exact Upd.refl _ _) | (with_reducible refine Upd.drew ?_) | (with_reducible refine Upd.alloc ?_ _) | (refine Upd.trans (T := none') ?_ (by assumption) (fun _ _ f => f.elim))))) (fun f => f)).cell 2; simp only [List.getElem?_cons_zero, List.getElem?_cons_succ] at e0 e1 e2; have s34 : oc < w34.heap.size := ((HB1.out).upd (S := none') (w' := w34) (by (repeat (first | (with_reducible exact Upd.refl _ _) | (with_reducible refine Upd.drew ?_) | (with_reducible refine Upd.alloc ?_ _) | (refine Upd.trans (T := none') ?_ (by assumption) (fun _ _ f => f.elim))))) (fun f => f)).lt; first | (have z34 : Hid (Blk w34 wr.heap.size [.slice none 0 0, .slice none 0 0, .int .i64 0] 42) := z33.out.upd (S := none') hU34 (fun f => f); have q0 := z34.out.cell 0; have q1 := z34.out.cell 1; have q2 := z34.out.cell 2; have r0 := z34.out.frozen 0; have r1 := z34.out.frozen 1; have r2 := z34.out.frozen 2; have s34' := z34.out.lt; simp only [List.getElem?_cons_zero, List.getElem?_cons_succ] at q0 q1 q2) | (have z34 : Hid (Blk w34 w33.heap.size [.slice none 0 0, .slice none 0 0, .int .i64 0] 42) := (Blk.new w33 [.slice none 0 0, .slice none 0 0, .int .i64 0] 42).upd (S := none') hU34 (fun f => f); have q0 := z34.out.cell 0; have q1 := z34.out.cell 1; have q2 := z34.out.cell 2; have r0 := z34.out.frozen 0; have r1 := z34.out.frozen 1; have r2 := z34.out.frozen 2; have s34' := z34.out.lt; simp only [List.getElem?_cons_zero, List.getElem?_cons_succ] at q0 q1 q2) | skip))
        all_goals
          have Z33 := hU33.size
          have Z34 := hU34.size
          simp only [heap_drew, World.size_alloc] at Z33 Z34 hf34 hf35
          clear k0 k1 k2 d0 d1 d2 e0 e1 e2
        · have U1 : Upd none' wr w33 := (Upd.refl none' wr).drew.trans hU33 (fun _ _ f => f)
          have U2 : Upd none' w33 w34 := hU34
          clear hU33 hU34
          go_wp2_with fail
          go_meet
          exact kept_alloc wr w33 w34 _ _ _ _ _ _ _ hC34 U1 U2 (fun k hk => by have := hf34 k hk; omega) (fun k hk => by have := hf35 k hk; omega)
        · have U1 : Upd none' wr w33 := (Upd.refl none' wr).drew.trans hU33 (fun _ _ f => f)
          have U2 : Upd none' w33 w34 := ((Upd.refl none' w33).alloc _).trans hU34 (fun _ _ f => f)
          clear hU33 hU34
          go_wp2_with fail
          go_meet
          exact kept_set wr w33 w34 w33.heap.size _ _ _ _ _ _ _ _ _ _ hC34 U1 U2 z34.out (fun k hk => by have := hf34 k hk; omega) (fun k hk => by have := hf35 k hk; omega) (by omega) _ rfl
        · have U1 : Upd none' wr w33 := ((Upd.refl none' wr).alloc _).drew.trans hU33 (fun _ _ f => f)
          have U2 : Upd none' w33 w34 := hU34
          clear hU33 hU34
          go_wp2_with fail
          go_meet
          exact kept_set wr w33 w34 wr.heap.size _ _ _ _ _ _ _ _ _ _ hC34 U1 U2 z34.out (fun k hk => by have := hf34 k hk; omega) (fun k hk => by have := hf35 k hk; omega) (by omega) _ rfl
      case rest =>
        obtain ⟨od, vc, nc, vd, nd, rfl, rfl, hBd, hCd, hf1, hf2, hod, hUd⟩ := hcut
        have hol := hBk.lt
        have hn1 : ∀ k, (Value.slice vc 2 nc).ownBlock = some k → k ≠ oc := fun k hk => by have := hf1 k hk; omega
        have hn2 : ∀ k, (Value.slice vd 2 nd).ownBlock = some k → k ≠ oc := fun k hk => by have := hf2 k hk; omega
        have HN1 := Lib.hid hn1
        have HN2 := Lib.hid hn2
        clear hf1 hf2 hn1 hn2
        have hUw := HUw.out
        have hBk2 := hBk.upd hUd (fun f => f)
        have hUw2 : Upd none' w wc := hUw.trans hUd (fun _ _ f => f)
        obtain ⟨hm2, hE2, -⟩ := keep_law hm hba (text_size c)
        dsimp only at hE2
        have HBK := Lib.hid hBk2
        clear hUd hUw hBk hCk hBk2
        rename World => W5
        generalize xs.set (keepAt xs nx a) a = xs2 at *
        generalize ts.set (keepAt xs nx a) (textS c) = ts2 at *
        generalize nextOf xs nx a = nx2 at *
        go_upto_region 10 with fail
        have k0 := hBd.cell 0
        have k1 := hBd.cell 1
        have k2 := hBd.cell 2
        simp only [List.getElem?_cons_zero, List.getElem?_cons_succ] at k0 k1 k2
        have HB1 := Lib.hid hBd
        have HC1 := Lib.hid hCd
        have s1 := HB1.out.lt
        go_cut [11, 12] (fun s2 s3 wx => Kept W5 wx s2 s3 xs2 ts2 nx2)
        case first =>
          go_region_held3 (fun w' => w'.cell? ⟨od, 0, none⟩ = some (.slice vc 2 nc) ∧ w'.cell? ⟨od, 1, none⟩ = some (.slice vd 2 nd) ∧ w'.cell? ⟨od, 2, none⟩ = some (.int .i64 nx2)) (first | exact ⟨k0, k1, k2⟩ | exact ⟨d0, d1, d2⟩ | exact ⟨e0, e1, e2⟩ | exact ⟨by go_simp, by go_simp, by go_simp⟩)
            (first
            | (go_at_call 31; (try rw [hw9']); refine (text_walk _ c).mono ?_; rintro e w33 ⟨rfl, hU33⟩; have d0 := ((HB1.out).upd (S := none') (w' := w33) (by (repeat (first | (with_reducible exact Upd.refl _ _) | (with_reducible refine Upd.drew ?_) | (with_reducible refine Upd.alloc ?_ _) | (refine Upd.trans (T := none') ?_ (by assumption) (fun _ _ f => f.elim))))) (fun f => f)).cell 0; have d1 := ((HB1.out).upd (S := none') (w' := w33) (by (repeat (first | (with_reducible exact Upd.refl _ _) | (with_reducible refine Upd.drew ?_) | (with_reducible refine Upd.alloc ?_ _) | (refine Upd.trans (T := none') ?_ (by assumption) (fun _ _ f => f.elim))))) (fun f => f)).cell 1; have d2 := ((HB1.out).upd (S := none') (w' := w33) (by (repeat (first | (with_reducible exact Upd.refl _ _) | (with_reducible refine Upd.drew ?_) | (with_reducible refine Upd.alloc ?_ _) | (refine Upd.trans (T := none') ?_ (by assumption) (fun _ _ f => f.elim))))) (fun f => f)).cell 2; simp only [List.getElem?_cons_zero, List.getElem?_cons_succ] at d0 d1 d2; have s33 : od < w33.heap.size := ((HB1.out).upd (S := none') (w' := w33) (by (repeat (first | (with_reducible exact Upd.refl _ _) | (with_reducible refine Upd.drew ?_) | (with_reducible refine Upd.alloc ?_ _) | (refine Upd.trans (T := none') ?_ (by assumption) (fun _ _ f => f.elim))))) (fun f => f)).lt; try (have z33 : Hid (Blk w33 W5.heap.size [.slice none 0 0, .slice none 0 0, .int .i64 0] 42) := (Blk.new W5 [.slice none 0 0, .slice none 0 0, .int .i64 0] 42).drew.upd (S := none') hU33 (fun f => f); have q0 := z33.out.cell 0; have q1 := z33.out.cell 1; have q2 := z33.out.cell 2; have r0 := z33.out.frozen 0; have r1 := z33.out.frozen 1; have r2 := z33.out.frozen 2; have s33' := z33.out.lt; simp only [List.getElem?_cons_zero, List.getElem?_cons_succ] at q0 q1 q2))
            | (go_at_call 20; (try rw [hwa]); refine (keep_cr2 _ vc vd nc nd xs2 ts2 nx2 a (textS c) xs2 ts2 nx2 hE2 (HC1.out.upd ?hq1) hm2 hba (text_size _)).mono ?_; (case hq1 => (repeat (first | (with_reducible exact Upd.refl _ _) | (with_reducible refine Upd.drew ?_) | (with_reducible refine Upd.alloc ?_ _) | (refine Upd.trans (T := none') ?_ (by assumption) (fun _ _ f => f.elim))))); rintro e w34 ⟨b1, g1, b2, g2, rfl, hC34, hf34, hf35, hU34⟩; have e0 := ((HB1.out).upd (S := none') (w' := w34) (by (repeat (first | (with_reducible exact Upd.refl _ _) | (with_reducible refine Upd.drew ?_) | (with_reducible refine Upd.alloc ?_ _) | (refine Upd.trans (T := none') ?_ (by assumption) (fun _ _ f => f.elim))))) (fun f => f)).cell 0; have e1 := ((HB1.out).upd (S := none') (w' := w34) (by (repeat (first | (with_reducible exact Upd.refl _ _) | (with_reducible refine Upd.drew ?_) | (with_reducible refine Upd.alloc ?_ _) | (refine Upd.trans (T := none') ?_ (by assumption) (fun _ _ f => f.elim))))) (fun f => f)).cell 1; have e2 := ((HB1.out).upd (S := none') (w' := w34) (by (repeat (first | (with_reducible exact Upd.refl _ _) | (with_reducible refine Upd.drew ?_) | (with_reducible refine Upd.alloc ?_ _) | (refine Upd.trans (T := none') ?_ (by assumption) (fun _ _ f => f.elim))))) (fun f => f)).cell 2; simp only [List.getElem?_cons_zero, List.getElem?_cons_succ] at e0 e1 e2; have s34 : od < w34.heap.size := ((HB1.out).upd (S := none') (w' := w34) (by (repeat (first | (with_reducible exact Upd.refl _ _) | (with_reducible refine Upd.drew ?_) | (with_reducible refine Upd.alloc ?_ _) | (refine Upd.trans (T := none') ?_ (by assumption) (fun _ _ f => f.elim))))) (fun f => f)).lt; first | (have z34 : Hid (Blk w34 W5.heap.size [.slice none 0 0, .slice none 0 0, .int .i64 0] 42) := z33.out.upd (S := none') hU34 (fun f => f); have q0 := z34.out.cell 0; have q1 := z34.out.cell 1; have q2 := z34.out.cell 2; have r0 := z34.out.frozen 0; have r1 := z34.out.frozen 1; have r2 := z34.out.frozen 2; have s34' := z34.out.lt; simp only [List.getElem?_cons_zero, List.getElem?_cons_succ] at q0 q1 q2) | (have z34 : Hid (Blk w34 w33.heap.size [.slice none 0 0, .slice none 0 0, .int .i64 0] 42) := (Blk.new w33 [.slice none 0 0, .slice none 0 0, .int .i64 0] 42).upd (S := none') hU34 (fun f => f); have q0 := z34.out.cell 0; have q1 := z34.out.cell 1; have q2 := z34.out.cell 2; have r0 := z34.out.frozen 0; have r1 := z34.out.frozen 1; have r2 := z34.out.frozen 2; have s34' := z34.out.lt; simp only [List.getElem?_cons_zero, List.getElem?_cons_succ] at q0 q1 q2) | skip))
          all_goals
            have Z33 := hU33.size
            have Z34 := hU34.size
            simp only [heap_drew, World.size_alloc] at Z33 Z34 hf34 hf35
            clear k0 k1 k2 d0 d1 d2 e0 e1 e2
          · have U1 : Upd none' W5 w33 := (Upd.refl none' W5).drew.trans hU33 (fun _ _ f => f)
            have U2 : Upd none' w33 w34 := hU34
            clear hU33 hU34
            go_wp2_with fail
            go_meet
            exact kept_alloc W5 w33 w34 _ _ _ _ _ _ _ hC34 U1 U2 (fun k hk => by have := hf34 k hk; omega) (fun k hk => by have := hf35 k hk; omega)
          · have U1 : Upd none' W5 w33 := (Upd.refl none' W5).drew.trans hU33 (fun _ _ f => f)
            have U2 : Upd none' w33 w34 := ((Upd.refl none' w33).alloc _).trans hU34 (fun _ _ f => f)
            clear hU33 hU34
            go_wp2_with fail
            go_meet
            exact kept_set W5 w33 w34 w33.heap.size _ _ _ _ _ _ _ _ _ _ hC34 U1 U2 z34.out (fun k hk => by have := hf34 k hk; omega) (fun k hk => by have := hf35 k hk; omega) (by omega) _ rfl
          · have U1 : Upd none' W5 w33 := ((Upd.refl none' W5).alloc _).drew.trans hU33 (fun _ _ f => f)
            have U2 : Upd none' w33 w34 := hU34
            clear hU33 hU34
            go_wp2_with fail
            go_meet
            exact kept_set W5 w33 w34 W5.heap.size _ _ _ _ _ _ _ _ _ _ hC34 U1 U2 z34.out (fun k hk => by have := hf34 k hk; omega) (fun k hk => by have := hf35 k hk; omega) (by omega) _ rfl
        case rest =>
          obtain ⟨oe, ve, ne, vf, nf, rfl, rfl, hBe, hCe, -, -, hoe, hUe⟩ := hcut
          have hBk3 := HBK.out.upd hUe (fun f => f)
          have hBd3 := hBd.upd hUe (fun f => f)
          have hCd3 := hCd.upd hUe
          have hUw3 : Upd none' w wc := hUw2.trans hUe (fun _ _ f => f)
          clear hUe hUw2 HBK hBd hCd
          rename World => W6
          have hsame := same_cache W6 vc vd ve vf 2 2 2 2 nc nd ne nf xs2 xs2 ts2 ts2 nx2 nx2 hCd3.r1 hCd3.r2 hCe.r1 hCe.r2
          rw [show sameC xs2 ts2 nx2 xs2 ts2 nx2 = true by simp [sameC, sameB]] at hsame
          have HS := Lib.hid hsame
          clear hsame
          have k0 := hBd3.cell 0
          have k1 := hBd3.cell 1
          have k2 := hBd3.cell 2
          have l0 := hBe.cell 0
          have l1 := hBe.cell 1
          have l2 := hBe.cell 2
          simp only [List.getElem?_cons_zero, List.getElem?_cons_succ] at k0 k1 k2 l0 l1 l2
          go_wp2_with (first | (go_at_call 14; refine (num_any _ _).mono ?_; rintro e w' ⟨rfl, rfl⟩) | (go_at_call 24; fail))
          refine HS.out.mono ?_
          rintro e W7 ⟨rfl, hU7⟩
          have hBk4 := hBk3.upd hU7 (fun f => f)
          have hBd4 := hBd3.upd hU7 (fun f => f)
          have hUw4 : Upd none' w W7 := hUw3.trans hU7 (fun _ _ f => f)
          have hCd4 := hCd3.upd hU7
          clear k0 k1 k2 l0 l1 l2
          have k0 := hBd4.cell 0
          have k1 := hBd4.cell 1
          have k2 := hBd4.cell 2
          have l0 := hBk4.cell 0
          have l1 := hBk4.cell 1
          have l2 := hBk4.cell 2
          have r0 := hBk4.frozen 0
          have r1 := hBk4.frozen 1
          have r2 := hBk4.frozen 2
          simp only [List.getElem?_cons_zero, List.getElem?_cons_succ] at k0 k1 k2 l0 l1 l2
          go_wp2
          refine ⟨?rel, ?measure⟩
          case rel =>
            obtain ⟨hB5, hC5, hU5⟩ := put_cache (nx := nx2) hBk4 hCd4 HN1.out HN2.out
            exact ⟨i + 1, (c.toNat : Int), xs2, ts2, nx2, vc, vd, nc, nd, rfl, rfl, by omega, by omega, hUw4.trans hU5 (fun k h1 h2 => by omega), hB5, hC5, hm2⟩
          case measure => simp [intOf]; omega
    · obtain ⟨x, y, t, u, rfl, rfl, hn0, hn1, hy1, hy2, hy3⟩ := may_elim hm
      obtain ⟨jj, hj1, hj2, hj3, hj4, hj5, hj6⟩ := low_of ot
      obtain ⟨v, hv⟩ := find_cases hm hj3 hj5
      obtain ⟨p, hp⟩ : ∃ p, (x == jj) = p := ⟨_, rfl⟩
      obtain ⟨q, hq⟩ : ∃ q, (y == jj) = q := ⟨_, rfl⟩
      rw [hp, hq] at hv
      have ho := i64_and255 ot
      have HR := Lib.hid hz5
      have HHm := Lib.hid hm
      have HBK := Lib.hid hBk
      have HCK := Lib.hid hCk
      have HUW := Lib.hid hUw
      have hol := hBk.lt
      have k0 := hBk.cell 0
      have k1 := hBk.cell 1
      have k2 := hBk.cell 2
      simp only [List.getElem?_cons_zero, List.getElem?_cons_succ] at k0 k1 k2
      clear hz4 hz5 hy1 hy2 hy3 hn0 hn1 hBk hCk hUw hm
      have hcase : ¬ i < zs.length ∨ i < zs.length ∧ ¬ i < 10 := by omega
      rcases hcase with hc1 | ⟨hc1, hc2⟩
      · go_upto_region 16 with fail
        go_wp2_with (go_at_call 22; refine (find_cr _ va vb na nb [x, y] [t, u] nx jj v (p || q) HCK.out (by omega) hv).mono ?_; rintro e W8 ⟨rfl, hU8⟩)
        have hBk8 := HBK.out.upd hU8 (fun f => f)
        have hCk8 := HCK.out.upd hU8
        have hUw8 : Upd none' w W8 := HUW.out.trans hU8 (fun _ _ f => f)
        clear k0 k1 k2
        have k0 := hBk8.cell 0
        simp only [List.getElem?_cons_zero] at k0
        obtain ⟨-, ra, rcap, hra, -, hrc⟩ := hCk8.r1
        obtain ⟨rb, ro, rfl, hrb, hrc⟩ := hrc (by simp [ints])
        simp only [Value.slice.injEq] at hra
        obtain ⟨rfl, -, rfl⟩ := hra
        have c0 := hrc 0 (by simp [ints])
        have c1 := hrc 1 (by simp [ints])
        simp only [ints, List.map_cons, List.map_nil, List.getElem?_cons_zero, List.getElem?_cons_succ] at c0 c1
        clear hrc hU8 hv
        have HU8 := Lib.hid hUw8
        have HB8 := Lib.hid hBk8
        have HC8 := Lib.hid hCk8
        clear hUw8 hBk8 hCk8
        simp only [Nat.add_zero] at c0
        go_loopw [16, 17] (fun tv iv wr => ∃ (i : Nat) (b : Bool), i ≤ 2 ∧ iv = .int .i64 i ∧ tv = .bool b ∧ (i = 0 → b = false) ∧ (i = 1 → b = p) ∧ (i = 2 → b = (p || q)) ∧ wr.cell? ⟨oc, 0, none⟩ = some (.slice (some ⟨rb, ro, none⟩) 2 na) ∧ wr.cell? ⟨rb, ro, none⟩ = some (.int .i64 x) ∧ wr.cell? ⟨rb, ro + 1, none⟩ = some (.int .i64 y) ∧ Hid (Upd none' w wr)) (fun _ iv _ => 2 - (intOf iv).toNat)
        case atStart => exact ⟨0, false, by omega, rfl, rfl, fun _ => rfl, fun h => by omega, fun h => by omega, k0, c0, c1, HU8⟩
        case round =>
          clear k0 c0 c1
          obtain ⟨ii, b, hii, rfl, rfl, hb0, hb1, hb2, k0, c0, c1, hW⟩ := hrel
          have hW' := Lib.hid hW
          rcases (show ii = 0 ∨ ii = 1 ∨ ii = 2 by omega) with rfl | rfl | rfl
          · have hb := hb0 rfl
            clear hb0 hb1 hb2
            subst hb
            go_wp2
            refine ⟨?rel, ?measure⟩
            case rel => exact ⟨1, p, by omega, by go_num, rfl, fun h => by omega, fun _ => rfl, fun h => by omega, k0, c0, c1, hW⟩
            case measure => simp [intOf]
          · have hb := hb1 rfl
            clear hb0 hb1 hb2
            subst hb
            cases b
            · go_wp2
              refine ⟨?rel, ?measure⟩
              case rel => exact ⟨2, q, by omega, by go_num, rfl, fun h => by omega, fun h => by omega, fun _ => rfl, k0, c0, c1, hW⟩
              case measure => simp [intOf]
            · go_wp2
              refine ⟨?rel, ?measure⟩
              case rel => exact ⟨2, true, by omega, by go_num, rfl, fun h => by omega, fun h => by omega, fun _ => rfl, k0, c0, c1, hW⟩
              case measure => simp [intOf]
          · have hb := hb2 rfl
            clear hb0 hb1 hb2
            rw [← hb]
            clear hb
            by_cases hll : last < 0
            · cases b <;> go_wp2 <;> go_ret <;> exact ⟨rfl, hW.out⟩
            · cases b <;> go_wp2 <;> go_ret <;> exact ⟨rfl, hW.out⟩
      · go_upto_region 16 with fail
        go_wp2_with (go_at_call 22; refine (find_cr _ va vb na nb [x, y] [t, u] nx jj v (p || q) HCK.out (by omega) hv).mono ?_; rintro e W8 ⟨rfl, hU8⟩)
        have hBk8 := HBK.out.upd hU8 (fun f => f)
        have hCk8 := HCK.out.upd hU8
        have hUw8 : Upd none' w W8 := HUW.out.trans hU8 (fun _ _ f => f)
        clear k0 k1 k2
        have k0 := hBk8.cell 0
        simp only [List.getElem?_cons_zero] at k0
        obtain ⟨-, ra, rcap, hra, -, hrc⟩ := hCk8.r1
        obtain ⟨rb, ro, rfl, hrb, hrc⟩ := hrc (by simp [ints])
        simp only [Value.slice.injEq] at hra
        obtain ⟨rfl, -, rfl⟩ := hra
        have c0 := hrc 0 (by simp [ints])
        have c1 := hrc 1 (by simp [ints])
        simp only [ints, List.map_cons, List.map_nil, List.getElem?_cons_zero, List.getElem?_cons_succ] at c0 c1
        clear hrc hU8 hv
        have HU8 := Lib.hid hUw8
        have HB8 := Lib.hid hBk8
        have HC8 := Lib.hid hCk8
        clear hUw8 hBk8 hCk8
        simp only [Nat.add_zero] at c0
        go_loopw [16, 17] (fun tv iv wr => ∃ (i : Nat) (b : Bool), i ≤ 2 ∧ iv = .int .i64 i ∧ tv = .bool b ∧ (i = 0 → b = false) ∧ (i = 1 → b = p) ∧ (i = 2 → b = (p || q)) ∧ wr.cell? ⟨oc, 0, none⟩ = some (.slice (some ⟨rb, ro, none⟩) 2 na) ∧ wr.cell? ⟨rb, ro, none⟩ = some (.int .i64 x) ∧ wr.cell? ⟨rb, ro + 1, none⟩ = some (.int .i64 y) ∧ Hid (Upd none' w wr)) (fun _ iv _ => 2 - (intOf iv).toNat)
        case atStart => exact ⟨0, false, by omega, rfl, rfl, fun _ => rfl, fun h => by omega, fun h => by omega, k0, c0, c1, HU8⟩
        case round =>
          clear k0 c0 c1
          obtain ⟨ii, b, hii, rfl, rfl, hb0, hb1, hb2, k0, c0, c1, hW⟩ := hrel
          have hW' := Lib.hid hW
          rcases (show ii = 0 ∨ ii = 1 ∨ ii = 2 by omega) with rfl | rfl | rfl
          · have hb := hb0 rfl
            clear hb0 hb1 hb2
            subst hb
            go_wp2
            refine ⟨?rel, ?measure⟩
            case rel => exact ⟨1, p, by omega, by go_num, rfl, fun h => by omega, fun _ => rfl, fun h => by omega, k0, c0, c1, hW⟩
            case measure => simp [intOf]
          · have hb := hb1 rfl
            clear hb0 hb1 hb2
            subst hb
            cases b
            · go_wp2
              refine ⟨?rel, ?measure⟩
              case rel => exact ⟨2, q, by omega, by go_num, rfl, fun h => by omega, fun h => by omega, fun _ => rfl, k0, c0, c1, hW⟩
              case measure => simp [intOf]
            · go_wp2
              refine ⟨?rel, ?measure⟩
              case rel => exact ⟨2, true, by omega, by go_num, rfl, fun h => by omega, fun h => by omega, fun _ => rfl, k0, c0, c1, hW⟩
              case measure => simp [intOf]
          · have hb := hb2 rfl
            clear hb0 hb1 hb2
            rw [← hb]
            clear hb
            by_cases hll : last < 0
            · cases b <;> go_wp2 <;> go_ret <;> exact ⟨rfl, hW.out⟩
            · cases b <;> go_wp2 <;> go_ret <;> exact ⟨rfl, hW.out⟩
end Go.Proofs.Ytdlhhlebbnefkaa
