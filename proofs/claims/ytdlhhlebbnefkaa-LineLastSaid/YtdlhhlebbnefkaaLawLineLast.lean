/- LineLast: what was kept last is there; what is found is what was kept last of that line: for every row of places. No condition. -/
import Derived.Test.YtdlhhlebbnefkaaLineS
import Derived.Test.YtdlhhlebbnefkaaAwake12
import Derived.Test.YtdlhhlebbnefkaaBits
namespace Go.Proofs.Ytdlhhlebbnefkaa
open Go.RowKit
theorem zero_want (u : World) : Sem.run Try.prog (zeroValue 55) u = .ok (.agg (ints want0).toArray) u := by kernel_rfl
theorem text_walk_i (w : World) (b : UInt8) (i : Nat) (h : (b.toNat : Int) = (i : Int)) :
    Calls Try.prog 31 #[.int .u8 (i : Int)] w fun e w' => e = .returned (.string (textS b)) ∧ Upd none' w w' := by
  rw [← h]
  exact text_walk w b
set_option maxRecDepth 100000 in
set_option maxHeartbeats 1000000 in
theorem lawLineLast (w : World) (v0 : Value) (zs : List Int) (h0 : IntsR w v0 zs) :
    Calls Try.prog 7 #[v0] w fun e w' => e = .returned (.bool true) ∧ Upd none' w w' := by
  have hR := Lib.hid h0
  obtain ⟨hz1, _, za, zcap, rfl, hz4, hz5⟩ := h0
  have hZ := zero_want
  go_enter Try.func7, Try.ntmps7
  go_wp2_with fail
  refine (awake12 w).mono ?_
  rintro e w0 ⟨rfl, hU0⟩
  go_wp2_with (go_at_call 27; refine (new_cr _).mono ?_; rintro e w1 ⟨va, na, vb, nb, rfl, hC1, hU1⟩)
  clear hZ
  have hUw := ((hU0.trans hU1 (fun _ _ f => f)).alloc (.cells #[.slice va 2 na, .slice vb 2 nb, .int .i64 0] 42)).alloc (.cells (ints want0).toArray 55)
  have hBk := (Blk.new w1 [.slice va 2 na, .slice vb 2 nb, .int .i64 0] 42).alloc (.cells (ints want0).toArray 55)
  have hWk := Blk.new (w1.alloc (.cells #[.slice va 2 na, .slice vb 2 nb, .int .i64 0] 42)) (ints want0) 55
  have hCk := hC1.upd (((Upd.refl none' w1).alloc (.cells #[.slice va 2 na, .slice vb 2 nb, .int .i64 0] 42)).alloc (.cells (ints want0).toArray 55))
  have so : w.heap.size ≤ w1.heap.size := (hU0.trans hU1 (fun _ _ f => f)).size
  have hoc : ∀ k, (Value.slice va 2 na).ownBlock = some k → k < w1.heap.size := hC1.r1.lt (by simp [ints])
  have hoc2 : ∀ k, (Value.slice vb 2 nb).ownBlock = some k → k < w1.heap.size := hC1.r2.lt (by simp [strs])
  have how : w1.heap.size < (w1.alloc (.cells #[.slice va 2 na, .slice vb 2 nb, .int .i64 0] 42)).heap.size := by simp [World.size_alloc]
  generalize (w1.alloc (.cells #[.slice va 2 na, .slice vb 2 nb, .int .i64 0] 42)).alloc (.cells (ints want0).toArray 55) = W at *
  rw [World.size_alloc] at hWk how
  generalize w1.heap.size + 1 = ow at *
  generalize w1.heap.size = oc at *
  clear hC1 hU0 hU1
  go_loopw [5, 6] (fun lv iv wr => ∃ (i : Nat) (last : Int) (xs : List Int) (ts : List ByteArray) (nx : Int) (a1 a2 : Option Addr) (c1 c2 : Nat) (wl : List Int), iv = .int .i64 i ∧ lv = .int .i64 last ∧ i ≤ zs.length ∧ i ≤ 40 ∧ Upd none' w wr ∧ Blk wr oc [.slice a1 2 c1, .slice a2 2 c2, .int .i64 nx] 42 ∧ CR wr a1 c1 a2 c2 xs ts ∧ mayB xs ts nx = true ∧ Blk wr ow (ints wl) 55 ∧ wl.length = 256 ∧ LK wl xs ts ∧ (∀ k, (Value.slice a1 2 c1).ownBlock = some k → k ≠ ow) ∧ (∀ k, (Value.slice a2 2 c2).ownBlock = some k → k ≠ ow)) (fun _ iv _ => zs.length - (intOf iv).toNat)
  case atStart => exact ⟨0, -1, [-1, -1], [⟨#[]⟩, ⟨#[]⟩], 0, va, vb, na, nb, want0, rfl, rfl, by omega, by omega, hUw, hBk, hCk, rfl, hWk, by decide, lk_new0, fun k hk => by have := hoc k hk; omega, fun k hk => by have := hoc2 k hk; omega⟩
  case round =>
    clear hoc hoc2 hUw hBk hCk hWk
    obtain ⟨i, last, xs, ts, nx, va, vb, na, nb, wl, rfl, rfl, hi, hi10, hUw, hBk, hCk, hm, hWk, hwl, hLK, hg1, hg2⟩ := hrel
    by_cases hlt : i < zs.length ∧ i < 40
    · obtain ⟨hl1, hl2⟩ := hlt
      obtain ⟨bb, oo, rfl, hbb, hcc⟩ := hz5 (by intro h; simp [h] at hl1)
      have hcell : wr.cell? ⟨bb, oo + i, none⟩ = some (.int .i64 (zs.getD i 0)) := by
        rw [hUw.cell (p := ⟨bb, oo + i, none⟩) hbb (fun f => f)]; exact hcc i hl1
      clear hcc hbb
      obtain ⟨z, hz⟩ : ∃ z, zs.getD i 0 = z := ⟨_, rfl⟩
      rw [hz] at hcell
      clear hz
      have HUw := Lib.hid hUw
      have HR := Lib.hid hz5
      have HG1 := Lib.hid hg1
      have HG2 := Lib.hid hg2
      have HLK := Lib.hid hLK
      have HWK := Lib.hid hWk
      clear hz4 hz5 hUw hg1 hg2 hLK hWk
      go_upto_region 10 with fail
      obtain ⟨c, a, htm, hw, hw9, hwa, hba⟩ := byte_of z
      rw [htm, hw]
      obtain ⟨bi, hbw, hbi, hbl⟩ := byte_small i hl2
      clear htm hw hcell hw9
      have k0 := hBk.cell 0
      have k1 := hBk.cell 1
      have k2 := hBk.cell 2
      simp only [List.getElem?_cons_zero, List.getElem?_cons_succ] at k0 k1 k2
      have HB1 := Lib.hid hBk
      have HC1 := Lib.hid hCk
      have s1 := HB1.out.lt
      go_cut [8, 9] (fun s2 s3 wx => Kept wr wx s2 s3 (xs.set (keepAt xs nx a) a) (ts.set (keepAt xs nx a) (textS bi)) (nextOf xs nx a))
      case first =>
        go_region_held3 (fun w' => w'.cell? ⟨oc, 0, none⟩ = some (.slice va 2 na) ∧ w'.cell? ⟨oc, 1, none⟩ = some (.slice vb 2 nb) ∧ w'.cell? ⟨oc, 2, none⟩ = some (.int .i64 nx)) (first | exact ⟨k0, k1, k2⟩ | exact ⟨d0, d1, d2⟩ | exact ⟨e0, e1, e2⟩ | exact ⟨by go_simp, by go_simp, by go_simp⟩)
          (first
          | (go_at_call 31; refine (text_walk_i _ bi i hbi).mono ?_; rintro e w33 ⟨rfl, hU33⟩; have d0 := ((HB1.out).upd (S := none') (w' := w33) (by (repeat (first | (with_reducible exact Upd.refl _ _) | (with_reducible refine Upd.drew ?_) | (with_reducible refine Upd.alloc ?_ _) | (refine Upd.trans (T := none') ?_ (by assumption) (fun _ _ f => f.elim))))) (fun f => f)).cell 0; have d1 := ((HB1.out).upd (S := none') (w' := w33) (by (repeat (first | (with_reducible exact Upd.refl _ _) | (with_reducible refine Upd.drew ?_) | (with_reducible refine Upd.alloc ?_ _) | (refine Upd.trans (T := none') ?_ (by assumption) (fun _ _ f => f.elim))))) (fun f => f)).cell 1; have d2 := ((HB1.out).upd (S := none') (w' := w33) (by (repeat (first | (with_reducible exact Upd.refl _ _) | (with_reducible refine Upd.drew ?_) | (with_reducible refine Upd.alloc ?_ _) | (refine Upd.trans (T := none') ?_ (by assumption) (fun _ _ f => f.elim))))) (fun f => f)).cell 2; simp only [List.getElem?_cons_zero, List.getElem?_cons_succ] at d0 d1 d2; have s33 : oc < w33.heap.size := ((HB1.out).upd (S := none') (w' := w33) (by (repeat (first | (with_reducible exact Upd.refl _ _) | (with_reducible refine Upd.drew ?_) | (with_reducible refine Upd.alloc ?_ _) | (refine Upd.trans (T := none') ?_ (by assumption) (fun _ _ f => f.elim))))) (fun f => f)).lt; try (have z33 : Hid (Blk w33 wr.heap.size [.slice none 0 0, .slice none 0 0, .int .i64 0] 42) := (Blk.new wr [.slice none 0 0, .slice none 0 0, .int .i64 0] 42).drew.upd (S := none') hU33 (fun f => f); have q0 := z33.out.cell 0; have q1 := z33.out.cell 1; have q2 := z33.out.cell 2; have r0 := z33.out.frozen 0; have r1 := z33.out.frozen 1; have r2 := z33.out.frozen 2; have s33' := z33.out.lt; simp only [List.getElem?_cons_zero, List.getElem?_cons_succ] at q0 q1 q2))
          | (go_at_call 20; (try rw [hwa]); refine (keep_cr _ va vb na nb xs ts nx a (textS bi) (HC1.out.upd ?hq1) hm hba (text_size _)).mono ?_; (case hq1 => (repeat (first | (with_reducible exact Upd.refl _ _) | (with_reducible refine Upd.drew ?_) | (with_reducible refine Upd.alloc ?_ _) | (refine Upd.trans (T := none') ?_ (by assumption) (fun _ _ f => f.elim))))); rintro e w34 ⟨b1, g1, b2, g2, rfl, hC34, hf34, hf35, hU34⟩; have e0 := ((HB1.out).upd (S := none') (w' := w34) (by (repeat (first | (with_reducible exact Upd.refl _ _) | (with_reducible refine Upd.drew ?_) | (with_reducible refine Upd.alloc ?_ _) | (refine Upd.trans (T := none') ?_ (by assumption) (fun _ _ f => f.elim))))) (fun f => f)).cell 0; have e1 := ((HB1.out).upd (S := none') (w' := w34) (by (repeat (first | (with_reducible exact Upd.refl _ _) | (with_reducible refine Upd.drew ?_) | (with_reducible refine Upd.alloc ?_ _) | (refine Upd.trans (T := none') ?_ (by assumption) (fun _ _ f => f.elim))))) (fun f => f)).cell 1; have e2 := ((HB1.out).upd (S := none') (w' := w34) (by (repeat (first | (with_reducible exact Upd.refl _ _) | (with_reducible refine Upd.drew ?_) | (with_reducible refine Upd.alloc ?_ _) | (refine Upd.trans (T := none') ?_ (by assumption) (fun _ _ f => f.elim))))) (fun f => f)).cell 2; simp only [List.getElem?_cons_zero, List.getElem?_cons_succ] at e0 e1 e2; have s34 : oc < w34.heap.size := ((HB1.out).upd (S := none') (w' := w34) (by (repeat (first | (with_reducible exact Upd.refl _ _) | (with_reducible refine Upd.drew ?_) | (with_reducible refine Upd.alloc ?_ _) | (refine Upd.trans (T := none') ?_ (by assumption) (fun _ _ f => f.elim))))) (fun f => f)).lt; first | (have z34 : Hid (Blk w34 wr.heap.size [.slice none 0 0, .slice none 0 0, .int .i64 0] 42) := z33.out.upd (S := none') hU34 (fun f => f); have q0 := z34.out.cell 0; have q1 := z34.out.cell 1; have q2 := z34.out.cell 2; have r0 := z34.out.frozen 0; have r1 := z34.out.frozen 1; have r2 := z34.out.frozen 2; have s34' := z34.out.lt; simp only [List.getElem?_cons_zero, List.getElem?_cons_succ] at q0 q1 q2) | (have z34 : Hid (Blk w34 w33.heap.size [.slice none 0 0, .slice none 0 0, .int .i64 0] 42) := (Blk.new w33 [.slice none 0 0, .slice none 0 0, .int .i64 0] 42).upd (S := none') hU34 (fun f => f); have q0 := z34.out.cell 0; have q1 := z34.out.cell 1; have q2 := z34.out.cell 2; have r0 := z34.out.frozen 0; have r1 := z34.out.frozen 1; have r2 := z34.out.frozen 2; have s34' := z34.out.lt; simp only [List.getElem?_cons_zero, List.getElem?_cons_succ] at q0 q1 q2) | skip))
        all_goals
          have Z33 := hU33.size
          have Z34 := hU34.size
          simp only [heap_drew, World.size_alloc] at Z33 Z34 hf34 hf35
          clear k0 k1 k2 d0 d1 d2 e0 e1 e2
        · have U1 : Upd none' wr w33 := (Upd.refl none' wr).drew.trans hU33 (fun _ _ f => f)
          have U2 : Upd none' w33 w34 := hU34
          clear hU33 hU34
          go_wp2_with fail
          go_meet
          exact kept_alloc wr w33 w34 _ _ _ _ _ _ _ hC34 U1 U2 (fun k hk => by have := hf34 k hk; omega) (fun k hk => by have := hf35 k hk; omega)
        · have U1 : Upd none' wr w33 := (Upd.refl none' wr).drew.trans hU33 (fun _ _ f => f)
          have U2 : Upd none' w33 w34 := ((Upd.refl none' w33).alloc _).trans hU34 (fun _ _ f => f)
          clear hU33 hU34
          go_wp2_with fail
          go_meet
          exact kept_set wr w33 w34 w33.heap.size _ _ _ _ _ _ _ _ _ _ hC34 U1 U2 z34.out (fun k hk => by have := hf34 k hk; omega) (fun k hk => by have := hf35 k hk; omega) (by omega) _ rfl
        · have U1 : Upd none' wr w33 := ((Upd.refl none' wr).alloc _).drew.trans hU33 (fun _ _ f => f)
          have U2 : Upd none' w33 w34 := hU34
          clear hU33 hU34
          go_wp2_with fail
          go_meet
          exact kept_set wr w33 w34 wr.heap.size _ _ _ _ _ _ _ _ _ _ hC34 U1 U2 z34.out (fun k hk => by have := hf34 k hk; omega) (fun k hk => by have := hf35 k hk; omega) (by omega) _ rfl
      case rest =>
        obtain ⟨od, vc, nc, vd, nd, rfl, rfl, hBd, hCd, hf1, hf2, hod, hUd⟩ := hcut
        have hol := hBk.lt
        have hwlt := HWK.out.lt
        have hUw := HUw.out
        have hn1 : ∀ k, (Value.slice vc 2 nc).ownBlock = some k → k ≠ oc ∧ k ≠ ow := fun k hk => by have := hf1 k hk; omega
        have hn2 : ∀ k, (Value.slice vd 2 nd).ownBlock = some k → k ≠ oc ∧ k ≠ ow := fun k hk => by have := hf2 k hk; omega
        have HN1 := Lib.hid hn1
        have HN2 := Lib.hid hn2
        clear hf1 hf2 hn1 hn2
        have hBk2 := hBk.upd hUd (fun f => f)
        have hWk2 := HWK.out.upd hUd (fun f => f)
        have hUw2 : Upd none' w wc := hUw.trans hUd (fun _ _ f => f)
        have hca : a = (c.toNat : Int) * 16 := low_byte hwa
        obtain ⟨hm2, -, hin⟩ := keep_law (s := textS bi) hm hba (text_size bi)
        have hcl : c.toNat < 256 := c.toNat_lt
        have hLK2 := last_step (c := c.toNat) (b := bi) hm HLK.out hwl (by omega) hbl
        rw [← hca, hbi] at hLK2
        clear hUd hUw hBk hCk
        rename World => W5
        generalize xs.set (keepAt xs nx a) a = xs2 at *
        generalize ts.set (keepAt xs nx a) (textS bi) = ts2 at *
        generalize nextOf xs nx a = nx2 at *
        have k0 := hBd.cell 0
        have k1 := hBd.cell 1
        have k2 := hBd.cell 2
        simp only [List.getElem?_cons_zero, List.getElem?_cons_succ] at k0 k1 k2
        have HBK := Lib.hid hBk2
        have HWK2 := Lib.hid hWk2
        have HBD := Lib.hid hBd
        have HUW := Lib.hid hUw2
        have HM2 := Lib.hid hm2
        have HIN := Lib.hid hin
        have HLK2 := Lib.hid hLK2
        have HCA := Lib.hid hca
        clear hBk2 hBd hUw2 hWk2 hm2 hin hLK2 hca hm hba hwa hbw hbi hbl
        go_upto_region 13 with (first | (go_at_call 14; refine (num_any _ _).mono ?_; rintro e w' ⟨rfl, rfl⟩) | (go_at_call 25; refine (may_cr _ _ _ _ _ xs2 ts2 nx2 true hCd HM2.out).mono ?_; rintro e W6 ⟨rfl, hU6⟩))
        have hBk6 := HBK.out.upd hU6 (fun f => f)
        have hWk6 := HWK2.out.upd hU6 (fun f => f)
        have hUw6 : Upd none' w W6 := HUW.out.trans hU6 (fun _ _ f => f)
        have hCd6 := hCd.upd hU6
        have hBd6 := HBD.out.upd hU6 (fun f => f)
        clear k0 k1 k2 hCd hU6
        have k0 := hBd6.cell 0
        have k1 := hBd6.cell 1
        have k2 := hBd6.cell 2
        have l0 := hBk6.cell 0
        have l1 := hBk6.cell 1
        have l2 := hBk6.cell 2
        have r0 := hBk6.frozen 0
        have r1 := hBk6.frozen 1
        have r2 := hBk6.frozen 2
        have m0 := hWk6.cell c.toNat
        have m1 := hWk6.frozen c.toNat
        rw [ints_at wl _ (by omega)] at m0
        simp only [List.getElem?_cons_zero, List.getElem?_cons_succ] at k0 k1 k2 l0 l1 l2
        have HBK6 := Lib.hid hBk6
        have HWK6 := Lib.hid hWk6
        have HUW6 := Lib.hid hUw6
        have HCD6 := Lib.hid hCd6
        clear hBk6 hWk6 hUw6 hCd6 hBd6
        go_upto_region 16 with fail
        obtain ⟨hB7, hC7, hU7⟩ := put_cache (nx := nx2) HBK6.out HCD6.out (fun k hk => (HN1.out k hk).1) (fun k hk => (HN2.out k hk).1)
        have hW7 := HWK6.out.upd hU7 (show ¬ ow = oc by omega)
        have hU8 := (Upd.refl (fun k => k = ow) (((W6.setCell ⟨oc, 0, none⟩ (.slice vc 2 nc)).setCell ⟨oc, 1, none⟩ (.slice vd 2 nd)).setCell ⟨oc, 2, none⟩ (.int .i64 nx2))).setCell ⟨ow, c.toNat, none⟩ (.int .i64 (i : Int)) (fun _ => rfl)
        have hB9 := hB7.set_ne (c := ow) c.toNat (.int .i64 (i : Int)) (by omega)
        have hW9 := hW7.set c.toNat (.int .i64 (i : Int))
        rw [ints_set] at hW9
        have hC9 := hC7.updS hU8 (fun k hk => (HN1.out k hk).2) (fun k hk => (HN2.out k hk).2)
        have hU9 : Upd none' w ((((W6.setCell ⟨oc, 0, none⟩ (.slice vc 2 nc)).setCell ⟨oc, 1, none⟩ (.slice vd 2 nd)).setCell ⟨oc, 2, none⟩ (.int .i64 nx2)).setCell ⟨ow, c.toNat, none⟩ (.int .i64 (i : Int))) := (HUW6.out.trans hU7 (fun k h1 h2 => by omega)).setCell ⟨ow, c.toNat, none⟩ (.int .i64 (i : Int)) (fun h => absurd h (by dsimp only; omega))
        clear k0 k1 k2 l0 l1 l2 r0 r1 r2 m0 m1 hB7 hC7 hU7 hW7 hU8
        generalize (((W6.setCell ⟨oc, 0, none⟩ (.slice vc 2 nc)).setCell ⟨oc, 1, none⟩ (.slice vd 2 nd)).setCell ⟨oc, 2, none⟩ (.int .i64 nx2)).setCell ⟨ow, c.toNat, none⟩ (.int .i64 (i : Int)) = W9 at *
        have hwl2 : (wl.set c.toNat (i : Int)).length = 256 := by rw [List.length_set]; exact hwl
        generalize wl.set c.toNat (i : Int) = wl2 at *
        have hin2 : (c.toNat : Int) * 16 ∈ xs2 := HCA.out ▸ HIN.out
        have HIN2 := Lib.hid hin2
        have HB9 := Lib.hid hB9
        have HW9 := Lib.hid hW9
        have HC9 := Lib.hid hC9
        have HU9 := Lib.hid hU9
        clear hin2 hB9 hW9 hC9 hU9 HBK6 HWK6 HUW6 HCD6
        generalize hkc : c.toNat = kc at *
        go_wp2_with fail
        go_loopw [10] (fun jv wr => ∃ j : Nat, jv = .int .i64 j ∧ j ≤ 256 ∧ Hid (Upd none' W9 wr)) (fun jv _ => 256 - (intOf jv).toNat)
        case atStart => exact ⟨0, rfl, by omega, Lib.hid (Upd.refl _ _)⟩
        case round =>
          rename World => V
          obtain ⟨j, rfl, hj, hUj⟩ := hrel
          by_cases hjl : j < 256
          · obtain ⟨lo, hlo1, hlo2⟩ : ∃ lo : Nat, bits .and .i64 (i : Int) 15 = (lo : Int) ∧ lo < 16 := ⟨i % 16, by rw [i64_and15]; omega, by omega⟩
            have hBj := HB9.out.upd hUj.out (fun f => f)
            have k0 := hBj.cell 0
            have k1 := hBj.cell 1
            have k2 := hBj.cell 2
            simp only [List.getElem?_cons_zero, List.getElem?_cons_succ] at k0 k1 k2
            rcases last_find HM2.out HLK2.out HIN2.out hjl hlo2 with ⟨hf, hb1, hb2⟩ | ⟨hf, hne⟩
            · have HWJ := Lib.hid (HW9.out.upd hUj.out (fun f => f))
              have hwj := ints_at wl2 j (by omega)
              obtain ⟨wj, hwj2⟩ : ∃ wj, wl2.getD j 0 = wj := ⟨_, rfl⟩
              rw [hwj2] at hwj hf hb1 hb2
              have HWJ2 := Lib.hid hwj
              clear hwj hwj2 hBj
              have HF := Lib.hid hf
              clear hf
              go_wp2_with (go_at_call 22; refine (find_cr _ _ _ _ _ xs2 ts2 nx2 _ _ _ (HC9.out.upd hUj.out) (by omega) HF.out).mono ?_; rintro e V2 ⟨rfl, hV2⟩; have m0 := (HWJ.out.upd hV2 (fun f => f)).cell j; rw [HWJ2.out] at m0)
              refine ⟨?rel, ?measure⟩
              case rel => exact ⟨j + 1, by go_num, by omega, Lib.hid (hUj.out.trans hV2 (fun _ _ f => f))⟩
              case measure => simp [intOf]; omega
            · have hneb : ((j : Int) == (kc : Int)) = false := by simp; omega
              have HF := Lib.hid hf
              clear hf hBj
              go_wp2_with (go_at_call 22; refine (find_cr _ _ _ _ _ xs2 ts2 nx2 _ _ _ (HC9.out.upd hUj.out) (by omega) HF.out).mono ?_; rintro e V2 ⟨rfl, hV2⟩)
              refine ⟨?rel, ?measure⟩
              case rel => exact ⟨j + 1, by go_num, by omega, Lib.hid (hUj.out.trans hV2 (fun _ _ f => f))⟩
              case measure => simp [intOf]; omega
          · have : j = 256 := by omega
            subst this
            go_wp2
            refine ⟨?rel, ?measure⟩
            case rel => exact ⟨i + 1, (kc : Int), xs2, ts2, nx2, vc, vd, nc, nd, wl2, by go_num, rfl, by omega, by omega, HU9.out.trans hUj.out (fun _ _ f => f), HB9.out.upd hUj.out (fun f => f), HC9.out.upd hUj.out, HM2.out, HW9.out.upd hUj.out (fun f => f), hwl2, HLK2.out, fun k hk => (HN1.out k hk).2, fun k hk => (HN2.out k hk).2⟩
            case measure => simp [intOf]; omega
    · have hcase : ¬ i < zs.length ∨ i < zs.length ∧ ¬ i < 40 := by omega
      have HUW := Lib.hid hUw
      have HR := Lib.hid hz5
      clear hz5 hUw hBk hCk hWk hm hLK hg1 hg2
      rcases hcase with hc1 | ⟨hc1, hc2⟩
      · go_wp2
        go_ret
        exact ⟨rfl, HUW.out⟩
      · go_wp2
        go_ret
        exact ⟨rfl, HUW.out⟩
end Go.Proofs.Ytdlhhlebbnefkaa
