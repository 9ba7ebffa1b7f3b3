/- RdF RdH -/
import Derived.Test.YteombggfmeilaaaGreatBu20
/- RdF. -/
namespace Go.Proofs.YteombggfmeilaaaGreat
open Go.RowKit
set_option maxRecDepth 100000 in
set_option maxHeartbeats 8000000 in
theorem r_phase1 {g b : Nat} {d : Drv} {c : Bool} {N0 : Int} {Q : Own} {w0 w : World} {rows : List (Value × List Value)} (h : RCtx g b d c N0 Q w0 w rows) (ba : Option Addr) (bc : Nat) (bs : List Int) (rd : Nat) (hb : ∀ x ∈ bs, 0 ≤ x ∧ x < 256) (hbl : bs.length ≤ 512) (hrd : rd ≤ 512) (hbm : ∀ (w' : World) (e : Drv) (f : Bool), RCtx g b e f N0 Q w0 w' rows → RS w' (.slice ba bs.length bc) (ints bs)) (hol : d.out.length ≤ 1000000) (hr : d.room N0 ((bs.length * 8 : Nat) + (rd * 8 : Nat))) :
    Calls Tryz.prog 122 #[.pointer (some ⟨g, 0, none⟩), .agg #[.int .i64 1, .slice ba bs.length bc, .int .i64 0, .int .i64 (rd : Int)]] w fun e w' => ∃ (e2 : Drv) (f2 : Bool), e = .returned (.tuple #[]) ∧ rgets (rrun (d, c) (bs.flatMap fun x => outsL x 1)) 1 rd = (e2, f2) ∧ RCtx g b e2 f2 N0 Q w0 w' rows := by
  have h1 := h.lit [.int .i64 1, .slice ba bs.length bc, .int .i64 0, .int .i64 (rd : Int)] 156 4 rfl (by decide)
  obtain ⟨k, hk⟩ : ∃ k, w.heap.size = k := ⟨_, rfl⟩
  obtain ⟨k0, k1, k2, k3⟩ := box4 (by have := h1.ctx.rs 0 rfl; rw [hk] at this; exact this)
  have H := Lib.hid h1
  have HR := Lib.hid hr
  have HBM := Lib.hid hbm
  have HB := Lib.hid hb
  clear h h1 hr hbm hb
  go_enter Tryz.func122, Tryz.ntmps122
  go_wp2_with fail
  clear k0 k1 k2 k3
  go_loopw [4] (fun iv wr => iv = .int .i64 0 ∧ RCtx g b d c N0 Q w0 wr ((.slice (some ⟨k, 0, none⟩) 4 4, [.int .i64 1, .slice ba bs.length bc, .int .i64 0, .int .i64 (rd : Int)]) :: rows)) (fun _ _ => 0)
  case atStart => exact ⟨rfl, by rw [← hk]; exact H.out⟩
  case round =>
    clear H
    rename World => W1
    obtain ⟨rfl, hC⟩ := hrel
    obtain ⟨k0, k1, k2, k3⟩ := box4 (hC.ctx.rs 0 rfl)
    have HC := Lib.hid hC
    clear hC
    go_wp2_with fail
    clear k0 k1 k2 k3
    go_loopw [5] (fun iv wr => ∃ (i : Nat) (e : Drv) (f : Bool), i ≤ bs.length ∧ iv = .int .i64 (i : Int) ∧ Hid (rrun (d, c) ((bs.take i).flatMap fun x => outsL x 1) = (e, f)) ∧ RCtx g b e f N0 Q w0 wr ((.slice (some ⟨k, 0, none⟩) 4 4, [.int .i64 1, .slice ba bs.length bc, .int .i64 0, .int .i64 (rd : Int)]) :: rows)) (fun iv _ => bs.length - (intOf iv).toNat)
    case atStart => exact ⟨0, d, c, by omega, rfl, Lib.hid (rrun_nil _), HC.out⟩
    case round =>
      clear HC
      rename World => W2
      obtain ⟨i, e, f, hi, rfl, hrun, hC⟩ := hrel
      have hbm2 := HBM.out _ _ _ hC.tl
      obtain ⟨k0, k1, k2, k3⟩ := box4 (hC.ctx.rs 0 rfl)
      have HC := Lib.hid hC
      by_cases hlt : i < bs.length
      · obtain ⟨bb, oo, rfl, hbl2, hcc⟩ := hbm2.cells (by omega)
        have hcell := hcc i hlt
        rw [ints_at _ _ hlt] at hcell
        obtain ⟨y, hy⟩ : ∃ y, bs.getD i 0 = y := ⟨_, rfl⟩
        rw [hy] at hcell
        have hmem : y ∈ bs := by rw [← hy, List.getD_eq_getElem?_getD, List.getElem?_eq_getElem hlt]; exact List.getElem_mem hlt
        have hyb := HB.out y hmem
        obtain ⟨A, hA⟩ : ∃ A, ((bs.take i).flatMap fun x => outsL x 1) = A := ⟨_, rfl⟩
        rw [hA] at hrun
        have HAL : Hid (A.length = i * 8) := Lib.hid (by
          rw [← hA, flat_len _ 1 8 (fun x _ => rfl), List.length_take, Nat.min_eq_left (by omega)])
        have HE1 : Hid (((bs.take (i + 1)).flatMap fun x => outsL x 1) = A ++ outsL y 1) := Lib.hid (by
          rw [show bs.take (i + 1) = bs.take i ++ [y] from by
            rw [List.take_add_one, ← hy]
            simp [List.getD_eq_getElem?_getD, List.getElem?_eq_getElem hlt], List.flatMap_append, hA]
          simp)
        have HOUT := Lib.hid (fun w => ref_out1 w y hyb)
        clear hC hbm2 hcc hy hmem hA k2 k3
        go_upto_region 8 with fail
        go_region_held3 (fun w' => w'.cell? ⟨k, 0, none⟩ = some (.int .i64 1) ∧ w'.cell? ⟨k, 1, none⟩ = some (.slice (some ⟨bb, oo, none⟩) bs.length bc) ∧ w'.cell? ⟨bb, oo + i, none⟩ = some (.int .i64 y)) (first | exact ⟨k0, k1, hcell⟩ | exact ⟨x0, x1, x2⟩) (first | (go_at_call 178; refine (HOUT.out _).mono ?_; rintro e' w2 ⟨v, rfl, hv, hvo, hvu⟩; obtain ⟨va, vc, rfl, -⟩ := hv.form; rw [show (ints (outBits y 1)).length = 8 from rfl] at hv hvo; have HC2 := Lib.hid ((HC.out.frame (Upd.refl none' W2).drew).row (r := (.slice va 8 vc, ints (outBits y 1))) hvu (hv.rs (show 8 ≤ 1048576 by decide)) (fun k hk => ⟨hvo k hk, hv.lt k hk⟩) hv.mk); obtain ⟨x0, x1, -, -⟩ := box4 (HC2.out.ctx.rs 1 rfl); have x2 := (hvu.cell (p := ⟨bb, oo + i, none⟩) hbl2 (fun f => f)).trans hcell))
        clear x0 x1 x2
        go_wp2_with fail
        clear hv hvo hvu k0 k1 hcell HC HOUT
        go_loopw [8] (fun jv wr => ∃ (j : Nat) (e : Drv) (f : Bool), j ≤ 8 ∧ jv = .int .i64 (j : Int) ∧ Hid (rrun (d, c) (A ++ (outsL y 1).take j) = (e, f)) ∧ RCtx g b e f N0 Q w0 wr ((.slice va 8 vc, ints (outBits y 1)) :: ((.slice (some ⟨k, 0, none⟩) 4 4, [.int .i64 1, .slice (some ⟨bb, oo, none⟩) bs.length bc, .int .i64 0, .int .i64 (rd : Int)]) :: rows))) (fun jv _ => 8 - (intOf jv).toNat)
        case atStart => exact ⟨0, e, f, by omega, rfl, Lib.hid (by rw [List.take_zero, List.append_nil]; exact hrun.out), HC2.out⟩
        case round =>
          clear HC2 hrun e f
          rename World => W3
          obtain ⟨j, e, f, hj, rfl, hrun, hC⟩ := hrel
          obtain ⟨oa, oc, -, -, -, -, c4, -⟩ := hC.cells
          obtain ⟨k0, k1, k2, k3⟩ := box4 (hC.ctx.rs 1 rfl)
          have hrs := hC.ctx.rs 0 rfl
          have HC := Lib.hid hC
          clear hC k1 k2 k3
          by_cases hjl : j < 8
          · cases hf : f with
            | false =>
              rw [hf] at c4
              obtain ⟨vb, vo, rfl, -, hvc⟩ := hrs.cells (by decide)
              have hz := hvc j hjl
              rw [ints_at _ _ (show j < (outBits y 1).length from hjl)] at hz
              obtain ⟨z, hzz⟩ : ∃ z, (outBits y 1).getD j 0 = z := ⟨_, rfl⟩
              rw [hzz] at hz
              have HZ : Hid ((z = 0 ∨ z = 1) ∧ (outsL y 1).take (j + 1) = (outsL y 1).take j ++ [14 + z]) := Lib.hid (by
                subst hzz
                rcases (show j = 0 ∨ j = 1 ∨ j = 2 ∨ j = 3 ∨ j = 4 ∨ j = 5 ∨ j = 6 ∨ j = 7 by omega) with rfl | rfl | rfl | rfl | rfl | rfl | rfl | rfl
                all_goals exact ⟨by show _ % 2 = 0 ∨ _ % 2 = 1; omega, rfl⟩)
              have hzb := HZ.out.1
              have hor := or14r z hzb
              have HST := Lib.hid (r_next _ hrun.out HC.out (14 + z) (by omega) HR.out (by
                rw [List.length_append, HAL.out, List.length_take, show (outsL y 1).length = 8 from rfl, Nat.min_eq_left hj]
                omega))
              clear hvc hzz hf hrs
              go_wp2_with (go_at_call 177; refine HST.out.mono ?_; rintro e' w2 ⟨y', e2, f2, rfl, -, -, -, hq, -, hC2⟩)
              refine ⟨?rel, ?measure⟩
              case rel => exact ⟨j + 1, e2, f2, by omega, by go_num, Lib.hid (by rw [HZ.out.2, ← List.append_assoc]; exact hq), hC2⟩
              case measure => simp [intOf]; omega
            | true =>
              rw [hf] at c4
              have HF : Hid (rrun (d, c) ((bs.take (i + 1)).flatMap fun x => outsL x 1) = (e, true)) := Lib.hid (by
                have h1 := hrun.out
                rw [hf] at h1
                have := rrun_full h1 ((outsL y 1).drop j)
                rw [List.append_assoc, List.take_append_drop] at this
                rw [HE1.out]
                exact this)
              rw [hf] at HC
              clear hf hrs hrun
              go_wp2_with fail
              refine ⟨?rel, ?measure⟩
              case rel => exact ⟨i + 1, e, true, by omega, by go_num, HF, HC.out.tl⟩
              case measure => simp [intOf]; omega
          · obtain rfl : j = 8 := by omega
            have HF : Hid (rrun (d, c) ((bs.take (i + 1)).flatMap fun x => outsL x 1) = (e, f)) := Lib.hid (by
              rw [HE1.out]
              exact hrun.out)
            clear hrs hrun
            go_wp2_with fail
            refine ⟨?rel, ?measure⟩
            case rel => exact ⟨i + 1, e, f, by omega, by go_num, HF, HC.out.tl⟩
            case measure => simp [intOf]; omega
      · obtain rfl : i = bs.length := by omega
        rw [List.take_length] at hrun
        have HP := hrun
        clear hC hbm2 hrun
        have HRM : Hid (∀ (q : Nat) (e' : Drv) (f' : Bool), rgets (e, f) 1 q = (e', f') → q ≤ rd → (q < rd → e'.room N0 8) ∧ e'.out.length ≤ 1010000) := Lib.hid (by
          intro q e' f' hq hqd
          have m1 := rrun_kept (d, c) (bs.flatMap fun x => outsL x 1)
          rw [HP.out, flat_len _ 1 8 (fun x _ => rfl)] at m1
          have m2 := rgets_kept (e, f) 1 (by decide) q
          rw [hq, show (8 : Int) / 1 = 8 from rfl] at m2
          have m := m1.trans m2
          obtain ⟨a1, a2, a3, a4, a5, a6⟩ := m
          dsimp only at a1 a3 a4 a6
          exact ⟨fun hlt => room_at HR.out _ 8 a1 a4 (by omega), by omega⟩)
        go_wp2_with fail
        clear k0 k1 k2 k3
        go_loopw [9] (fun iv wr => ∃ (q : Nat) (e' : Drv) (f' : Bool), q ≤ rd ∧ iv = .int .i64 (q : Int) ∧ Hid (rgets (e, f) 1 q = (e', f')) ∧ RCtx g b e' f' N0 Q w0 wr ((.slice (some ⟨k, 0, none⟩) 4 4, [.int .i64 1, .slice ba bs.length bc, .int .i64 0, .int .i64 (rd : Int)]) :: rows)) (fun iv _ => rd - (intOf iv).toNat)
        case atStart => exact ⟨0, e, f, by omega, rfl, Lib.hid rfl, HC.out⟩
        case round =>
          clear HC
          rename World => W5
          obtain ⟨q, e', f', hq, rfl, hg, hC⟩ := hrel
          obtain ⟨k0, k1, k2, k3⟩ := box4 (hC.ctx.rs 0 rfl)
          obtain ⟨oa, oc, -, -, -, -, c4, -⟩ := hC.cells
          by_cases hql : q < rd
          · cases hf : f' with
            | false =>
              rw [hf] at c4 hg hC
              obtain ⟨hrm, hoe⟩ := HRM.out q e' false hg.out hq
              have HRQ := Lib.hid (hrm hql)
              have HC := Lib.hid hC
              clear hf hC hrm k1 k2
              go_wp2_with fail
              clear k0 k3 c4
              go_loopw [10, 11] (fun xv jv wr => ∃ (j : Nat) (x : Int) (e2 : Drv) (f2 : Bool), j ≤ 8 ∧ jv = .int .i64 (j : Int) ∧ xv = .int .i64 x ∧ Hid (rrun (e', false) (List.replicate j 15) = (e2, f2)) ∧ Hid (SoFar e' 1 j f2 x) ∧ RCtx g b e2 f2 N0 Q w0 wr ((.slice (some ⟨k, 0, none⟩) 4 4, [.int .i64 1, .slice ba bs.length bc, .int .i64 0, .int .i64 (rd : Int)]) :: rows)) (fun _ jv _ => 8 - (intOf jv).toNat)
              case atStart => exact ⟨0, 0, e', false, by omega, rfl, rfl, Lib.hid (rrun_nil _), Lib.hid ⟨⟨by decide, by decide⟩, fun _ => rfl⟩, HC.out⟩
              case round =>
                clear HC
                rename World => W6
                obtain ⟨j, x, e2, f2, hj, rfl, rfl, hrj, hso, hC⟩ := hrel
                obtain ⟨k0, k1, k2, k3⟩ := box4 (hC.ctx.rs 0 rfl)
                obtain ⟨oa, oc, -, -, -, c3, c4, hfr, hRo, -, hgs, hne⟩ := hC.cells
                have HC := Lib.hid hC
                have hxb := soFar_bd hso.out (by omega)
                clear hC k1 k2 k3
                by_cases hjl : j < 8
                · have HST := Lib.hid (r_next _ hrj.out HC.out 15 (by decide) HRQ.out (by rw [List.length_replicate]; omega))
                  clear c3 c4 hfr hRo hgs hne
                  go_wp2_with (go_at_call 177; refine HST.out.mono ?_; rintro e9 w2 ⟨y', e3, f3, rfl, hv, -, hyb, hq2, hq3, hC2⟩; obtain ⟨k0', -, -, -⟩ := box4 (hC2.ctx.rs 0 rfl))
                  refine ⟨?rel, ?measure⟩
                  case rel => exact ⟨j + 1, x * 2 + y' / 2 % 2, e3, f3, by omega, by go_num, by rw [or2 x (y' / 2) (by omega)], Lib.hid (by rw [List.replicate_succ']; exact hq2), Lib.hid (soFar1 hso.out hrj.out hq3 hyb hv), hC2⟩
                  case measure => simp [intOf]; omega
                · obtain rfl : j = 8 := by omega
                  cases hf2 : f2 with
                  | false =>
                    rw [hf2] at c4 hrj hso HC
                    have HG : Hid (rgets (e, f) 1 (q + 1) = ({ e2 with out := e2.out ++ [x] }, false)) := Lib.hid (by
                      show rget (rgets (e, f) 1 q) 1 = _
                      rw [hg.out]
                      exact rget_ok rfl hrj.out hso.out)
                    have hoe2 : e2.out = e'.out := by
                      have h1 := (rrun_ok hrj.out).2
                      rw [← h1]
                      exact (run_keep _ e').1
                    have HRo := Lib.hid hRo
                    have HNE : Hid (¬ (Value.slice oa e2.out.length oc).ownBlock = some g) := Lib.hid (fun hk => (hne g hk).1 rfl)
                    have C3 := Lib.hid c3
                    have f3 := hfr 3
                    have hol2 : (ints e2.out).length = e2.out.length := ints_len _
                    have hoe3 : e2.out.length ≤ 1010000 := by rw [hoe2]; exact hoe
                    have hng : W6.heap.size ≠ g := by omega
                    clear hf2 hrj hso hg hRo hne hoe2 hfr hoe
                    go_wp2_with (at_builtin; go_must (refine wpList_app1 rfl _ _ 33 rfl 3 (.int .i64 0) 8 Tryz.underlying33 info_int rfl (.slice oa e2.out.length oc) (ints e2.out) e2.out.length hol2 rfl W6 (.int .i64 x) ⟨rfl, rfl, rfl⟩ HRo.out rfl rfl (by omega) (by omega) ?_); intro gn cap w3 hR3 hU3 hg3 hgs3; have hst := HC.out.store (e2.out ++ [x]) C3.out (by rw [ints_app]; exact hR3) hU3 (fun k hk => by simp only [Value.ownBlock, Option.some.injEq] at hk; rw [← hk]; exact hg3); have HST := Lib.hid hst; clear hst; have c3' := (hU3.cell (p := ⟨g, 3, none⟩) hgs HNE.out).trans C3.out; have f3' := (hU3.frozen (p := ⟨g, 3, none⟩) hgs HNE.out).trans f3)
                    refine ⟨?rel, ?measure⟩
                    case rel => exact ⟨q + 1, _, false, by omega, by go_num, HG, HST.out⟩
                    case measure => simp [intOf]; omega
                  | true =>
                    rw [hf2] at c4 hrj HC
                    have HG : Hid (rgets (e, f) 1 (q + 1) = (e2, true)) := Lib.hid (by
                      show rget (rgets (e, f) 1 q) 1 = _
                      rw [hg.out]
                      exact rget_bad rfl hrj.out)
                    clear hf2 hrj hso hg hRo hne hfr hoe c3
                    go_wp2_with fail
                    refine ⟨?rel, ?measure⟩
                    case rel => exact ⟨q + 1, e2, true, by omega, by go_num, HG, HC.out⟩
                    case measure => simp [intOf]; omega
            | true =>
              rw [hf] at c4 hg hC
              have HF : Hid (rgets (rrun (d, c) (bs.flatMap fun x => outsL x 1)) 1 rd = (e', true)) := Lib.hid (by
                rw [HP.out]
                exact rgets_full hg.out rd hq)
              have HC := Lib.hid hC.tl
              clear hf hC k0 k1 k2
              go_wp2
              go_end0
              exact ⟨e', true, rfl, HF.out, HC.out⟩
          · obtain rfl : rd = q := by omega
            have HF : Hid (rgets (rrun (d, c) (bs.flatMap fun x => outsL x 1)) 1 rd = (e', f')) := Lib.hid (by
              rw [HP.out]
              exact hg.out)
            have HC := Lib.hid hC.tl
            clear hC k0 k1 k2 c4
            go_wp2
            go_end0
            exact ⟨e', f', rfl, HF.out, HC.out⟩
end Go.Proofs.YteombggfmeilaaaGreat
namespace Go.Proofs.YteombggfmeilaaaGreat
open Go.RowKit
set_option maxRecDepth 100000 in
set_option maxHeartbeats 8000000 in
theorem r_phase4 {g b : Nat} {d : Drv} {c : Bool} {N0 : Int} {Q : Own} {w0 w : World} {rows : List (Value × List Value)} (h : RCtx g b d c N0 Q w0 w rows) (ba : Option Addr) (bc : Nat) (bs : List Int) (rd : Nat) (hb : ∀ x ∈ bs, 0 ≤ x ∧ x < 256) (hbl : bs.length ≤ 512) (hrd : rd ≤ 512) (hbm : ∀ (w' : World) (e : Drv) (f : Bool), RCtx g b e f N0 Q w0 w' rows → RS w' (.slice ba bs.length bc) (ints bs)) (hol : d.out.length ≤ 1000000) (hr : d.room N0 ((bs.length * 2 : Nat) + (rd * 2 : Nat))) :
    Calls Tryz.prog 122 #[.pointer (some ⟨g, 0, none⟩), .agg #[.int .i64 4, .slice ba bs.length bc, .int .i64 0, .int .i64 (rd : Int)]] w fun e w' => ∃ (e2 : Drv) (f2 : Bool), e = .returned (.tuple #[]) ∧ rgets (rrun (d, c) (bs.flatMap fun x => outsL x 4)) 4 rd = (e2, f2) ∧ RCtx g b e2 f2 N0 Q w0 w' rows := by
  have h1 := h.lit [.int .i64 4, .slice ba bs.length bc, .int .i64 0, .int .i64 (rd : Int)] 156 4 rfl (by decide)
  obtain ⟨k, hk⟩ : ∃ k, w.heap.size = k := ⟨_, rfl⟩
  obtain ⟨k0, k1, k2, k3⟩ := box4 (by have := h1.ctx.rs 0 rfl; rw [hk] at this; exact this)
  have H := Lib.hid h1
  have HR := Lib.hid hr
  have HBM := Lib.hid hbm
  have HB := Lib.hid hb
  clear h h1 hr hbm hb
  go_enter Tryz.func122, Tryz.ntmps122
  go_wp2_with fail
  clear k0 k1 k2 k3
  go_loopw [4] (fun iv wr => iv = .int .i64 0 ∧ RCtx g b d c N0 Q w0 wr ((.slice (some ⟨k, 0, none⟩) 4 4, [.int .i64 4, .slice ba bs.length bc, .int .i64 0, .int .i64 (rd : Int)]) :: rows)) (fun _ _ => 0)
  case atStart => exact ⟨rfl, by rw [← hk]; exact H.out⟩
  case round =>
    clear H
    rename World => W1
    obtain ⟨rfl, hC⟩ := hrel
    obtain ⟨k0, k1, k2, k3⟩ := box4 (hC.ctx.rs 0 rfl)
    have HC := Lib.hid hC
    clear hC
    go_wp2_with fail
    clear k0 k1 k2 k3
    go_loopw [5] (fun iv wr => ∃ (i : Nat) (e : Drv) (f : Bool), i ≤ bs.length ∧ iv = .int .i64 (i : Int) ∧ Hid (rrun (d, c) ((bs.take i).flatMap fun x => outsL x 4) = (e, f)) ∧ RCtx g b e f N0 Q w0 wr ((.slice (some ⟨k, 0, none⟩) 4 4, [.int .i64 4, .slice ba bs.length bc, .int .i64 0, .int .i64 (rd : Int)]) :: rows)) (fun iv _ => bs.length - (intOf iv).toNat)
    case atStart => exact ⟨0, d, c, by omega, rfl, Lib.hid (rrun_nil _), HC.out⟩
    case round =>
      clear HC
      rename World => W2
      obtain ⟨i, e, f, hi, rfl, hrun, hC⟩ := hrel
      have hbm2 := HBM.out _ _ _ hC.tl
      obtain ⟨k0, k1, k2, k3⟩ := box4 (hC.ctx.rs 0 rfl)
      have HC := Lib.hid hC
      by_cases hlt : i < bs.length
      · obtain ⟨bb, oo, rfl, hbl2, hcc⟩ := hbm2.cells (by omega)
        have hcell := hcc i hlt
        rw [ints_at _ _ hlt] at hcell
        obtain ⟨y, hy⟩ : ∃ y, bs.getD i 0 = y := ⟨_, rfl⟩
        rw [hy] at hcell
        have hmem : y ∈ bs := by rw [← hy, List.getD_eq_getElem?_getD, List.getElem?_eq_getElem hlt]; exact List.getElem_mem hlt
        have hyb := HB.out y hmem
        obtain ⟨A, hA⟩ : ∃ A, ((bs.take i).flatMap fun x => outsL x 4) = A := ⟨_, rfl⟩
        rw [hA] at hrun
        have HAL : Hid (A.length = i * 2) := Lib.hid (by
          rw [← hA, flat_len _ 4 2 (fun x _ => rfl), List.length_take, Nat.min_eq_left (by omega)])
        have HE1 : Hid (((bs.take (i + 1)).flatMap fun x => outsL x 4) = A ++ outsL y 4) := Lib.hid (by
          rw [show bs.take (i + 1) = bs.take i ++ [y] from by
            rw [List.take_add_one, ← hy]
            simp [List.getD_eq_getElem?_getD, List.getElem?_eq_getElem hlt], List.flatMap_append, hA]
          simp)
        have HOUT := Lib.hid (fun w => ref_out4 w y hyb)
        clear hC hbm2 hcc hy hmem hA k2 k3
        go_upto_region 8 with fail
        go_region_held3 (fun w' => w'.cell? ⟨k, 0, none⟩ = some (.int .i64 4) ∧ w'.cell? ⟨k, 1, none⟩ = some (.slice (some ⟨bb, oo, none⟩) bs.length bc) ∧ w'.cell? ⟨bb, oo + i, none⟩ = some (.int .i64 y)) (first | exact ⟨k0, k1, hcell⟩ | exact ⟨x0, x1, x2⟩) (first | (go_at_call 178; refine (HOUT.out _).mono ?_; rintro e' w2 ⟨v, rfl, hv, hvo, hvu⟩; obtain ⟨va, vc, rfl, -⟩ := hv.form; rw [show (ints (outBits y 4)).length = 2 from rfl] at hv hvo; have HC2 := Lib.hid ((HC.out.frame (Upd.refl none' W2).drew).row (r := (.slice va 2 vc, ints (outBits y 4))) hvu (hv.rs (show 2 ≤ 1048576 by decide)) (fun k hk => ⟨hvo k hk, hv.lt k hk⟩) hv.mk); obtain ⟨x0, x1, -, -⟩ := box4 (HC2.out.ctx.rs 1 rfl); have x2 := (hvu.cell (p := ⟨bb, oo + i, none⟩) hbl2 (fun f => f)).trans hcell))
        clear x0 x1 x2
        go_wp2_with fail
        clear hv hvo hvu k0 k1 hcell HC HOUT
        go_loopw [8] (fun jv wr => ∃ (j : Nat) (e : Drv) (f : Bool), j ≤ 2 ∧ jv = .int .i64 (j : Int) ∧ Hid (rrun (d, c) (A ++ (outsL y 4).take j) = (e, f)) ∧ RCtx g b e f N0 Q w0 wr ((.slice va 2 vc, ints (outBits y 4)) :: ((.slice (some ⟨k, 0, none⟩) 4 4, [.int .i64 4, .slice (some ⟨bb, oo, none⟩) bs.length bc, .int .i64 0, .int .i64 (rd : Int)]) :: rows))) (fun jv _ => 2 - (intOf jv).toNat)
        case atStart => exact ⟨0, e, f, by omega, rfl, Lib.hid (by rw [List.take_zero, List.append_nil]; exact hrun.out), HC2.out⟩
        case round =>
          clear HC2 hrun e f
          rename World => W3
          obtain ⟨j, e, f, hj, rfl, hrun, hC⟩ := hrel
          obtain ⟨oa, oc, -, -, -, -, c4, -⟩ := hC.cells
          obtain ⟨k0, k1, k2, k3⟩ := box4 (hC.ctx.rs 1 rfl)
          have hrs := hC.ctx.rs 0 rfl
          have HC := Lib.hid hC
          clear hC k1 k2 k3
          by_cases hjl : j < 2
          · cases hf : f with
            | false =>
              rw [hf] at c4
              obtain ⟨vb, vo, rfl, -, hvc⟩ := hrs.cells (by decide)
              have hz := hvc j hjl
              rw [ints_at _ _ (show j < (outBits y 4).length from hjl)] at hz
              obtain ⟨z, hzz⟩ : ∃ z, (outBits y 4).getD j 0 = z := ⟨_, rfl⟩
              rw [hzz] at hz
              have HZ : Hid ((0 ≤ z ∧ z ≤ 15) ∧ (outsL y 4).take (j + 1) = (outsL y 4).take j ++ [z]) := Lib.hid (by
                subst hzz
                rcases (show j = 0 ∨ j = 1 by omega) with rfl | rfl
                all_goals exact ⟨by show 0 ≤ _ % 16 ∧ _ % 16 ≤ 15; omega, rfl⟩)
              have hzb := HZ.out.1

              have HST := Lib.hid (r_next _ hrun.out HC.out (z) (by omega) HR.out (by
                rw [List.length_append, HAL.out, List.length_take, show (outsL y 4).length = 2 from rfl, Nat.min_eq_left hj]
                omega))
              clear hvc hzz hf hrs
              go_wp2_with (go_at_call 177; refine HST.out.mono ?_; rintro e' w2 ⟨y', e2, f2, rfl, -, -, -, hq, -, hC2⟩)
              refine ⟨?rel, ?measure⟩
              case rel => exact ⟨j + 1, e2, f2, by omega, by go_num, Lib.hid (by rw [HZ.out.2, ← List.append_assoc]; exact hq), hC2⟩
              case measure => simp [intOf]; omega
            | true =>
              rw [hf] at c4
              have HF : Hid (rrun (d, c) ((bs.take (i + 1)).flatMap fun x => outsL x 4) = (e, true)) := Lib.hid (by
                have h1 := hrun.out
                rw [hf] at h1
                have := rrun_full h1 ((outsL y 4).drop j)
                rw [List.append_assoc, List.take_append_drop] at this
                rw [HE1.out]
                exact this)
              rw [hf] at HC
              clear hf hrs hrun
              go_wp2_with fail
              refine ⟨?rel, ?measure⟩
              case rel => exact ⟨i + 1, e, true, by omega, by go_num, HF, HC.out.tl⟩
              case measure => simp [intOf]; omega
          · obtain rfl : j = 2 := by omega
            have HF : Hid (rrun (d, c) ((bs.take (i + 1)).flatMap fun x => outsL x 4) = (e, f)) := Lib.hid (by
              rw [HE1.out]
              exact hrun.out)
            clear hrs hrun
            go_wp2_with fail
            refine ⟨?rel, ?measure⟩
            case rel => exact ⟨i + 1, e, f, by omega, by go_num, HF, HC.out.tl⟩
            case measure => simp [intOf]; omega
      · obtain rfl : i = bs.length := by omega
        rw [List.take_length] at hrun
        have HP := hrun
        clear hC hbm2 hrun
        have HRM : Hid (∀ (q : Nat) (e' : Drv) (f' : Bool), rgets (e, f) 4 q = (e', f') → q ≤ rd → (q < rd → e'.room N0 2) ∧ e'.out.length ≤ 1010000) := Lib.hid (by
          intro q e' f' hq hqd
          have m1 := rrun_kept (d, c) (bs.flatMap fun x => outsL x 4)
          rw [HP.out, flat_len _ 4 2 (fun x _ => rfl)] at m1
          have m2 := rgets_kept (e, f) 4 (by decide) q
          rw [hq, show (8 : Int) / 4 = 2 from rfl] at m2
          have m := m1.trans m2
          obtain ⟨a1, a2, a3, a4, a5, a6⟩ := m
          dsimp only at a1 a3 a4 a6
          exact ⟨fun hlt => room_at HR.out _ 2 a1 a4 (by omega), by omega⟩)
        go_wp2_with fail
        clear k0 k1 k2 k3
        go_loopw [9] (fun iv wr => ∃ (q : Nat) (e' : Drv) (f' : Bool), q ≤ rd ∧ iv = .int .i64 (q : Int) ∧ Hid (rgets (e, f) 4 q = (e', f')) ∧ RCtx g b e' f' N0 Q w0 wr ((.slice (some ⟨k, 0, none⟩) 4 4, [.int .i64 4, .slice ba bs.length bc, .int .i64 0, .int .i64 (rd : Int)]) :: rows)) (fun iv _ => rd - (intOf iv).toNat)
        case atStart => exact ⟨0, e, f, by omega, rfl, Lib.hid rfl, HC.out⟩
        case round =>
          clear HC
          rename World => W5
          obtain ⟨q, e', f', hq, rfl, hg, hC⟩ := hrel
          obtain ⟨k0, k1, k2, k3⟩ := box4 (hC.ctx.rs 0 rfl)
          obtain ⟨oa, oc, -, -, -, -, c4, -⟩ := hC.cells
          by_cases hql : q < rd
          · cases hf : f' with
            | false =>
              rw [hf] at c4 hg hC
              obtain ⟨hrm, hoe⟩ := HRM.out q e' false hg.out hq
              have HRQ := Lib.hid (hrm hql)
              have HC := Lib.hid hC
              clear hf hC hrm k1 k2
              go_wp2_with fail
              clear k0 k3 c4
              go_loopw [10, 11] (fun xv jv wr => ∃ (j : Nat) (x : Int) (e2 : Drv) (f2 : Bool), j ≤ 2 ∧ jv = .int .i64 (j : Int) ∧ xv = .int .i64 x ∧ Hid (rrun (e', false) (List.replicate j 15) = (e2, f2)) ∧ Hid (SoFar e' 4 j f2 x) ∧ RCtx g b e2 f2 N0 Q w0 wr ((.slice (some ⟨k, 0, none⟩) 4 4, [.int .i64 4, .slice ba bs.length bc, .int .i64 0, .int .i64 (rd : Int)]) :: rows)) (fun _ jv _ => 2 - (intOf jv).toNat)
              case atStart => exact ⟨0, 0, e', false, by omega, rfl, rfl, Lib.hid (rrun_nil _), Lib.hid ⟨⟨by decide, by decide⟩, fun _ => rfl⟩, HC.out⟩
              case round =>
                clear HC
                rename World => W6
                obtain ⟨j, x, e2, f2, hj, rfl, rfl, hrj, hso, hC⟩ := hrel
                obtain ⟨k0, k1, k2, k3⟩ := box4 (hC.ctx.rs 0 rfl)
                obtain ⟨oa, oc, -, -, -, c3, c4, hfr, hRo, -, hgs, hne⟩ := hC.cells
                have HC := Lib.hid hC
                have hxb := soFar_bd hso.out (by omega)
                clear hC k1 k2 k3
                by_cases hjl : j < 2
                · have HST := Lib.hid (r_next _ hrj.out HC.out 15 (by decide) HRQ.out (by rw [List.length_replicate]; omega))
                  clear c3 c4 hfr hRo hgs hne
                  go_wp2_with (go_at_call 177; refine HST.out.mono ?_; rintro e9 w2 ⟨y', e3, f3, rfl, hv, -, hyb, hq2, hq3, hC2⟩; obtain ⟨k0', -, -, -⟩ := box4 (hC2.ctx.rs 0 rfl))
                  refine ⟨?rel, ?measure⟩
                  case rel => exact ⟨j + 1, x * 16 + y', e3, f3, by omega, by go_num, by rw [i64_or4 (x * 16) y' (by omega) (by omega) (by omega) (by omega) (by omega)], Lib.hid (by rw [List.replicate_succ']; exact hq2), Lib.hid (soFar4 hso.out hrj.out hq3 hyb hv), hC2⟩
                  case measure => simp [intOf]; omega
                · obtain rfl : j = 2 := by omega
                  cases hf2 : f2 with
                  | false =>
                    rw [hf2] at c4 hrj hso HC
                    have HG : Hid (rgets (e, f) 4 (q + 1) = ({ e2 with out := e2.out ++ [x] }, false)) := Lib.hid (by
                      show rget (rgets (e, f) 4 q) 4 = _
                      rw [hg.out]
                      exact rget_ok rfl hrj.out hso.out)
                    have hoe2 : e2.out = e'.out := by
                      have h1 := (rrun_ok hrj.out).2
                      rw [← h1]
                      exact (run_keep _ e').1
                    have HRo := Lib.hid hRo
                    have HNE : Hid (¬ (Value.slice oa e2.out.length oc).ownBlock = some g) := Lib.hid (fun hk => (hne g hk).1 rfl)
                    have C3 := Lib.hid c3
                    have f3 := hfr 3
                    have hol2 : (ints e2.out).length = e2.out.length := ints_len _
                    have hoe3 : e2.out.length ≤ 1010000 := by rw [hoe2]; exact hoe
                    have hng : W6.heap.size ≠ g := by omega
                    clear hf2 hrj hso hg hRo hne hoe2 hfr hoe
                    go_wp2_with (at_builtin; go_must (refine wpList_app1 rfl _ _ 33 rfl 3 (.int .i64 0) 8 Tryz.underlying33 info_int rfl (.slice oa e2.out.length oc) (ints e2.out) e2.out.length hol2 rfl W6 (.int .i64 x) ⟨rfl, rfl, rfl⟩ HRo.out rfl rfl (by omega) (by omega) ?_); intro gn cap w3 hR3 hU3 hg3 hgs3; have hst := HC.out.store (e2.out ++ [x]) C3.out (by rw [ints_app]; exact hR3) hU3 (fun k hk => by simp only [Value.ownBlock, Option.some.injEq] at hk; rw [← hk]; exact hg3); have HST := Lib.hid hst; clear hst; have c3' := (hU3.cell (p := ⟨g, 3, none⟩) hgs HNE.out).trans C3.out; have f3' := (hU3.frozen (p := ⟨g, 3, none⟩) hgs HNE.out).trans f3)
                    refine ⟨?rel, ?measure⟩
                    case rel => exact ⟨q + 1, _, false, by omega, by go_num, HG, HST.out⟩
                    case measure => simp [intOf]; omega
                  | true =>
                    rw [hf2] at c4 hrj HC
                    have HG : Hid (rgets (e, f) 4 (q + 1) = (e2, true)) := Lib.hid (by
                      show rget (rgets (e, f) 4 q) 4 = _
                      rw [hg.out]
                      exact rget_bad rfl hrj.out)
                    clear hf2 hrj hso hg hRo hne hfr hoe c3
                    go_wp2_with fail
                    refine ⟨?rel, ?measure⟩
                    case rel => exact ⟨q + 1, e2, true, by omega, by go_num, HG, HC.out⟩
                    case measure => simp [intOf]; omega
            | true =>
              rw [hf] at c4 hg hC
              have HF : Hid (rgets (rrun (d, c) (bs.flatMap fun x => outsL x 4)) 4 rd = (e', true)) := Lib.hid (by
                rw [HP.out]
                exact rgets_full hg.out rd hq)
              have HC := Lib.hid hC.tl
              clear hf hC k0 k1 k2
              go_wp2
              go_end0
              exact ⟨e', true, rfl, HF.out, HC.out⟩
          · obtain rfl : rd = q := by omega
            have HF : Hid (rgets (rrun (d, c) (bs.flatMap fun x => outsL x 4)) 4 rd = (e', f')) := Lib.hid (by
              rw [HP.out]
              exact hg.out)
            have HC := Lib.hid hC.tl
            clear hC k0 k1 k2 c4
            go_wp2
            go_end0
            exact ⟨e', f', rfl, HF.out, HC.out⟩
end Go.Proofs.YteombggfmeilaaaGreat
/- RdH. -/
namespace Go.Proofs.YteombggfmeilaaaGreat
open Go.RowKit
theorem rmay_some (la cl rd : Int) (bs : List Int) (h : bs ≠ []) : Ph.may ⟨la, bs, cl, rd⟩ = (lanesB la && decide (cl = 0) && decide (rd = 0) && decide ((bs.length : Int) ≤ 512) && bs.all byteB) := by
  have e : decide ((bs.length : Int) ≤ 512) = decide (bs.length ≤ 512) := by congr 1; apply propext; omega
  rw [e]
  unfold Ph.may
  dsimp only
  rw [if_pos h]
  cases lanesB la <;> cases decide (cl = 0) <;> cases decide (rd = 0) <;> cases decide (bs.length ≤ 512) <;> cases bs.all byteB <;> rfl
theorem rmay_clocks (la cl rd : Int) (h : cl ≠ 0) : Ph.may ⟨la, [], cl, rd⟩ = (decide (la = 0) && decide (rd = 0) && decide (1 ≤ cl ∧ cl ≤ 400)) := by
  by_cases hr : rd = 0
  · subst hr
    rw [may_none]
    cases decide (la = 0) <;> rfl
  · rw [may_read la cl rd hr, decide_eq_false h, decide_eq_false hr]
    simp
theorem rmay_read (la rd : Int) : Ph.may ⟨la, [], 0, rd⟩ = (lanesB la && decide (1 ≤ rd ∧ rd ≤ 512)) := by
  by_cases hr : rd = 0
  · subst hr
    rw [may_none]
    simp
  · rw [may_read la 0 rd hr]
    simp
set_option maxRecDepth 100000 in
set_option maxHeartbeats 4000000 in
theorem ref_phmay (w : World) (p : Ph) (bv : Value) (hr : RS w bv (ints p.bytes)) :
    Calls Tryz.prog 121 #[.agg #[.int .i64 p.lanes, bv, .int .i64 p.clocks, .int .i64 p.read]] w fun e w' => e = .returned (.bool p.may) ∧ Upd none' w w' := by
  obtain ⟨la, bs, cl, rd⟩ := p
  dsimp only at hr ⊢
  have hr2 := hr.upd ((Upd.refl none' w).alloc (.cells #[.int .i64 la, bv, .int .i64 cl, .int .i64 rd] 156)) (fun _ _ _ f => f)
  obtain ⟨_, a, cap, rfl, -⟩ := hr
  rw [ints_len] at hr2 ⊢
  have hby := rbytes _ _ bs hr2
  obtain ⟨M, hM⟩ : ∃ M, Ph.may ⟨la, bs, cl, rd⟩ = M := ⟨_, rfl⟩
  rw [hM]
  clear hr2
  have hlan : (la = 1 ∧ lanesB la = true ∧ (la == 1) = true ∧ (la == 4) = false) ∨ (la = 4 ∧ lanesB la = true ∧ (la == 1) = false ∧ (la == 4) = true) ∨ (lanesB la = false ∧ (la == 1) = false ∧ (la == 4) = false) := by
    by_cases h1 : la = 1
    · subst h1; exact .inl ⟨rfl, rfl, rfl, rfl⟩
    · by_cases h4 : la = 4
      · subst h4; exact .inr (.inl ⟨rfl, rfl, rfl, rfl⟩)
      · exact .inr (.inr ⟨by unfold lanesB; simp [h1, h4], by simpa using h1, by simpa using h4⟩)
  by_cases hb : bs = []
  · subst hb
    clear hby
    by_cases hc : cl = 0
    · subst hc
      have hm := Lib.hid (hM.symm.trans (rmay_read la rd))
      clear hM
      rcases hlan with ⟨rfl, hl, -, -⟩ | ⟨rfl, hl, -, -⟩ | ⟨hl, h2, h4⟩
      all_goals
        by_cases c1 : rd ≥ 1 <;> by_cases c2 : rd ≤ 512
        all_goals (try (exfalso; omega))
        all_goals
          go_enter Tryz.func121, Tryz.ntmps121
          go_wp2
          go_ret
          exact ⟨by rw [hm.out]; simp [*], (Upd.refl none' w).alloc _⟩
    · have hm := Lib.hid (hM.symm.trans (rmay_clocks la cl rd hc))
      have hc2 : (cl == 0) = false := by simpa using hc
      clear hM hc
      by_cases c0 : la = 0
      · subst c0
        clear hlan
        by_cases c1 : rd = 0
        · subst c1
          by_cases c2 : cl ≥ 1 <;> by_cases c3 : cl ≤ 400
          all_goals (try (exfalso; omega))
          all_goals
            go_enter Tryz.func121, Tryz.ntmps121
            go_wp2
            go_ret
            exact ⟨by rw [hm.out]; simp [*], (Upd.refl none' w).alloc _⟩
        · have b1 : (rd == 0) = false := by simpa using c1
          go_enter Tryz.func121, Tryz.ntmps121
          go_wp2
          go_ret
          exact ⟨by rw [hm.out]; simp [*], (Upd.refl none' w).alloc _⟩
      · have b0 : (la == 0) = false := by simpa using c0
        rcases hlan with ⟨rfl, hl, -, -⟩ | ⟨rfl, hl, -, -⟩ | ⟨hl, h2, h4⟩
        all_goals
          go_enter Tryz.func121, Tryz.ntmps121
          go_wp2
          go_ret
          exact ⟨by rw [hm.out]; simp [*], (Upd.refl none' w).alloc _⟩
  · have hm := Lib.hid (hM.symm.trans (rmay_some la cl rd bs hb))
    have hpos := List.length_pos_iff.2 hb
    clear hb hM
    generalize bs.all byteB = b3 at hm hby
    generalize bs.length = n at *
    have hn0 : (n : Int) > 0 := by omega
    rcases hlan with ⟨rfl, hl, -, -⟩ | ⟨rfl, hl, -, -⟩ | ⟨hl, h2, h4⟩
    rotate_right
    · clear hby
      go_enter Tryz.func121, Tryz.ntmps121
      go_wp2
      go_ret
      exact ⟨by rw [hm.out]; simp [*], (Upd.refl none' w).alloc _⟩
    all_goals
      by_cases c0 : cl = 0
      rotate_left
      · have b0 : (cl == 0) = false := by simpa using c0
        clear hby
        go_enter Tryz.func121, Tryz.ntmps121
        go_wp2
        go_ret
        exact ⟨by rw [hm.out]; simp [*], (Upd.refl none' w).alloc _⟩
      · subst c0
        by_cases c1 : rd = 0
        rotate_left
        · have b1 : (rd == 0) = false := by simpa using c1
          clear hby
          go_enter Tryz.func121, Tryz.ntmps121
          go_wp2
          go_ret
          exact ⟨by rw [hm.out]; simp [*], (Upd.refl none' w).alloc _⟩
        · subst c1
          by_cases c2 : (n : Int) ≤ 512
          · go_enter Tryz.func121, Tryz.ntmps121
            go_wp2_with (go_at_call 169; refine hby.mono ?_; rintro e w1 ⟨rfl, rfl⟩)
            go_ret
            exact ⟨by rw [hm.out]; simp [*], (Upd.refl none' w).alloc _⟩
          · clear hby
            go_enter Tryz.func121, Tryz.ntmps121
            go_wp2
            go_ret
            exact ⟨by rw [hm.out]; simp [*] <;> (intros; omega), (Upd.refl none' w).alloc _⟩
end Go.Proofs.YteombggfmeilaaaGreat
namespace Go.Proofs.YteombggfmeilaaaGreat
open Go.RowKit
set_option maxRecDepth 100000 in
set_option maxHeartbeats 4000000 in
theorem ref_clocksP {P Q : Own} {w0 w : World} {rows : List (Value × List Value)} (hC : Ctx P Q w0 w rows) (a : Option Addr) (n cap : Nat) (L : List (Ph × Value)) (hP : PhsV rows (.slice a n cap) L) :
    Calls Tryz.prog 43 #[.slice a n cap] w fun e w' => e = .returned (.tuple #[.int .i64 (clocksV L), .int .i64 (clocksE L)]) ∧ Ctx P Q w0 w' rows := by
  obtain ⟨rfl, hcap⟩ : n = L.length ∧ n ≤ cap := by
    obtain ⟨a', cap', e, hc, _⟩ := hP
    simp only [Value.slice.injEq] at e
    obtain ⟨rfl, rfl, rfl⟩ := e
    exact ⟨rfl, hc⟩
  have hll := phs_len hP
  have HP := Lib.hid hP
  have HC := Lib.hid hC
  clear hP hC
  go_enter Tryz.func43, Tryz.ntmps43
  go_wp2_with fail
  go_loopw [4, 5] (fun ov iv wr => ∃ i : Nat, i ≤ L.length ∧ iv = .int .i64 (i : Int) ∧ ov = .int .i64 (phsMany ((L.take i).map Prod.fst)) ∧ Hid ((L.take i).all (fun x => x.1.may) = true) ∧ Ctx P Q w0 wr rows) (fun _ iv _ => L.length - (intOf iv).toNat)
  case atStart => exact ⟨0, by omega, rfl, rfl, Lib.hid rfl, HC.out⟩
  case round =>
    rename World => W2
    obtain ⟨i, hi, rfl, rfl, hall, hC2⟩ := hrel
    have hbd := phsMany_bd ((L.take i).map Prod.fst) (by rw [map_all]; exact hall.out)
    rw [List.length_map, List.length_take, Nat.min_eq_left hi] at hbd
    by_cases hlt : i < L.length
    · obtain ⟨-, -, g, o, rfl, hg, k0, k1, k2, k3⟩ := phs_cells hC2 HP.out i hlt
      obtain ⟨ba, bc, hbv, hbm, hbl⟩ := phs_bytes HP.out i hlt
      have hbm := hbm hC2
      rw [hbv] at k1
      have HF := Lib.hid (all_false L (fun x => x.1.may) i hlt)
      have HT := Lib.hid (take_el L i hlt)
      obtain ⟨p, hp⟩ : ∃ p, L[i].1 = p := ⟨_, rfl⟩
      have HT2 : Hid ((L.take (i + 1)).map Prod.fst = (L.take i).map Prod.fst ++ [p]) := Lib.hid (by rw [HT.out, List.map_append, ← hp]; rfl)
      have HT3 : Hid (p.may = true → (L.take (i + 1)).all (fun x => x.1.may) = true) := Lib.hid (fun h => by rw [HT.out, List.all_append, hall.out, ← hp] at *; simp [h])
      have HF2 : Hid (p.may = false → L.all (fun x => x.1.may) = false) := Lib.hid (fun h => HF.out (by rw [hp]; exact h))
      rw [hp] at k0 k1 k2 k3 hbm hbl
      clear hbv HF HT hp
      obtain ⟨S, hS⟩ : ∃ S, phsMany ((L.take i).map Prod.fst) = S := ⟨_, rfl⟩
      have HSN : Hid (phsMany ((L.take (i + 1)).map Prod.fst) = S + p.many) := Lib.hid (by rw [HT2.out, many_snoc, hS])
      rw [hS] at hbd ⊢
      clear hS HT2
      have hmay := ref_phmay _ p _ hbm
      have HC2 := Lib.hid hC2
      have HM := Lib.hid hmay
      have HCELL : Hid (∀ w', Upd none' W2 w' → w'.cell? ⟨g, o + i * 4, none⟩ = some (.int .i64 p.lanes) ∧ w'.cell? ⟨g, o + i * 4 + 1, none⟩ = some (.slice ba p.bytes.length bc) ∧ w'.cell? ⟨g, o + i * 4 + 2, none⟩ = some (.int .i64 p.clocks) ∧ w'.cell? ⟨g, o + i * 4 + 3, none⟩ = some (.int .i64 p.read)) := Lib.hid (fun w' u => ⟨(u.cell (p := ⟨g, o + i * 4, none⟩) hg (fun f => f)).trans k0, (u.cell (p := ⟨g, o + i * 4 + 1, none⟩) hg (fun f => f)).trans k1, (u.cell (p := ⟨g, o + i * 4 + 2, none⟩) hg (fun f => f)).trans k2, (u.cell (p := ⟨g, o + i * 4 + 3, none⟩) hg (fun f => f)).trans k3⟩)
      clear hC2 hbm hmay
      cases hm : p.may with
      | false =>
        rw [hm] at HM
        have hres := HF2.out hm
        have HR := Lib.hid hres
        clear hres
        go_wp2_with (go_at_call 121; refine HM.out.mono ?_; rintro e w2 ⟨rfl, hU2⟩)
        go_ret2
        exact ⟨by unfold clocksV clocksE; rw [HR.out]; rfl, HC2.out.frame hU2⟩
      | true =>
        rw [hm] at HM
        have HF := Lib.hid (may_facts hm)
        have HMB := Lib.hid (many_bd hm)
        have HAL := Lib.hid (HT3.out hm)
        obtain ⟨la, bs, cl, rd⟩ := p
        dsimp only at *
        rcases HF.out with ⟨hla | hla, hcl, hbl2, hr0, hr1, -⟩ | ⟨hla, hbs, hrd, hc0, hc1⟩
        · subst hla
          subst hcl
          have hmn := many1 bs rd
          rw [hmn] at HSN
          go_upto_region 9 with (go_at_call 121; refine HM.out.mono ?_; rintro e w2 ⟨rfl, hU2⟩; obtain ⟨c0, c1, c2, c3⟩ := HCELL.out w2 hU2)
          go_region
          all_goals
            go_wp2
            refine ⟨?rel, ?measure⟩
            case rel => exact ⟨i + 1, by omega, by go_num, by rw [HSN.out], Lib.hid HAL.out, (HC2.out.frame hU2).frame (Upd.refl none' _).drew⟩
            case measure => simp [intOf]; omega
        · subst hla
          subst hcl
          have hmn := many4 bs rd
          rw [hmn] at HSN
          go_upto_region 9 with (go_at_call 121; refine HM.out.mono ?_; rintro e w2 ⟨rfl, hU2⟩; obtain ⟨c0, c1, c2, c3⟩ := HCELL.out w2 hU2)
          go_region
          all_goals
            go_wp2
            refine ⟨?rel, ?measure⟩
            case rel => exact ⟨i + 1, by omega, by go_num, by rw [HSN.out, show (((bs.length : Int) + rd) * 8) / 4 = ((bs.length : Int) + rd) * 2 by omega], Lib.hid HAL.out, (HC2.out.frame hU2).frame (Upd.refl none' _).drew⟩
            case measure => simp [intOf]; omega
        · subst hla
          subst hbs
          subst hrd
          rw [many0] at HSN
          have hc0' : cl > 0 := by omega
          go_wp2_with (go_at_call 121; refine HM.out.mono ?_; rintro e w2 ⟨rfl, hU2⟩; obtain ⟨c0, c1, c2, c3⟩ := HCELL.out w2 hU2)
          refine ⟨?rel, ?measure⟩
          case rel => exact ⟨i + 1, by omega, by go_num, by rw [HSN.out], Lib.hid HAL.out, HC2.out.frame hU2⟩
          case measure => simp [intOf]; omega
    · have hie : i = L.length := by omega
      subst hie
      have ha := hall.out
      rw [List.take_length] at ha ⊢
      have HA := Lib.hid ha
      clear ha
      go_wp2
      go_ret2
      exact ⟨by unfold clocksV clocksE; rw [HA.out]; rfl, hC2⟩
end Go.Proofs.YteombggfmeilaaaGreat
namespace Go.Proofs.YteombggfmeilaaaGreat
open Go.RowKit
theorem rphase_kept (p : Drv × Bool) (q : Ph) (h : q.may = true) : p.1.Kept (rphase p q).1 q.many := by
  obtain ⟨d, c⟩ := p
  cases c with
  | true => exact (Drv.Kept.refl d).mono (many_bd h).1
  | false => exact phase_kept d q h
theorem rphases_kept (qs : List Ph) : ∀ p : Drv × Bool, qs.all Ph.may = true → p.1.Kept (rphases p qs).1 (phsMany qs) := by
  induction qs with
  | nil => intro p _; exact Drv.Kept.refl p.1
  | cons q qs ih =>
    intro p h
    rw [List.all_cons, Bool.and_eq_true] at h
    rw [phsMany_cons]
    exact (rphase_kept p q h.1).trans (ih _ h.2)
theorem r_phase {g b : Nat} {d : Drv} {c : Bool} {N0 : Int} {Q : Own} {w0 w : World} {rows : List (Value × List Value)} (h : RCtx g b d c N0 Q w0 w rows) (p : Ph) (hm : p.may = true) (ba : Option Addr) (bc : Nat)
    (hbm : ∀ (w' : World) (e : Drv) (f : Bool), RCtx g b e f N0 Q w0 w' rows → RS w' (.slice ba p.bytes.length bc) (ints p.bytes)) (hol : d.out.length ≤ 1000000) (hr : d.room N0 p.many) :
    Calls Tryz.prog 122 #[.pointer (some ⟨g, 0, none⟩), .agg #[.int .i64 p.lanes, .slice ba p.bytes.length bc, .int .i64 p.clocks, .int .i64 p.read]] w fun e w' => ∃ (e2 : Drv) (f2 : Bool), e = .returned (.tuple #[]) ∧ rphase (d, c) p = (e2, f2) ∧ RCtx g b e2 f2 N0 Q w0 w' rows := by
  have hf := may_facts hm
  obtain ⟨la, bs, cl, rd⟩ := p
  dsimp only at hbm hr hf ⊢
  rcases hf with ⟨hla | hla, hcl, hbl, hr0, hr1, hb⟩ | ⟨hla, hbs, hrd, hc0, hc1⟩
  · subst hla
    subst hcl
    obtain ⟨n, rfl⟩ : ∃ n : Nat, rd = (n : Int) := ⟨rd.toNat, by omega⟩
    rw [many1] at hr
    refine (r_phase1 h ba bc bs n hb hbl (by omega) hbm hol (by rw [show (((bs.length * 8 : Nat) : Int) + ((n * 8 : Nat) : Int)) = ((bs.length : Int) + n) * 8 by omega]; exact hr)).mono ?_
    rintro e w' ⟨e2, f2, h1, h2, h3⟩
    refine ⟨e2, f2, h1, ?_, h3⟩
    rw [rphase_eq, ← h2]
    unfold Ph.says
    rw [show List.replicate (Int.toNat 0) (15 : Int) = [] from rfl, List.append_nil]
    rfl
  · subst hla
    subst hcl
    obtain ⟨n, rfl⟩ : ∃ n : Nat, rd = (n : Int) := ⟨rd.toNat, by omega⟩
    rw [many4] at hr
    refine (r_phase4 h ba bc bs n hb hbl (by omega) hbm hol (by rw [show (((bs.length * 2 : Nat) : Int) + ((n * 2 : Nat) : Int)) = ((bs.length : Int) + n) * 2 by omega]; exact hr)).mono ?_
    rintro e w' ⟨e2, f2, h1, h2, h3⟩
    refine ⟨e2, f2, h1, ?_, h3⟩
    rw [rphase_eq, ← h2]
    unfold Ph.says
    rw [show List.replicate (Int.toNat 0) (15 : Int) = [] from rfl, List.append_nil]
    rfl
  · subst hla
    subst hbs
    subst hrd
    obtain ⟨n, rfl⟩ : ∃ n : Nat, cl = (n : Int) := ⟨cl.toNat, by omega⟩
    rw [many0] at hr
    refine (r_phase0 h ba bc n (by omega) hr).mono ?_
    rintro e w' ⟨e2, f2, h1, h2, h3⟩
    exact ⟨e2, f2, h1, by rw [rphase_eq, ← h2]; rfl, h3⟩
theorem Ctx.upR {Q : Own} {w0 w : World} {b : Nat} {s : St} {N M : Int} {rows : List (Value × List Value)} (hC : Ctx (RefP b s N) Q w0 w rows) (h : N ≤ M) : Ctx (RefP b s M) Q w0 w rows := by
  obtain ⟨S, ⟨A, B, ⟨r, hA, h1, h2, h3⟩, hB, d2, e2⟩, h4, h5⟩ := hC.all
  exact ⟨refP_ok _ _ _, hC.okQ, hC.upd, S, ⟨A, B, ⟨r, hA, h1, h2.mono h, h3.mono h⟩, hB, d2, e2⟩, h4, h5⟩
set_option maxRecDepth 100000 in
set_option maxHeartbeats 4000000 in
theorem r_drive {Q : Own} {w0 w : World} {b : Nat} {s : St} {N : Int} {rows : List (Value × List Value)} (hQ : Q.Ok) (hC : Ctx (RefP b s N) Q w0 w rows) (hN : 0 ≤ N) (hsel : s.sel = false) (a : Option Addr) (n cap : Nat) (L : List (Ph × Value)) (hP : PhsV rows (.slice a n cap) L) (most : Int) (hmr : i64B most)
    (hall : L.all (fun x => x.1.may) = true) (hroom : N + phsMany (L.map Prod.fst) ≤ 1048575 ∨ (0 ≤ most ∧ N + most ≤ 1048575)) (d : Drv) (whole : Bool) (hd : Drv.phases ⟨s.select, [], 0, most⟩ (L.map Prod.fst) = (d, whole)) :
    Calls Tryz.prog 44 #[.pointer (some ⟨b, 0, none⟩), .slice a n cap, .int .i64 most] w fun e w' => ∃ oa oc, e = .returned (.tuple #[.slice oa d.out.length oc, .int .i64 d.clocks, .bool whole, .int .i64 0]) ∧ Ctx (RefP b (if whole then d.s.deselect else d.s) (N + d.clocks + 1)) Q w0 w' ((.slice oa d.out.length oc, ints d.out) :: rows) := by
  obtain ⟨rfl, hcap⟩ : n = L.length ∧ n ≤ cap := by
    obtain ⟨a', cap', e, hc, _⟩ := hP
    simp only [Value.slice.injEq] at e
    obtain ⟨rfl, rfl, rfl⟩ := e
    exact ⟨rfl, hc⟩
  have hll := phs_len hP
  have HALL := Lib.hid hall
  have hmap : (L.map Prod.fst).all Ph.may = true := by rw [map_all]; exact hall
  have HROOM : Hid (∀ (i : Nat) (e : Drv), (Drv.mk s.select [] 0 most).Kept e (phsMany ((L.take i).map Prod.fst)) → i ≤ L.length → (∀ hi : i < L.length, e.room N L[i].1.many) ∧ e.out.length ≤ 1000000 ∧ 0 ≤ e.clocks ∧ N + e.clocks ≤ 1048575 ∧ e.s.sel = true) := Lib.hid (by
    intro i e hk hi
    have hk1 := hk.most
    have hk2 := hk.sel
    have hk3 := hk.up
    have hk4 := hk.many
    have hk5 := hk.within
    have hk6 := hk.outs
    dsimp only at hk1 hk2 hk3 hk4 hk5 hk6
    simp only [List.length_nil] at hk6
    have hsplit : phsMany (L.map Prod.fst) = phsMany ((L.take i).map Prod.fst) + phsMany ((L.drop i).map Prod.fst) := by
      conv => lhs; rw [← List.take_append_drop i L]
      rw [List.map_append]
      unfold phsMany
      rw [List.foldl_append]
      generalize ((L.take i).map Prod.fst).foldl (fun k p => k + Ph.many p) 0 = z
      induction ((L.drop i).map Prod.fst) generalizing z with
      | nil => simp
      | cons p ps ih => rw [List.foldl_cons, List.foldl_cons, ih, ih (0 + p.many)]; omega
    have hdr : ((L.drop i).map Prod.fst).all Ph.may = true := by
      rw [map_all, List.all_eq_true]
      intro x hx
      exact List.all_eq_true.1 hall x (List.mem_of_mem_drop hx)
    have hge := (phsMany_bd _ hdr).1
    have hbd : N + e.clocks ≤ 1048575 := by
      rcases hroom with h | ⟨h0, h1⟩
      · omega
      · have := hk5 h0 h0; omega
    refine ⟨fun hlt => ?_, by omega, hk3, hbd, hk2.trans (select_sel s)⟩
    unfold Drv.room
    rcases hroom with h | ⟨h0, h1⟩
    · left
      rw [List.drop_eq_getElem_cons hlt, List.map_cons] at hsplit hdr hge
      rw [List.all_cons, Bool.and_eq_true] at hdr
      have hge2 := (phsMany_bd _ hdr.2).1
      have e2 : phsMany (L[i].1 :: (L.drop (i + 1)).map Prod.fst) = L[i].1.many + phsMany ((L.drop (i + 1)).map Prod.fst) := by
        unfold phsMany
        rw [List.foldl_cons]
        generalize (L.drop (i + 1)).map Prod.fst = ps
        have key : ∀ (ps : List Ph) (k : Int), ps.foldl (fun k p => k + p.many) k = k + ps.foldl (fun k p => k + p.many) 0 := by
          intro ps
          induction ps with
          | nil => intro k; simp
          | cons p ps ih => intro k; rw [List.foldl_cons, ih, List.foldl_cons, ih (0 + p.many)]; omega
        rw [key]; omega
      omega
    · right; rw [hk1]; omega)
  have HP := Lib.hid hP
  have HC := Lib.hid hC
  have HD := Lib.hid hd
  have hcl := ref_clocksP hC a L.length cap L hP
  rw [show clocksE L = 0 from by unfold clocksE; rw [if_pos hall]] at hcl
  have HCL := Lib.hid hcl
  clear hP hC hall hmap hroom hcl hd
  go_enter Tryz.func44, Tryz.ntmps44
  go_wp2_with (first | (go_at_call 43; refine HCL.out.mono ?_; rintro e w1 ⟨rfl, hC1⟩) | (go_at_call 18; refine (c_rselect hC1 hsel s.select rfl).mono ?_; rintro e w2 ⟨rfl, hC2⟩))
  have h0 := RCtx.make hQ hC2 hN hmr
  obtain ⟨d0, hd0⟩ : ∃ d0, (Drv.mk s.select [] 0 most) = d0 := ⟨_, rfl⟩
  rw [hd0] at HROOM HD h0
  have HQ := Lib.hid hQ
  have H0 := Lib.hid h0
  obtain ⟨g, hg⟩ : ∃ g, w2.heap.size = g := ⟨_, rfl⟩
  rw [hg] at H0 ⊢
  generalize w2.alloc (.cells #[.pointer (some ⟨b, 0, none⟩), .int .i64 0, .int .i64 most, .slice none 0 0, .bool false] 166) = W at *
  clear h0 hC2 hC1 hg hQ
  go_loopw [13] (fun iv wr => ∃ (i : Nat) (e : Drv) (f : Bool), i ≤ L.length ∧ iv = .int .i64 (i : Int) ∧ Hid (rphases (d0, false) ((L.take i).map Prod.fst) = (e, f)) ∧ RCtx g b e f N Q w0 wr rows) (fun iv _ => L.length - (intOf iv).toNat)
  case atStart => exact ⟨0, d0, false, by omega, rfl, Lib.hid rfl, H0.out⟩
  case round =>
    clear H0
    rename World => W2
    obtain ⟨i, e, f, hi, rfl, hrun, hD⟩ := hrel
    have hallt : ((L.take i).map Prod.fst).all Ph.may = true := by
      rw [map_all, List.all_eq_true]
      intro x hx
      exact List.all_eq_true.1 HALL.out x (List.mem_of_mem_take hx)
    have hkk := rphases_kept _ (d0, false) hallt
    rw [hrun.out] at hkk
    obtain ⟨hrm, hol, hck, hcn, hse⟩ := HROOM.out i e hkk hi
    by_cases hlt : i < L.length
    · obtain ⟨-, -, gp, op, rfl, -, k0, k1, k2, k3⟩ := phs_cells hD.ctx HP.out i hlt
      obtain ⟨ba, bc, hbv, hbm, -⟩ := phs_bytes HP.out i hlt
      have hm1 : L[i].1.may = true := List.all_eq_true.1 HALL.out _ (List.getElem_mem hlt)
      have hph := r_phase hD L[i].1 hm1 ba bc (fun w' e f h => hbm h.ctx) hol (hrm hlt)
      rw [hbv] at k1
      have HT : Hid ((L.take (i + 1)).map Prod.fst = (L.take i).map Prod.fst ++ [L[i].1]) := Lib.hid (by rw [take_el L i hlt, List.map_append]; rfl)
      obtain ⟨p, hp⟩ : ∃ p, L[i].1 = p := ⟨_, rfl⟩
      rw [hp] at hph k0 k1 k2 k3 HT
      have HPH := Lib.hid hph
      clear hph hbm hbv hm1 hp hD hol hck hcn hse hallt hkk hrm HROOM
      go_wp2_with (go_at_call 122; refine HPH.out.mono ?_; rintro e' w3 ⟨e2, f2, rfl, hq, hD3⟩)
      refine ⟨?rel, ?measure⟩
      case rel => exact ⟨i + 1, e2, f2, by omega, by go_num, Lib.hid (by rw [HT.out, rphases_snoc, hrun.out]; exact hq), hD3⟩
      case measure => simp [intOf]; omega
    · obtain rfl : i = L.length := by omega
      have h1 := hrun.out
      rw [List.take_length, rphases_eq, HD.out] at h1
      simp only [Prod.mk.injEq] at h1
      obtain ⟨rfl, rfl⟩ := h1
      have HD2 := Lib.hid hD
      have hse2 := hse
      obtain ⟨oa, oc, -, c1, -, c3, c4, -⟩ := hD.cells
      have hol2 : d.out.length ≤ 1048576 := by omega
      cases whole with
      | false =>
        have HFIN := Lib.hid ((hD.done hol2 c3).frame (Upd.refl none' _).drew)
        clear hD hol hck hcn hse hse2 hallt hkk hrm HROOM HD hrun
        go_upto_region 10 with fail
        go_region
        all_goals
          go_wp2
          (try simp only [Exit.inBlock, Exit.then])
          refine bodyPost_ret (results_tmp4 rfl _ _ _) rfl ?_
          exact ⟨oa, oc, rfl, HFIN.out.upR (by omega)⟩
      | true =>
        have hds := c_rdeselect hD.ctx hse (by omega) d.s.deselect rfl
        have HDS := Lib.hid hds
        have HOL := Lib.hid hol2
        clear hD hol hck hse hse2 hallt hkk hrm HROOM HD hrun hds hol2
        clear c1 c3
        go_upto_region 12 with (go_at_call 20; refine HDS.out.mono ?_; rintro e w3 ⟨rfl, hC3⟩)
        have hD3 : RCtx g b { d with s := d.s.deselect } false (N + 1) Q w0 w3 rows := ⟨by rw [show N + 1 + d.clocks = N + d.clocks + 1 by omega]; exact hC3, HQ.out, by omega, HD2.out.clocks, HD2.out.mostR, HD2.out.le⟩
        obtain ⟨oa, oc, -, c1, -, c3, c4', -⟩ := hD3.cells
        dsimp only at c1 c3
        have HFIN := Lib.hid ((hD3.done (show d.out.length ≤ 1048576 from HOL.out) c3).frame (Upd.refl none' _).drew)
        clear hD3 hC3 c4'
        go_region
        all_goals
          go_wp2
          (try simp only [Exit.inBlock, Exit.then])
          refine bodyPost_ret (results_tmp4 rfl _ _ _) rfl ?_
          exact ⟨oa, oc, rfl, HFIN.out.upR (by omega)⟩
end Go.Proofs.YteombggfmeilaaaGreat
