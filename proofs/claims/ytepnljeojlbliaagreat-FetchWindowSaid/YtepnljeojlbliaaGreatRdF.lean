/- A phase of bytes or of reads on 1 lane(s). · A phase of bytes or of reads on 4 lane(s). -/
import Derived.Test.YtepnljeojlbliaaGreatRdA
namespace Go.Proofs.YtepnljeojlbliaaGreat
open Go.RowKit
set_option maxRecDepth 100000 in
set_option maxHeartbeats 8000000 in
theorem r_phase1 {g b : Nat} {d : Drv} {c : Bool} {N0 : Int} {Q : Own} {w0 w : World} {rows : List (Value × List Value)} (h : RCtx g b d c N0 Q w0 w rows) (ba : Option Addr) (bc : Nat) (bs : List Int) (rd : Nat) (hb : ∀ x ∈ bs, 0 ≤ x ∧ x < 256) (hbl : bs.length ≤ 512) (hrd : rd ≤ 512) (hbm : ∀ (w' : World) (e : Drv) (f : Bool), RCtx g b e f N0 Q w0 w' rows → RS w' (.slice ba bs.length bc) (ints bs)) (hol : d.out.length ≤ 1000000) (hr : d.room N0 ((bs.length * 8 : Nat) + (rd * 8 : Nat))) :
    Calls Tryz.prog 122 #[.pointer (some ⟨g, 0, none⟩), .agg #[.int .i64 1, .slice ba bs.length bc, .int .i64 0, .int .i64 (rd : Int)]] w fun e w' => ∃ (e2 : Drv) (f2 : Bool), e = .returned (.tuple #[]) ∧ rgets (rrun (d, c) (bs.flatMap fun x => outsL x 1)) 1 rd = (e2, f2) ∧ RCtx g b e2 f2 N0 Q w0 w' rows := by
  have h1 := h.lit [.int .i64 1, .slice ba bs.length bc, .int .i64 0, .int .i64 (rd : Int)] 156 4 rfl (by decide)
  obtain ⟨k, hk⟩ : ∃ k, w.heap.size = k := ⟨_, rfl⟩
  obtain ⟨k0, k1, k2, k3⟩ := box4 (by have := h1.ctx.rs 0 rfl; rw [hk] at this; exact this)
  have H := Lib.hid h1
  have HR := Lib.hid hr
  have HBM := Lib.hid hbm
  have HB := Lib.hid hb
  clear h h1 hr hbm hb
  go_enter Tryz.func122, Tryz.ntmps122
  go_wp2_with fail
  clear k0 k1 k2 k3
  go_loopw [4] (fun iv wr => iv = .int .i64 0 ∧ RCtx g b d c N0 Q w0 wr ((.slice (some ⟨k, 0, none⟩) 4 4, [.int .i64 1, .slice ba bs.length bc, .int .i64 0, .int .i64 (rd : Int)]) :: rows)) (fun _ _ => 0)
  case atStart => exact ⟨rfl, by rw [← hk]; exact H.out⟩
  case round =>
    clear H
    rename World => W1
    obtain ⟨rfl, hC⟩ := hrel
    obtain ⟨k0, k1, k2, k3⟩ := box4 (hC.ctx.rs 0 rfl)
    have HC := Lib.hid hC
    clear hC
    go_wp2_with fail
    clear k0 k1 k2 k3
    go_loopw [5] (fun iv wr => ∃ (i : Nat) (e : Drv) (f : Bool), i ≤ bs.length ∧ iv = .int .i64 (i : Int) ∧ Hid (rrun (d, c) ((bs.take i).flatMap fun x => outsL x 1) = (e, f)) ∧ RCtx g b e f N0 Q w0 wr ((.slice (some ⟨k, 0, none⟩) 4 4, [.int .i64 1, .slice ba bs.length bc, .int .i64 0, .int .i64 (rd : Int)]) :: rows)) (fun iv _ => bs.length - (intOf iv).toNat)
    case atStart => exact ⟨0, d, c, by omega, rfl, Lib.hid (rrun_nil _), HC.out⟩
    case round =>
      clear HC
      rename World => W2
      obtain ⟨i, e, f, hi, rfl, hrun, hC⟩ := hrel
      have hbm2 := HBM.out _ _ _ hC.tl
      obtain ⟨k0, k1, k2, k3⟩ := box4 (hC.ctx.rs 0 rfl)
      have HC := Lib.hid hC
      by_cases hlt : i < bs.length
      · obtain ⟨bb, oo, rfl, hbl2, hcc⟩ := hbm2.cells (by omega)
        have hcell := hcc i hlt
        rw [ints_at _ _ hlt] at hcell
        obtain ⟨y, hy⟩ : ∃ y, bs.getD i 0 = y := ⟨_, rfl⟩
        rw [hy] at hcell
        have hmem : y ∈ bs := by rw [← hy, List.getD_eq_getElem?_getD, List.getElem?_eq_getElem hlt]; exact List.getElem_mem hlt
        have hyb := HB.out y hmem
        obtain ⟨A, hA⟩ : ∃ A, ((bs.take i).flatMap fun x => outsL x 1) = A := ⟨_, rfl⟩
        rw [hA] at hrun
        have HAL : Hid (A.length = i * 8) := Lib.hid (by
          rw [← hA, flat_len _ 1 8 (fun x _ => rfl), List.length_take, Nat.min_eq_left (by omega)])
        have HE1 : Hid (((bs.take (i + 1)).flatMap fun x => outsL x 1) = A ++ outsL y 1) := Lib.hid (by
          rw [show bs.take (i + 1) = bs.take i ++ [y] from by
            rw [List.take_add_one, ← hy]
            simp [List.getD_eq_getElem?_getD, List.getElem?_eq_getElem hlt], List.flatMap_append, hA]
          simp)
        have HOUT := Lib.hid (fun w => ref_out1 w y hyb)
        clear hC hbm2 hcc hy hmem hA k2 k3
        go_upto_region 8 with fail
        go_region_held3 (fun w' => w'.cell? ⟨k, 0, none⟩ = some (.int .i64 1) ∧ w'.cell? ⟨k, 1, none⟩ = some (.slice (some ⟨bb, oo, none⟩) bs.length bc) ∧ w'.cell? ⟨bb, oo + i, none⟩ = some (.int .i64 y)) (first | exact ⟨k0, k1, hcell⟩ | exact ⟨x0, x1, x2⟩) (first | (go_at_call 178; refine (HOUT.out _).mono ?_; rintro e' w2 ⟨v, rfl, hv, hvo, hvu⟩; obtain ⟨va, vc, rfl, -⟩ := hv.form; rw [show (ints (outBits y 1)).length = 8 from rfl] at hv hvo; have HC2 := Lib.hid ((HC.out.frame (Upd.refl none' W2).drew).row (r := (.slice va 8 vc, ints (outBits y 1))) hvu (hv.rs (show 8 ≤ 1048576 by decide)) (fun k hk => ⟨hvo k hk, hv.lt k hk⟩)); obtain ⟨x0, x1, -, -⟩ := box4 (HC2.out.ctx.rs 1 rfl); have x2 := (hvu.cell (p := ⟨bb, oo + i, none⟩) hbl2 (fun f => f)).trans hcell))
        clear x0 x1 x2
        go_wp2_with fail
        clear hv hvo hvu k0 k1 hcell HC HOUT
        go_loopw [8] (fun jv wr => ∃ (j : Nat) (e : Drv) (f : Bool), j ≤ 8 ∧ jv = .int .i64 (j : Int) ∧ Hid (rrun (d, c) (A ++ (outsL y 1).take j) = (e, f)) ∧ RCtx g b e f N0 Q w0 wr ((.slice va 8 vc, ints (outBits y 1)) :: ((.slice (some ⟨k, 0, none⟩) 4 4, [.int .i64 1, .slice (some ⟨bb, oo, none⟩) bs.length bc, .int .i64 0, .int .i64 (rd : Int)]) :: rows))) (fun jv _ => 8 - (intOf jv).toNat)
        case atStart => exact ⟨0, e, f, by omega, rfl, Lib.hid (by rw [List.take_zero, List.append_nil]; exact hrun.out), HC2.out⟩
        case round =>
          clear HC2 hrun e f
          rename World => W3
          obtain ⟨j, e, f, hj, rfl, hrun, hC⟩ := hrel
          obtain ⟨oa, oc, -, -, -, -, c4, -⟩ := hC.cells
          obtain ⟨k0, k1, k2, k3⟩ := box4 (hC.ctx.rs 1 rfl)
          have hrs := hC.ctx.rs 0 rfl
          have HC := Lib.hid hC
          clear hC k1 k2 k3
          by_cases hjl : j < 8
          · cases hf : f with
            | false =>
              rw [hf] at c4
              obtain ⟨vb, vo, rfl, -, hvc⟩ := hrs.cells (by decide)
              have hz := hvc j hjl
              rw [ints_at _ _ (show j < (outBits y 1).length from hjl)] at hz
              obtain ⟨z, hzz⟩ : ∃ z, (outBits y 1).getD j 0 = z := ⟨_, rfl⟩
              rw [hzz] at hz
              have HZ : Hid ((z = 0 ∨ z = 1) ∧ (outsL y 1).take (j + 1) = (outsL y 1).take j ++ [14 + z]) := Lib.hid (by
                subst hzz
                rcases (show j = 0 ∨ j = 1 ∨ j = 2 ∨ j = 3 ∨ j = 4 ∨ j = 5 ∨ j = 6 ∨ j = 7 by omega) with rfl | rfl | rfl | rfl | rfl | rfl | rfl | rfl
                all_goals exact ⟨by show _ % 2 = 0 ∨ _ % 2 = 1; omega, rfl⟩)
              have hzb := HZ.out.1
              have hor := or14r z hzb
              have HST := Lib.hid (r_next _ hrun.out HC.out (14 + z) (by omega) HR.out (by
                rw [List.length_append, HAL.out, List.length_take, show (outsL y 1).length = 8 from rfl, Nat.min_eq_left hj]
                omega))
              clear hvc hzz hf hrs
              go_wp2_with (go_at_call 177; refine HST.out.mono ?_; rintro e' w2 ⟨y', e2, f2, rfl, -, -, -, hq, -, hC2⟩)
              refine ⟨?rel, ?measure⟩
              case rel => exact ⟨j + 1, e2, f2, by omega, by go_num, Lib.hid (by rw [HZ.out.2, ← List.append_assoc]; exact hq), hC2⟩
              case measure => simp [intOf]; omega
            | true =>
              rw [hf] at c4
              have HF : Hid (rrun (d, c) ((bs.take (i + 1)).flatMap fun x => outsL x 1) = (e, true)) := Lib.hid (by
                have h1 := hrun.out
                rw [hf] at h1
                have := rrun_full h1 ((outsL y 1).drop j)
                rw [List.append_assoc, List.take_append_drop] at this
                rw [HE1.out]
                exact this)
              rw [hf] at HC
              clear hf hrs hrun
              go_wp2_with fail
              refine ⟨?rel, ?measure⟩
              case rel => exact ⟨i + 1, e, true, by omega, by go_num, HF, HC.out.tl⟩
              case measure => simp [intOf]; omega
          · obtain rfl : j = 8 := by omega
            have HF : Hid (rrun (d, c) ((bs.take (i + 1)).flatMap fun x => outsL x 1) = (e, f)) := Lib.hid (by
              rw [HE1.out]
              exact hrun.out)
            clear hrs hrun
            go_wp2_with fail
            refine ⟨?rel, ?measure⟩
            case rel => exact ⟨i + 1, e, f, by omega, by go_num, HF, HC.out.tl⟩
            case measure => simp [intOf]; omega
      · obtain rfl : i = bs.length := by omega
        rw [List.take_length] at hrun
        have HP := hrun
        clear hC hbm2 hrun
        have HRM : Hid (∀ (q : Nat) (e' : Drv) (f' : Bool), rgets (e, f) 1 q = (e', f') → q ≤ rd → (q < rd → e'.room N0 8) ∧ e'.out.length ≤ 1010000) := Lib.hid (by
          intro q e' f' hq hqd
          have m1 := rrun_kept (d, c) (bs.flatMap fun x => outsL x 1)
          rw [HP.out, flat_len _ 1 8 (fun x _ => rfl)] at m1
          have m2 := rgets_kept (e, f) 1 (by decide) q
          rw [hq, show (8 : Int) / 1 = 8 from rfl] at m2
          have m := m1.trans m2
          obtain ⟨a1, a2, a3, a4, a5, a6⟩ := m
          dsimp only at a1 a3 a4 a6
          exact ⟨fun hlt => room_at HR.out _ 8 a1 a4 (by omega), by omega⟩)
        go_wp2_with fail
        clear k0 k1 k2 k3
        go_loopw [9] (fun iv wr => ∃ (q : Nat) (e' : Drv) (f' : Bool), q ≤ rd ∧ iv = .int .i64 (q : Int) ∧ Hid (rgets (e, f) 1 q = (e', f')) ∧ RCtx g b e' f' N0 Q w0 wr ((.slice (some ⟨k, 0, none⟩) 4 4, [.int .i64 1, .slice ba bs.length bc, .int .i64 0, .int .i64 (rd : Int)]) :: rows)) (fun iv _ => rd - (intOf iv).toNat)
        case atStart => exact ⟨0, e, f, by omega, rfl, Lib.hid rfl, HC.out⟩
        case round =>
          clear HC
          rename World => W5
          obtain ⟨q, e', f', hq, rfl, hg, hC⟩ := hrel
          obtain ⟨k0, k1, k2, k3⟩ := box4 (hC.ctx.rs 0 rfl)
          obtain ⟨oa, oc, -, -, -, -, c4, -⟩ := hC.cells
          by_cases hql : q < rd
          · cases hf : f' with
            | false =>
              rw [hf] at c4 hg hC
              obtain ⟨hrm, hoe⟩ := HRM.out q e' false hg.out hq
              have HRQ := Lib.hid (hrm hql)
              have HC := Lib.hid hC
              clear hf hC hrm k1 k2
              go_wp2_with fail
              clear k0 k3 c4
              go_loopw [10, 11] (fun xv jv wr => ∃ (j : Nat) (x : Int) (e2 : Drv) (f2 : Bool), j ≤ 8 ∧ jv = .int .i64 (j : Int) ∧ xv = .int .i64 x ∧ Hid (rrun (e', false) (List.replicate j 15) = (e2, f2)) ∧ Hid (SoFar e' 1 j f2 x) ∧ RCtx g b e2 f2 N0 Q w0 wr ((.slice (some ⟨k, 0, none⟩) 4 4, [.int .i64 1, .slice ba bs.length bc, .int .i64 0, .int .i64 (rd : Int)]) :: rows)) (fun _ jv _ => 8 - (intOf jv).toNat)
              case atStart => exact ⟨0, 0, e', false, by omega, rfl, rfl, Lib.hid (rrun_nil _), Lib.hid ⟨⟨by decide, by decide⟩, fun _ => rfl⟩, HC.out⟩
              case round =>
                clear HC
                rename World => W6
                obtain ⟨j, x, e2, f2, hj, rfl, rfl, hrj, hso, hC⟩ := hrel
                obtain ⟨k0, k1, k2, k3⟩ := box4 (hC.ctx.rs 0 rfl)
                obtain ⟨oa, oc, -, -, -, c3, c4, hfr, hRo, -, hgs, hne⟩ := hC.cells
                have HC := Lib.hid hC
                have hxb := soFar_bd hso.out (by omega)
                clear hC k1 k2 k3
                by_cases hjl : j < 8
                · have HST := Lib.hid (r_next _ hrj.out HC.out 15 (by decide) HRQ.out (by rw [List.length_replicate]; omega))
                  clear c3 c4 hfr hRo hgs hne
                  go_wp2_with (go_at_call 177; refine HST.out.mono ?_; rintro e9 w2 ⟨y', e3, f3, rfl, hv, -, hyb, hq2, hq3, hC2⟩; obtain ⟨k0', -, -, -⟩ := box4 (hC2.ctx.rs 0 rfl))
                  refine ⟨?rel, ?measure⟩
                  case rel => exact ⟨j + 1, x * 2 + y' / 2 % 2, e3, f3, by omega, by go_num, by rw [or2 x (y' / 2) (by omega)], Lib.hid (by rw [List.replicate_succ']; exact hq2), Lib.hid (soFar1 hso.out hrj.out hq3 hyb hv), hC2⟩
                  case measure => simp [intOf]; omega
                · obtain rfl : j = 8 := by omega
                  cases hf2 : f2 with
                  | false =>
                    rw [hf2] at c4 hrj hso HC
                    have HG : Hid (rgets (e, f) 1 (q + 1) = ({ e2 with out := e2.out ++ [x] }, false)) := Lib.hid (by
                      show rget (rgets (e, f) 1 q) 1 = _
                      rw [hg.out]
                      exact rget_ok rfl hrj.out hso.out)
                    have hoe2 : e2.out = e'.out := by
                      have h1 := (rrun_ok hrj.out).2
                      rw [← h1]
                      exact (run_keep _ e').1
                    have HRo := Lib.hid hRo
                    have HNE : Hid (¬ (Value.slice oa e2.out.length oc).ownBlock = some g) := Lib.hid (fun hk => (hne g hk).1 rfl)
                    have C3 := Lib.hid c3
                    have f3 := hfr 3
                    have hol2 : (ints e2.out).length = e2.out.length := ints_len _
                    have hoe3 : e2.out.length ≤ 1010000 := by rw [hoe2]; exact hoe
                    have hng : W6.heap.size ≠ g := by omega
                    clear hf2 hrj hso hg hRo hne hoe2 hfr hoe
                    go_wp2_with (at_builtin; go_must (refine wpList_app1 rfl _ _ 33 rfl 3 (.int .i64 0) 8 Tryz.underlying33 info_int rfl (.slice oa e2.out.length oc) (ints e2.out) e2.out.length hol2 rfl W6 (.int .i64 x) ⟨rfl, rfl, rfl⟩ HRo.out rfl rfl (by omega) (by omega) ?_); intro gn cap w3 hR3 hU3 hg3 hgs3; have hst := HC.out.store (e2.out ++ [x]) C3.out (by rw [ints_app]; exact hR3) hU3 (fun k hk => by simp only [Value.ownBlock, Option.some.injEq] at hk; rw [← hk]; exact hg3); have HST := Lib.hid hst; clear hst; have c3' := (hU3.cell (p := ⟨g, 3, none⟩) hgs HNE.out).trans C3.out; have f3' := (hU3.frozen (p := ⟨g, 3, none⟩) hgs HNE.out).trans f3)
                    refine ⟨?rel, ?measure⟩
                    case rel => exact ⟨q + 1, _, false, by omega, by go_num, HG, HST.out⟩
                    case measure => simp [intOf]; omega
                  | true =>
                    rw [hf2] at c4 hrj HC
                    have HG : Hid (rgets (e, f) 1 (q + 1) = (e2, true)) := Lib.hid (by
                      show rget (rgets (e, f) 1 q) 1 = _
                      rw [hg.out]
                      exact rget_bad rfl hrj.out)
                    clear hf2 hrj hso hg hRo hne hfr hoe c3
                    go_wp2_with fail
                    refine ⟨?rel, ?measure⟩
                    case rel => exact ⟨q + 1, e2, true, by omega, by go_num, HG, HC.out⟩
                    case measure => simp [intOf]; omega
            | true =>
              rw [hf] at c4 hg hC
              have HF : Hid (rgets (rrun (d, c) (bs.flatMap fun x => outsL x 1)) 1 rd = (e', true)) := Lib.hid (by
                rw [HP.out]
                exact rgets_full hg.out rd hq)
              have HC := Lib.hid hC.tl
              clear hf hC k0 k1 k2
              go_wp2
              go_end0
              exact ⟨e', true, rfl, HF.out, HC.out⟩
          · obtain rfl : rd = q := by omega
            have HF : Hid (rgets (rrun (d, c) (bs.flatMap fun x => outsL x 1)) 1 rd = (e', f')) := Lib.hid (by
              rw [HP.out]
              exact hg.out)
            have HC := Lib.hid hC.tl
            clear hC k0 k1 k2 c4
            go_wp2
            go_end0
            exact ⟨e', f', rfl, HF.out, HC.out⟩
end Go.Proofs.YtepnljeojlbliaaGreat
namespace Go.Proofs.YtepnljeojlbliaaGreat
open Go.RowKit
set_option maxRecDepth 100000 in
set_option maxHeartbeats 8000000 in
theorem r_phase4 {g b : Nat} {d : Drv} {c : Bool} {N0 : Int} {Q : Own} {w0 w : World} {rows : List (Value × List Value)} (h : RCtx g b d c N0 Q w0 w rows) (ba : Option Addr) (bc : Nat) (bs : List Int) (rd : Nat) (hb : ∀ x ∈ bs, 0 ≤ x ∧ x < 256) (hbl : bs.length ≤ 512) (hrd : rd ≤ 512) (hbm : ∀ (w' : World) (e : Drv) (f : Bool), RCtx g b e f N0 Q w0 w' rows → RS w' (.slice ba bs.length bc) (ints bs)) (hol : d.out.length ≤ 1000000) (hr : d.room N0 ((bs.length * 2 : Nat) + (rd * 2 : Nat))) :
    Calls Tryz.prog 122 #[.pointer (some ⟨g, 0, none⟩), .agg #[.int .i64 4, .slice ba bs.length bc, .int .i64 0, .int .i64 (rd : Int)]] w fun e w' => ∃ (e2 : Drv) (f2 : Bool), e = .returned (.tuple #[]) ∧ rgets (rrun (d, c) (bs.flatMap fun x => outsL x 4)) 4 rd = (e2, f2) ∧ RCtx g b e2 f2 N0 Q w0 w' rows := by
  have h1 := h.lit [.int .i64 4, .slice ba bs.length bc, .int .i64 0, .int .i64 (rd : Int)] 156 4 rfl (by decide)
  obtain ⟨k, hk⟩ : ∃ k, w.heap.size = k := ⟨_, rfl⟩
  obtain ⟨k0, k1, k2, k3⟩ := box4 (by have := h1.ctx.rs 0 rfl; rw [hk] at this; exact this)
  have H := Lib.hid h1
  have HR := Lib.hid hr
  have HBM := Lib.hid hbm
  have HB := Lib.hid hb
  clear h h1 hr hbm hb
  go_enter Tryz.func122, Tryz.ntmps122
  go_wp2_with fail
  clear k0 k1 k2 k3
  go_loopw [4] (fun iv wr => iv = .int .i64 0 ∧ RCtx g b d c N0 Q w0 wr ((.slice (some ⟨k, 0, none⟩) 4 4, [.int .i64 4, .slice ba bs.length bc, .int .i64 0, .int .i64 (rd : Int)]) :: rows)) (fun _ _ => 0)
  case atStart => exact ⟨rfl, by rw [← hk]; exact H.out⟩
  case round =>
    clear H
    rename World => W1
    obtain ⟨rfl, hC⟩ := hrel
    obtain ⟨k0, k1, k2, k3⟩ := box4 (hC.ctx.rs 0 rfl)
    have HC := Lib.hid hC
    clear hC
    go_wp2_with fail
    clear k0 k1 k2 k3
    go_loopw [5] (fun iv wr => ∃ (i : Nat) (e : Drv) (f : Bool), i ≤ bs.length ∧ iv = .int .i64 (i : Int) ∧ Hid (rrun (d, c) ((bs.take i).flatMap fun x => outsL x 4) = (e, f)) ∧ RCtx g b e f N0 Q w0 wr ((.slice (some ⟨k, 0, none⟩) 4 4, [.int .i64 4, .slice ba bs.length bc, .int .i64 0, .int .i64 (rd : Int)]) :: rows)) (fun iv _ => bs.length - (intOf iv).toNat)
    case atStart => exact ⟨0, d, c, by omega, rfl, Lib.hid (rrun_nil _), HC.out⟩
    case round =>
      clear HC
      rename World => W2
      obtain ⟨i, e, f, hi, rfl, hrun, hC⟩ := hrel
      have hbm2 := HBM.out _ _ _ hC.tl
      obtain ⟨k0, k1, k2, k3⟩ := box4 (hC.ctx.rs 0 rfl)
      have HC := Lib.hid hC
      by_cases hlt : i < bs.length
      · obtain ⟨bb, oo, rfl, hbl2, hcc⟩ := hbm2.cells (by omega)
        have hcell := hcc i hlt
        rw [ints_at _ _ hlt] at hcell
        obtain ⟨y, hy⟩ : ∃ y, bs.getD i 0 = y := ⟨_, rfl⟩
        rw [hy] at hcell
        have hmem : y ∈ bs := by rw [← hy, List.getD_eq_getElem?_getD, List.getElem?_eq_getElem hlt]; exact List.getElem_mem hlt
        have hyb := HB.out y hmem
        obtain ⟨A, hA⟩ : ∃ A, ((bs.take i).flatMap fun x => outsL x 4) = A := ⟨_, rfl⟩
        rw [hA] at hrun
        have HAL : Hid (A.length = i * 2) := Lib.hid (by
          rw [← hA, flat_len _ 4 2 (fun x _ => rfl), List.length_take, Nat.min_eq_left (by omega)])
        have HE1 : Hid (((bs.take (i + 1)).flatMap fun x => outsL x 4) = A ++ outsL y 4) := Lib.hid (by
          rw [show bs.take (i + 1) = bs.take i ++ [y] from by
            rw [List.take_add_one, ← hy]
            simp [List.getD_eq_getElem?_getD, List.getElem?_eq_getElem hlt], List.flatMap_append, hA]
          simp)
        have HOUT := Lib.hid (fun w => ref_out4 w y hyb)
        clear hC hbm2 hcc hy hmem hA k2 k3
        go_upto_region 8 with fail
        go_region_held3 (fun w' => w'.cell? ⟨k, 0, none⟩ = some (.int .i64 4) ∧ w'.cell? ⟨k, 1, none⟩ = some (.slice (some ⟨bb, oo, none⟩) bs.length bc) ∧ w'.cell? ⟨bb, oo + i, none⟩ = some (.int .i64 y)) (first | exact ⟨k0, k1, hcell⟩ | exact ⟨x0, x1, x2⟩) (first | (go_at_call 178; refine (HOUT.out _).mono ?_; rintro e' w2 ⟨v, rfl, hv, hvo, hvu⟩; obtain ⟨va, vc, rfl, -⟩ := hv.form; rw [show (ints (outBits y 4)).length = 2 from rfl] at hv hvo; have HC2 := Lib.hid ((HC.out.frame (Upd.refl none' W2).drew).row (r := (.slice va 2 vc, ints (outBits y 4))) hvu (hv.rs (show 2 ≤ 1048576 by decide)) (fun k hk => ⟨hvo k hk, hv.lt k hk⟩)); obtain ⟨x0, x1, -, -⟩ := box4 (HC2.out.ctx.rs 1 rfl); have x2 := (hvu.cell (p := ⟨bb, oo + i, none⟩) hbl2 (fun f => f)).trans hcell))
        clear x0 x1 x2
        go_wp2_with fail
        clear hv hvo hvu k0 k1 hcell HC HOUT
        go_loopw [8] (fun jv wr => ∃ (j : Nat) (e : Drv) (f : Bool), j ≤ 2 ∧ jv = .int .i64 (j : Int) ∧ Hid (rrun (d, c) (A ++ (outsL y 4).take j) = (e, f)) ∧ RCtx g b e f N0 Q w0 wr ((.slice va 2 vc, ints (outBits y 4)) :: ((.slice (some ⟨k, 0, none⟩) 4 4, [.int .i64 4, .slice (some ⟨bb, oo, none⟩) bs.length bc, .int .i64 0, .int .i64 (rd : Int)]) :: rows))) (fun jv _ => 2 - (intOf jv).toNat)
        case atStart => exact ⟨0, e, f, by omega, rfl, Lib.hid (by rw [List.take_zero, List.append_nil]; exact hrun.out), HC2.out⟩
        case round =>
          clear HC2 hrun e f
          rename World => W3
          obtain ⟨j, e, f, hj, rfl, hrun, hC⟩ := hrel
          obtain ⟨oa, oc, -, -, -, -, c4, -⟩ := hC.cells
          obtain ⟨k0, k1, k2, k3⟩ := box4 (hC.ctx.rs 1 rfl)
          have hrs := hC.ctx.rs 0 rfl
          have HC := Lib.hid hC
          clear hC k1 k2 k3
          by_cases hjl : j < 2
          · cases hf : f with
            | false =>
              rw [hf] at c4
              obtain ⟨vb, vo, rfl, -, hvc⟩ := hrs.cells (by decide)
              have hz := hvc j hjl
              rw [ints_at _ _ (show j < (outBits y 4).length from hjl)] at hz
              obtain ⟨z, hzz⟩ : ∃ z, (outBits y 4).getD j 0 = z := ⟨_, rfl⟩
              rw [hzz] at hz
              have HZ : Hid ((0 ≤ z ∧ z ≤ 15) ∧ (outsL y 4).take (j + 1) = (outsL y 4).take j ++ [z]) := Lib.hid (by
                subst hzz
                rcases (show j = 0 ∨ j = 1 by omega) with rfl | rfl
                all_goals exact ⟨by show 0 ≤ _ % 16 ∧ _ % 16 ≤ 15; omega, rfl⟩)
              have hzb := HZ.out.1

              have HST := Lib.hid (r_next _ hrun.out HC.out (z) (by omega) HR.out (by
                rw [List.length_append, HAL.out, List.length_take, show (outsL y 4).length = 2 from rfl, Nat.min_eq_left hj]
                omega))
              clear hvc hzz hf hrs
              go_wp2_with (go_at_call 177; refine HST.out.mono ?_; rintro e' w2 ⟨y', e2, f2, rfl, -, -, -, hq, -, hC2⟩)
              refine ⟨?rel, ?measure⟩
              case rel => exact ⟨j + 1, e2, f2, by omega, by go_num, Lib.hid (by rw [HZ.out.2, ← List.append_assoc]; exact hq), hC2⟩
              case measure => simp [intOf]; omega
            | true =>
              rw [hf] at c4
              have HF : Hid (rrun (d, c) ((bs.take (i + 1)).flatMap fun x => outsL x 4) = (e, true)) := Lib.hid (by
                have h1 := hrun.out
                rw [hf] at h1
                have := rrun_full h1 ((outsL y 4).drop j)
                rw [List.append_assoc, List.take_append_drop] at this
                rw [HE1.out]
                exact this)
              rw [hf] at HC
              clear hf hrs hrun
              go_wp2_with fail
              refine ⟨?rel, ?measure⟩
              case rel => exact ⟨i + 1, e, true, by omega, by go_num, HF, HC.out.tl⟩
              case measure => simp [intOf]; omega
          · obtain rfl : j = 2 := by omega
            have HF : Hid (rrun (d, c) ((bs.take (i + 1)).flatMap fun x => outsL x 4) = (e, f)) := Lib.hid (by
              rw [HE1.out]
              exact hrun.out)
            clear hrs hrun
            go_wp2_with fail
            refine ⟨?rel, ?measure⟩
            case rel => exact ⟨i + 1, e, f, by omega, by go_num, HF, HC.out.tl⟩
            case measure => simp [intOf]; omega
      · obtain rfl : i = bs.length := by omega
        rw [List.take_length] at hrun
        have HP := hrun
        clear hC hbm2 hrun
        have HRM : Hid (∀ (q : Nat) (e' : Drv) (f' : Bool), rgets (e, f) 4 q = (e', f') → q ≤ rd → (q < rd → e'.room N0 2) ∧ e'.out.length ≤ 1010000) := Lib.hid (by
          intro q e' f' hq hqd
          have m1 := rrun_kept (d, c) (bs.flatMap fun x => outsL x 4)
          rw [HP.out, flat_len _ 4 2 (fun x _ => rfl)] at m1
          have m2 := rgets_kept (e, f) 4 (by decide) q
          rw [hq, show (8 : Int) / 4 = 2 from rfl] at m2
          have m := m1.trans m2
          obtain ⟨a1, a2, a3, a4, a5, a6⟩ := m
          dsimp only at a1 a3 a4 a6
          exact ⟨fun hlt => room_at HR.out _ 2 a1 a4 (by omega), by omega⟩)
        go_wp2_with fail
        clear k0 k1 k2 k3
        go_loopw [9] (fun iv wr => ∃ (q : Nat) (e' : Drv) (f' : Bool), q ≤ rd ∧ iv = .int .i64 (q : Int) ∧ Hid (rgets (e, f) 4 q = (e', f')) ∧ RCtx g b e' f' N0 Q w0 wr ((.slice (some ⟨k, 0, none⟩) 4 4, [.int .i64 4, .slice ba bs.length bc, .int .i64 0, .int .i64 (rd : Int)]) :: rows)) (fun iv _ => rd - (intOf iv).toNat)
        case atStart => exact ⟨0, e, f, by omega, rfl, Lib.hid rfl, HC.out⟩
        case round =>
          clear HC
          rename World => W5
          obtain ⟨q, e', f', hq, rfl, hg, hC⟩ := hrel
          obtain ⟨k0, k1, k2, k3⟩ := box4 (hC.ctx.rs 0 rfl)
          obtain ⟨oa, oc, -, -, -, -, c4, -⟩ := hC.cells
          by_cases hql : q < rd
          · cases hf : f' with
            | false =>
              rw [hf] at c4 hg hC
              obtain ⟨hrm, hoe⟩ := HRM.out q e' false hg.out hq
              have HRQ := Lib.hid (hrm hql)
              have HC := Lib.hid hC
              clear hf hC hrm k1 k2
              go_wp2_with fail
              clear k0 k3 c4
              go_loopw [10, 11] (fun xv jv wr => ∃ (j : Nat) (x : Int) (e2 : Drv) (f2 : Bool), j ≤ 2 ∧ jv = .int .i64 (j : Int) ∧ xv = .int .i64 x ∧ Hid (rrun (e', false) (List.replicate j 15) = (e2, f2)) ∧ Hid (SoFar e' 4 j f2 x) ∧ RCtx g b e2 f2 N0 Q w0 wr ((.slice (some ⟨k, 0, none⟩) 4 4, [.int .i64 4, .slice ba bs.length bc, .int .i64 0, .int .i64 (rd : Int)]) :: rows)) (fun _ jv _ => 2 - (intOf jv).toNat)
              case atStart => exact ⟨0, 0, e', false, by omega, rfl, rfl, Lib.hid (rrun_nil _), Lib.hid ⟨⟨by decide, by decide⟩, fun _ => rfl⟩, HC.out⟩
              case round =>
                clear HC
                rename World => W6
                obtain ⟨j, x, e2, f2, hj, rfl, rfl, hrj, hso, hC⟩ := hrel
                obtain ⟨k0, k1, k2, k3⟩ := box4 (hC.ctx.rs 0 rfl)
                obtain ⟨oa, oc, -, -, -, c3, c4, hfr, hRo, -, hgs, hne⟩ := hC.cells
                have HC := Lib.hid hC
                have hxb := soFar_bd hso.out (by omega)
                clear hC k1 k2 k3
                by_cases hjl : j < 2
                · have HST := Lib.hid (r_next _ hrj.out HC.out 15 (by decide) HRQ.out (by rw [List.length_replicate]; omega))
                  clear c3 c4 hfr hRo hgs hne
                  go_wp2_with (go_at_call 177; refine HST.out.mono ?_; rintro e9 w2 ⟨y', e3, f3, rfl, hv, -, hyb, hq2, hq3, hC2⟩; obtain ⟨k0', -, -, -⟩ := box4 (hC2.ctx.rs 0 rfl))
                  refine ⟨?rel, ?measure⟩
                  case rel => exact ⟨j + 1, x * 16 + y', e3, f3, by omega, by go_num, by rw [i64_or4 (x * 16) y' (by omega) (by omega) (by omega) (by omega) (by omega)], Lib.hid (by rw [List.replicate_succ']; exact hq2), Lib.hid (soFar4 hso.out hrj.out hq3 hyb hv), hC2⟩
                  case measure => simp [intOf]; omega
                · obtain rfl : j = 2 := by omega
                  cases hf2 : f2 with
                  | false =>
                    rw [hf2] at c4 hrj hso HC
                    have HG : Hid (rgets (e, f) 4 (q + 1) = ({ e2 with out := e2.out ++ [x] }, false)) := Lib.hid (by
                      show rget (rgets (e, f) 4 q) 4 = _
                      rw [hg.out]
                      exact rget_ok rfl hrj.out hso.out)
                    have hoe2 : e2.out = e'.out := by
                      have h1 := (rrun_ok hrj.out).2
                      rw [← h1]
                      exact (run_keep _ e').1
                    have HRo := Lib.hid hRo
                    have HNE : Hid (¬ (Value.slice oa e2.out.length oc).ownBlock = some g) := Lib.hid (fun hk => (hne g hk).1 rfl)
                    have C3 := Lib.hid c3
                    have f3 := hfr 3
                    have hol2 : (ints e2.out).length = e2.out.length := ints_len _
                    have hoe3 : e2.out.length ≤ 1010000 := by rw [hoe2]; exact hoe
                    have hng : W6.heap.size ≠ g := by omega
                    clear hf2 hrj hso hg hRo hne hoe2 hfr hoe
                    go_wp2_with (at_builtin; go_must (refine wpList_app1 rfl _ _ 33 rfl 3 (.int .i64 0) 8 Tryz.underlying33 info_int rfl (.slice oa e2.out.length oc) (ints e2.out) e2.out.length hol2 rfl W6 (.int .i64 x) ⟨rfl, rfl, rfl⟩ HRo.out rfl rfl (by omega) (by omega) ?_); intro gn cap w3 hR3 hU3 hg3 hgs3; have hst := HC.out.store (e2.out ++ [x]) C3.out (by rw [ints_app]; exact hR3) hU3 (fun k hk => by simp only [Value.ownBlock, Option.some.injEq] at hk; rw [← hk]; exact hg3); have HST := Lib.hid hst; clear hst; have c3' := (hU3.cell (p := ⟨g, 3, none⟩) hgs HNE.out).trans C3.out; have f3' := (hU3.frozen (p := ⟨g, 3, none⟩) hgs HNE.out).trans f3)
                    refine ⟨?rel, ?measure⟩
                    case rel => exact ⟨q + 1, _, false, by omega, by go_num, HG, HST.out⟩
                    case measure => simp [intOf]; omega
                  | true =>
                    rw [hf2] at c4 hrj HC
                    have HG : Hid (rgets (e, f) 4 (q + 1) = (e2, true)) := Lib.hid (by
                      show rget (rgets (e, f) 4 q) 4 = _
                      rw [hg.out]
                      exact rget_bad rfl hrj.out)
                    clear hf2 hrj hso hg hRo hne hfr hoe c3
                    go_wp2_with fail
                    refine ⟨?rel, ?measure⟩
                    case rel => exact ⟨q + 1, e2, true, by omega, by go_num, HG, HC.out⟩
                    case measure => simp [intOf]; omega
            | true =>
              rw [hf] at c4 hg hC
              have HF : Hid (rgets (rrun (d, c) (bs.flatMap fun x => outsL x 4)) 4 rd = (e', true)) := Lib.hid (by
                rw [HP.out]
                exact rgets_full hg.out rd hq)
              have HC := Lib.hid hC.tl
              clear hf hC k0 k1 k2
              go_wp2
              go_end0
              exact ⟨e', true, rfl, HF.out, HC.out⟩
          · obtain rfl : rd = q := by omega
            have HF : Hid (rgets (rrun (d, c) (bs.flatMap fun x => outsL x 4)) 4 rd = (e', f')) := Lib.hid (by
              rw [HP.out]
              exact hg.out)
            have HC := Lib.hid hC.tl
            clear hC k0 k1 k2 c4
            go_wp2
            go_end0
            exact ⟨e', f', rfl, HF.out, HC.out⟩
end Go.Proofs.YtepnljeojlbliaaGreat
