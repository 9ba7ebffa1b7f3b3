/- (*drive).phase. -/
import Derived.Test.YtepnljeojlbliaaGreatWireG
namespace Go.Proofs.YtepnljeojlbliaaGreat
open Go.RowKit
theorem run_fail {d : Drv} {xs : List Int} (h : (d.run xs).2.2 = false) (ys : List Int) : d.run (xs ++ ys) = d.run xs := by rw [run_app, h]; simp
theorem room_at {d d' : Drv} {N0 n : Int} (h : d.room N0 n) (k m : Int) (hm : d'.most = d.most) (hc : d'.clocks ≤ d.clocks + k) (hn : k + m ≤ n) : d'.room N0 m := by
  unfold Drv.room at h ⊢
  rw [hm]
  rcases h with h | h
  · exact .inl (by omega)
  · exact .inr h
theorem flat_len (bs : List Int) (la : Int) (k8 : Nat) (h : ∀ x ∈ bs, (outsL x la).length = k8) : (bs.flatMap fun x => outsL x la).length = bs.length * k8 := by
  induction bs with
  | nil => simp
  | cons b bs ih =>
    rw [List.flatMap_cons, List.length_append, h b List.mem_cons_self, ih (fun x hx => h x (List.mem_cons_of_mem _ hx)), List.length_cons, Nat.succ_mul]
    omega
theorem gets_keep (l : Int) (n : Nat) : ∀ d : Drv, (d.gets l n).1.most = d.most ∧ d.clocks ≤ (d.gets l n).1.clocks ∧ (d.gets l n).1.clocks ≤ d.clocks + n * (8 / l).toNat ∧ (d.gets l n).1.out.length ≤ d.out.length + n := by
  induction n with
  | zero => intro d; simp [Drv.gets]
  | succ n ih =>
    intro d
    obtain ⟨h1, h2, h3, h3b, h4⟩ := run_keep (List.replicate (8 / l).toNat 15) d
    rw [List.length_replicate] at h4
    have hg : (d.get l).1.most = d.most ∧ d.clocks ≤ (d.get l).1.clocks ∧ (d.get l).1.clocks ≤ d.clocks + (8 / l).toNat ∧ (d.get l).1.out.length ≤ d.out.length + 1 := by
      unfold Drv.get
      split
      · dsimp only
        refine ⟨h2, by omega, by omega, ?_⟩
        rw [List.length_append]; simp
      · dsimp only
        refine ⟨h2, by omega, by omega, by rw [h1]; omega⟩
    rw [Drv.gets]
    split
    · obtain ⟨i1, i2, i3, i4⟩ := ih (d.get l).1
      refine ⟨i1.trans hg.1, by omega, ?_, by omega⟩
      rw [show ((n + 1 : Nat) : Int) * ((8 / l).toNat : Int) = (n : Int) * ((8 / l).toNat : Int) + ((8 / l).toNat : Int) from by rw [Int.natCast_add, Int.add_mul]; simp]
      omega
    · dsimp only
      refine ⟨hg.1, by omega, ?_, by omega⟩
      have : (0 : Int) ≤ (n : Int) * ((8 / l).toNat : Int) := Int.mul_nonneg (by omega) (by omega)
      rw [show ((n + 1 : Nat) : Int) * ((8 / l).toNat : Int) = (n : Int) * ((8 / l).toNat : Int) + ((8 / l).toNat : Int) from by rw [Int.natCast_add, Int.add_mul]; simp]
      omega
set_option maxRecDepth 100000 in
set_option maxHeartbeats 4000000 in
theorem d_phase_gen {g b : Nat} {d : Drv} {N0 : Int} {Q : Own} {w0 w : World} {rows : List (Value × List Value)} (h : DCtx g b d N0 Q w0 w rows) (gp op n cap : Nat) (L : List (Ph × Value)) (hP : PhsV rows (.slice (some ⟨gp, op, none⟩) n cap) L) (i0 : Nat) (hi0 : i0 < L.length) (la cl rd : Int) (bs : List Int) (hp : L[i0].1 = ⟨la, bs, cl, rd⟩) (k8 : Nat) (hk8 : (8 / la).toNat = k8)
    (hlen : ∀ x ∈ bs, (outsL x la).length = k8)
    (hput : ∀ (d' : Drv) (w' : World), DCtx g b d' N0 Q w0 w' rows → ∀ x ∈ bs, d'.room N0 (k8 : Int) → Calls Tryz.prog 170 #[.pointer (some ⟨g, 0, none⟩), .int .i64 x, .int .i64 la] w' fun e w'' => e = .returned (.bool (d'.run (outsL x la)).2.2) ∧ DCtx g b (d'.run (outsL x la)).1 N0 Q w0 w'' rows)
    (hget : ∀ (d' : Drv) (w' : World), 0 < rd → DCtx g b d' N0 Q w0 w' rows → d'.out.length ≤ 1048576 → d'.room N0 (k8 : Int) → Calls Tryz.prog 172 #[.pointer (some ⟨g, 0, none⟩), .int .i64 la] w' fun e w'' => e = .returned (.bool (d'.get la).2) ∧ DCtx g b (d'.get la).1 N0 Q w0 w'' rows)
    (hk : k8 = 0 ∨ k8 = 2 ∨ k8 = 8) (hcl : 0 ≤ cl ∧ cl ≤ 400) (hrd : 0 ≤ rd ∧ rd ≤ 512) (hbl : bs.length ≤ 512) (hol : d.out.length ≤ 1048000) (hr : d.room N0 ((bs.length * k8 : Nat) + cl + rd * k8)) :
    Calls Tryz.prog 119 #[.pointer (some ⟨g, 0, none⟩), .pointer (some ⟨gp, op + i0 * 4, none⟩)] w fun e w' => e = .returned (.bool (d.phase ⟨la, bs, cl, rd⟩).2) ∧ DCtx g b (d.phase ⟨la, bs, cl, rd⟩).1 N0 Q w0 w' rows := by
  obtain ⟨ncl, rfl⟩ : ∃ m : Nat, cl = (m : Int) := ⟨cl.toNat, by omega⟩
  obtain ⟨nrd, rfl⟩ : ∃ m : Nat, rd = (m : Int) := ⟨rd.toNat, by omega⟩
  have hncl : ncl ≤ 400 := by omega
  have hnrd : nrd ≤ 512 := by omega
  obtain ⟨ba, bc, hbv, hbm, -⟩ := phs_bytes hP i0 hi0
  have HCE : Hid (∀ wr (d' : Drv), DCtx g b d' N0 Q w0 wr rows → wr.cell? ⟨gp, op + i0 * 4, none⟩ = some (.int .i64 la) ∧ wr.cell? ⟨gp, op + i0 * 4 + 1, none⟩ = some (.slice ba bs.length bc) ∧ wr.cell? ⟨gp, op + i0 * 4 + 2, none⟩ = some (.int .i64 (ncl : Int)) ∧ wr.cell? ⟨gp, op + i0 * 4 + 3, none⟩ = some (.int .i64 (nrd : Int)) ∧ RS wr (.slice ba bs.length bc) (ints bs)) := Lib.hid (by
    intro wr d' hD
    obtain ⟨-, -, g', o', e, -, k0, k1, k2, k3⟩ := phs_cells hD.ctx hP i0 hi0
    have hbm := hbm hD.ctx
    rw [hbv] at k1
    rw [hp] at k0 k1 k2 k3 hbm
    simp only [Option.some.injEq, Addr.mk.injEq, and_true] at e
    obtain ⟨rfl, rfl⟩ := e
    exact ⟨k0, k1, k2, k3, hbm⟩)
  have HPUT := Lib.hid hput
  have HGET := Lib.hid hget
  have HLEN := Lib.hid hlen
  have HR := Lib.hid hr
  have HK := Lib.hid hk
  obtain ⟨k0, k1, k2, k3, -⟩ := HCE.out w d h
  have H := Lib.hid h
  clear hput hget hlen hr hk hP hp h hbm hbv hrd hcl
  go_enter Tryz.func119, Tryz.ntmps119
  go_wp2_with fail
  clear k0 k1 k2 k3
  go_loopw [14] (fun iv wr => ∃ i : Nat, i ≤ bs.length ∧ iv = .int .i64 (i : Int) ∧ Hid ((d.run ((bs.take i).flatMap fun x => outsL x la)).2.2 = true) ∧ DCtx g b (d.run ((bs.take i).flatMap fun x => outsL x la)).1 N0 Q w0 wr rows) (fun iv _ => bs.length - (intOf iv).toNat)
  case atStart => exact ⟨0, by omega, rfl, Lib.hid rfl, H.out⟩
  case round =>
    rename World => W2
    obtain ⟨i, hi, rfl, hok, hC⟩ := hrel
    obtain ⟨-, r2, r3, r4, -⟩ := run_keep ((bs.take i).flatMap fun x => outsL x la) d
    have r5 := r4 hok.out
    rw [flat_len _ la k8 (fun x hx => HLEN.out x (List.mem_of_mem_take hx)), List.length_take, Nat.min_eq_left hi] at r5
    rw [r5] at r3
    obtain ⟨k0, k1, k2, k3, hbm2⟩ := HCE.out W2 _ hC
    by_cases hlt : i < bs.length
    · obtain ⟨bb, oo, rfl, -, hcc⟩ := hbm2.cells (by omega)
      clear hbm2
      have hcell := hcc i hlt
      rw [ints_at _ _ hlt] at hcell
      obtain ⟨y, hy⟩ : ∃ y, bs.getD i 0 = y := ⟨_, rfl⟩
      rw [hy] at hcell
      have hmem : y ∈ bs := by rw [← hy, List.getD_eq_getElem?_getD, List.getElem?_eq_getElem hlt]; exact List.getElem_mem hlt
      have e1 : bs.take (i + 1) = bs.take i ++ [y] := by
        rw [List.take_add_one, ← hy]
        simp [List.getD_eq_getElem?_getD, List.getElem?_eq_getElem hlt]
      have HE1 : Hid (((bs.take (i + 1)).flatMap fun x => outsL x la) = ((bs.take i).flatMap fun x => outsL x la) ++ outsL y la) := Lib.hid (by rw [e1, List.flatMap_append]; simp)
      have HS : Hid (∃ ys, Ph.says ⟨la, bs, ncl, nrd⟩ = (((bs.take i).flatMap fun x => outsL x la) ++ outsL y la) ++ ys) := Lib.hid (by
        refine ⟨((bs.drop (i + 1)).flatMap fun x => outsL x la) ++ List.replicate ncl 15, ?_⟩
        rw [← HE1.out, ← List.append_assoc, ← List.flatMap_append, List.take_append_drop]
        rfl)
      have hroom : (d.run ((bs.take i).flatMap fun x => outsL x la)).1.room N0 (k8 : Int) := by
        refine room_at HR.out (i * k8 : Nat) k8 r2 (by omega) ?_
        rcases HK.out with e | e | e <;> rw [e] <;> omega
      have hput := HPUT.out _ W2 hC y hmem hroom
      obtain ⟨di, hdi⟩ : ∃ di, (d.run ((bs.take i).flatMap fun x => outsL x la)).1 = di := ⟨_, rfl⟩
      rw [hdi] at hput
      have HRA : Hid (d.run (((bs.take i).flatMap fun x => outsL x la) ++ outsL y la) = ((di.run (outsL y la)).1, (d.run ((bs.take i).flatMap fun x => outsL x la)).2.1 ++ (di.run (outsL y la)).2.1, (di.run (outsL y la)).2.2)) := Lib.hid (by rw [run_app, hok.out, hdi]; rfl)
      have HP2 := Lib.hid hput
      clear hput hdi hC hroom hmem hy e1 hcc r2 r3 r4 r5 k1 k2 k3
      cases hf : (di.run (outsL y la)).2.2 with
      | false =>
        rw [hf] at HP2 HRA
        have HF : Hid (d.phase ⟨la, bs, ncl, nrd⟩ = ((di.run (outsL y la)).1, false)) := Lib.hid (by
          obtain ⟨ys, hys⟩ := HS.out
          have hf2 : (d.run (((bs.take i).flatMap fun x => outsL x la) ++ outsL y la)).2.2 = false := by rw [HRA.out]
          unfold Drv.phase
          rw [hys, run_fail hf2, HRA.out]
          rfl)
        clear hf HS HE1
        go_wp2_with (go_at_call 170; refine HP2.out.mono ?_; rintro e w2 ⟨rfl, hC2⟩)
        go_ret
        rw [HF.out]
        exact ⟨rfl, hC2⟩
      | true =>
        rw [hf] at HP2 HRA
        clear hf HS
        go_wp2_with (go_at_call 170; refine HP2.out.mono ?_; rintro e w2 ⟨rfl, hC2⟩)
        refine ⟨?rel, ?measure⟩
        case rel =>
          refine ⟨i + 1, by omega, by go_num, Lib.hid (by rw [HE1.out, HRA.out]), ?_⟩
          rw [HE1.out, HRA.out]
          exact hC2
        case measure => simp [intOf]; omega
    · obtain rfl : i = bs.length := by omega
      rw [List.take_length] at hok hC r2 r3
      obtain ⟨A, hA⟩ : ∃ A, (bs.flatMap fun x => outsL x la) = A := ⟨_, rfl⟩
      rw [hA] at hok hC r2 r3
      have HS : Hid (Ph.says ⟨la, bs, ncl, nrd⟩ = A ++ List.replicate ncl 15) := Lib.hid (by rw [← hA]; rfl)
      have HOK := Lib.hid hok.out
      have HAL : Hid (A.length = bs.length * k8) := Lib.hid (by rw [← hA]; exact flat_len bs la k8 HLEN.out)
      have HC := Lib.hid hC
      have HKEEP := Lib.hid (And.intro r2 r3)
      clear hC hok r2 r3 r4 r5 hA k0 k1 k3 HLEN HPUT hbm2
      go_wp2_with fail
      clear k2
      go_loopw [31] (fun iv wr => ∃ j : Nat, j ≤ ncl ∧ iv = .int .i64 (j : Int) ∧ Hid ((d.run (A ++ List.replicate j 15)).2.2 = true) ∧ DCtx g b (d.run (A ++ List.replicate j 15)).1 N0 Q w0 wr rows) (fun iv _ => ncl - (intOf iv).toNat)
      case atStart => exact ⟨0, by omega, rfl, Lib.hid (by rw [List.replicate_zero, List.append_nil]; exact HOK.out), by rw [List.replicate_zero, List.append_nil]; exact HC.out⟩
      case round =>
        rename World => W3
        obtain ⟨j, hj, rfl, hok, hC⟩ := hrel
        obtain ⟨s1, r2, r3, r4, -⟩ := run_keep (A ++ List.replicate j 15) d
        have r5 := r4 hok.out
        rw [List.length_append, List.length_replicate, HAL.out] at r5
        rw [r5] at r3
        by_cases hlt : j < ncl
        · have hroom : (d.run (A ++ List.replicate j 15)).1.room N0 1 := by
            refine room_at HR.out (bs.length * k8 + j : Nat) 1 r2 (by omega) ?_
            rcases HK.out with e | e | e <;> rw [e] <;> omega
          have HE1 : Hid (A ++ List.replicate (j + 1) 15 = (A ++ List.replicate j 15) ++ [15]) := Lib.hid (by rw [List.replicate_succ', List.append_assoc])
          have HS2 : Hid (Ph.says ⟨la, bs, ncl, nrd⟩ = (A ++ List.replicate j 15) ++ (15 :: List.replicate (ncl - (j + 1)) 15)) := Lib.hid (by
            rw [HS.out, List.append_assoc]
            congr 1
            rw [← List.replicate_succ, List.replicate_append_replicate]
            congr 1
            omega)
          obtain ⟨dj, hdj⟩ : ∃ dj, (d.run (A ++ List.replicate j 15)).1 = dj := ⟨_, rfl⟩
          have HRA : Hid (∀ ys, d.run ((A ++ List.replicate j 15) ++ ys) = ((dj.run ys).1, (d.run (A ++ List.replicate j 15)).2.1 ++ (dj.run ys).2.1, (dj.run ys).2.2)) := Lib.hid (fun ys => by rw [run_app, hok.out, hdj]; rfl)
          rw [hdj] at hC hroom
          have HC3 := Lib.hid hC
          have HRM := Lib.hid hroom
          clear hC hroom hok hdj r2 r3 r4 r5 s1
          cases hf : dj.full with
          | true =>
            have HF : Hid (d.phase ⟨la, bs, ncl, nrd⟩ = (dj, false)) := Lib.hid (by
              unfold Drv.phase
              rw [HS2.out, HRA.out]
              simp [Drv.run, hf])
            have HFF := Lib.hid hf
            clear hf HE1 HS2
            go_wp2_with (go_at_call 171; refine (d_clock_no HC3.out _ HFF.out).mono ?_; rintro e w2 ⟨rfl, hC2⟩)
            go_ret
            rw [HF.out]
            exact ⟨rfl, hC2⟩
          | false =>
            have HRN : Hid (d.run (A ++ List.replicate (j + 1) 15) = (dj.clk 15, (d.run (A ++ List.replicate j 15)).2.1 ++ [(dj.s.clock 15).2], true)) := Lib.hid (by rw [HE1.out, HRA.out]; simp [Drv.run, hf])
            have HFF := Lib.hid hf
            clear hf HE1 HS2
            go_wp2_with (go_at_call 171; refine (d_clock HC3.out 15 (by decide) HFF.out HRM.out _ rfl).mono ?_; rintro e w2 ⟨rfl, hC2⟩)
            refine ⟨?rel, ?measure⟩
            case rel =>
              refine ⟨j + 1, by omega, by go_num, Lib.hid (by rw [HRN.out]), ?_⟩
              rw [HRN.out]
              exact hC2
            case measure => simp [intOf]; omega
        · obtain rfl : j = ncl := by omega
          obtain ⟨e0, he0⟩ : ∃ e0, (d.run (A ++ List.replicate j 15)).1 = e0 := ⟨_, rfl⟩
          have HPH : Hid (d.phase ⟨la, bs, j, nrd⟩ = e0.gets la nrd) := Lib.hid (by
            unfold Drv.phase
            rw [HS.out, hok.out, he0]
            rfl)
          rw [he0] at hC r2 r3 s1
          have hol2 : e0.out.length ≤ 1048000 := by rw [s1]; exact hol
          obtain ⟨k0, k1, k2, k3, -⟩ := HCE.out W3 _ hC
          have HC3 := Lib.hid hC
          have HKE := Lib.hid (And.intro r2 r3)
          clear hC hok r2 r3 r4 r5 s1 he0 HS HKEEP HOK HAL k0 k1 k2
          go_wp2_with fail
          clear k3
          go_loopw [45] (fun iv wr => ∃ q : Nat, q ≤ nrd ∧ iv = .int .i64 (q : Int) ∧ Hid ((e0.gets la q).2 = true) ∧ DCtx g b (e0.gets la q).1 N0 Q w0 wr rows) (fun iv _ => nrd - (intOf iv).toNat)
          case atStart => exact ⟨0, by omega, rfl, Lib.hid rfl, HC3.out⟩
          case round =>
            rename World => W4
            obtain ⟨q, hq, rfl, hok, hC⟩ := hrel
            by_cases hlt : q < nrd
            · obtain ⟨g1, g2, g3, g4⟩ := gets_keep la q e0
              rw [hk8] at g3
              have hroom : (e0.gets la q).1.room N0 (k8 : Int) := by
                refine room_at HR.out ((bs.length * k8 + j : Nat) + (q : Int) * k8) k8 (g1.trans HKE.out.1) (by have := HKE.out.2; omega) ?_
                rcases HK.out with e | e | e <;> rw [e] <;> omega
              have hget := HGET.out _ W4 (by omega) hC (by omega) hroom
              obtain ⟨k0, k1, k2, k3, -⟩ := HCE.out W4 _ hC
              obtain ⟨dq, hdq⟩ : ∃ dq, (e0.gets la q).1 = dq := ⟨_, rfl⟩
              rw [hdq] at hget
              have HSN : Hid (e0.gets la (q + 1) = dq.get la) := Lib.hid (by rw [gets_snoc, hok.out, hdq]; rfl)
              have HGE := Lib.hid hget
              clear hget hC hroom hok hdq g1 g2 g3 g4 k1 k2 k3
              cases hf : (dq.get la).2 with
              | false =>
                rw [hf] at HGE
                have HF : Hid (d.phase ⟨la, bs, j, nrd⟩ = ((dq.get la).1, false)) := Lib.hid (by
                  have h1 : (e0.gets la (q + 1)).2 = false := by rw [HSN.out, hf]
                  have h2 := gets_fail la e0 (q + 1) h1 (nrd - (q + 1))
                  rw [show q + 1 + (nrd - (q + 1)) = nrd by omega] at h2
                  rw [HPH.out, h2, HSN.out, ← hf])
                clear hf HSN
                go_wp2_with (go_at_call 172; refine HGE.out.mono ?_; rintro e w2 ⟨rfl, hC2⟩)
                go_ret
                rw [HF.out]
                exact ⟨rfl, hC2⟩
              | true =>
                rw [hf] at HGE
                have HSN2 : Hid ((e0.gets la (q + 1)).2 = true) := Lib.hid (by rw [HSN.out, hf])
                clear hf
                go_wp2_with (go_at_call 172; refine HGE.out.mono ?_; rintro e w2 ⟨rfl, hC2⟩)
                refine ⟨?rel, ?measure⟩
                case rel =>
                  refine ⟨q + 1, by omega, by go_num, HSN2, ?_⟩
                  rw [HSN.out]
                  exact hC2
                case measure => simp [intOf]; omega
            · obtain rfl : q = nrd := by omega
              have HF : Hid ((d.phase ⟨la, bs, j, q⟩).2 = true) := Lib.hid (by rw [HPH.out]; exact hok.out)
              have HC4 : Hid (DCtx g b (d.phase ⟨la, bs, j, q⟩).1 N0 Q w0 W4 rows) := Lib.hid (by rw [HPH.out]; exact hC)
              clear hok hC
              go_wp2
              go_ret
              exact ⟨by rw [HF.out]; rfl, HC4.out⟩
end Go.Proofs.YtepnljeojlbliaaGreat
