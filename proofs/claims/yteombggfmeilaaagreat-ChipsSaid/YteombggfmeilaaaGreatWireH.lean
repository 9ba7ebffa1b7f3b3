/- (*drive).phase. · (*drive).phase, of a phase that may be; what a drive keeps. · wire.Drive. -/
import Derived.Test.YteombggfmeilaaaGreatWireF
import Derived.Test.YteombggfmeilaaaGreatSayP
namespace Go.Proofs.YteombggfmeilaaaGreat
open Go.RowKit
theorem run_fail {d : Drv} {xs : List Int} (h : (d.run xs).2.2 = false) (ys : List Int) : d.run (xs ++ ys) = d.run xs := by rw [run_app, h]; simp
theorem room_at {d d' : Drv} {N0 n : Int} (h : d.room N0 n) (k m : Int) (hm : d'.most = d.most) (hc : d'.clocks ≤ d.clocks + k) (hn : k + m ≤ n) : d'.room N0 m := by
  unfold Drv.room at h ⊢
  rw [hm]
  rcases h with h | h
  · exact .inl (by omega)
  · exact .inr h
theorem flat_len (bs : List Int) (la : Int) (k8 : Nat) (h : ∀ x ∈ bs, (outsL x la).length = k8) : (bs.flatMap fun x => outsL x la).length = bs.length * k8 := by
  induction bs with
  | nil => simp
  | cons b bs ih =>
    rw [List.flatMap_cons, List.length_append, h b List.mem_cons_self, ih (fun x hx => h x (List.mem_cons_of_mem _ hx)), List.length_cons, Nat.succ_mul]
    omega
theorem gets_keep (l : Int) (n : Nat) : ∀ d : Drv, (d.gets l n).1.most = d.most ∧ d.clocks ≤ (d.gets l n).1.clocks ∧ (d.gets l n).1.clocks ≤ d.clocks + n * (8 / l).toNat ∧ (d.gets l n).1.out.length ≤ d.out.length + n := by
  induction n with
  | zero => intro d; simp [Drv.gets]
  | succ n ih =>
    intro d
    obtain ⟨h1, h2, h3, h3b, h4⟩ := run_keep (List.replicate (8 / l).toNat 15) d
    rw [List.length_replicate] at h4
    have hg : (d.get l).1.most = d.most ∧ d.clocks ≤ (d.get l).1.clocks ∧ (d.get l).1.clocks ≤ d.clocks + (8 / l).toNat ∧ (d.get l).1.out.length ≤ d.out.length + 1 := by
      unfold Drv.get
      split
      · dsimp only
        refine ⟨h2, by omega, by omega, ?_⟩
        rw [List.length_append]; simp
      · dsimp only
        refine ⟨h2, by omega, by omega, by rw [h1]; omega⟩
    rw [Drv.gets]
    split
    · obtain ⟨i1, i2, i3, i4⟩ := ih (d.get l).1
      refine ⟨i1.trans hg.1, by omega, ?_, by omega⟩
      rw [show ((n + 1 : Nat) : Int) * ((8 / l).toNat : Int) = (n : Int) * ((8 / l).toNat : Int) + ((8 / l).toNat : Int) from by rw [Int.natCast_add, Int.add_mul]; simp]
      omega
    · dsimp only
      refine ⟨hg.1, by omega, ?_, by omega⟩
      have : (0 : Int) ≤ (n : Int) * ((8 / l).toNat : Int) := Int.mul_nonneg (by omega) (by omega)
      rw [show ((n + 1 : Nat) : Int) * ((8 / l).toNat : Int) = (n : Int) * ((8 / l).toNat : Int) + ((8 / l).toNat : Int) from by rw [Int.natCast_add, Int.add_mul]; simp]
      omega
set_option maxRecDepth 100000 in
set_option maxHeartbeats 4000000 in
theorem d_phase_gen {g b : Nat} {d : Drv} {N0 : Int} {Q : Own} {w0 w : World} {rows : List (Value × List Value)} (h : DCtx g b d N0 Q w0 w rows) (gp op n cap : Nat) (L : List (Ph × Value)) (hP : PhsV rows (.slice (some ⟨gp, op, none⟩) n cap) L) (i0 : Nat) (hi0 : i0 < L.length) (la cl rd : Int) (bs : List Int) (hp : L[i0].1 = ⟨la, bs, cl, rd⟩) (k8 : Nat) (hk8 : (8 / la).toNat = k8)
    (hlen : ∀ x ∈ bs, (outsL x la).length = k8)
    (hput : ∀ (d' : Drv) (w' : World), DCtx g b d' N0 Q w0 w' rows → ∀ x ∈ bs, d'.room N0 (k8 : Int) → Calls Tryz.prog 170 #[.pointer (some ⟨g, 0, none⟩), .int .i64 x, .int .i64 la] w' fun e w'' => e = .returned (.bool (d'.run (outsL x la)).2.2) ∧ DCtx g b (d'.run (outsL x la)).1 N0 Q w0 w'' rows)
    (hget : ∀ (d' : Drv) (w' : World), 0 < rd → DCtx g b d' N0 Q w0 w' rows → d'.out.length ≤ 1048576 → d'.room N0 (k8 : Int) → Calls Tryz.prog 172 #[.pointer (some ⟨g, 0, none⟩), .int .i64 la] w' fun e w'' => e = .returned (.bool (d'.get la).2) ∧ DCtx g b (d'.get la).1 N0 Q w0 w'' rows)
    (hk : k8 = 0 ∨ k8 = 2 ∨ k8 = 8) (hcl : 0 ≤ cl ∧ cl ≤ 400) (hrd : 0 ≤ rd ∧ rd ≤ 512) (hbl : bs.length ≤ 512) (hol : d.out.length ≤ 1048000) (hr : d.room N0 ((bs.length * k8 : Nat) + cl + rd * k8)) :
    Calls Tryz.prog 119 #[.pointer (some ⟨g, 0, none⟩), .pointer (some ⟨gp, op + i0 * 4, none⟩)] w fun e w' => e = .returned (.bool (d.phase ⟨la, bs, cl, rd⟩).2) ∧ DCtx g b (d.phase ⟨la, bs, cl, rd⟩).1 N0 Q w0 w' rows := by
  obtain ⟨ncl, rfl⟩ : ∃ m : Nat, cl = (m : Int) := ⟨cl.toNat, by omega⟩
  obtain ⟨nrd, rfl⟩ : ∃ m : Nat, rd = (m : Int) := ⟨rd.toNat, by omega⟩
  have hncl : ncl ≤ 400 := by omega
  have hnrd : nrd ≤ 512 := by omega
  obtain ⟨ba, bc, hbv, hbm, -⟩ := phs_bytes hP i0 hi0
  have HCE : Hid (∀ wr (d' : Drv), DCtx g b d' N0 Q w0 wr rows → wr.cell? ⟨gp, op + i0 * 4, none⟩ = some (.int .i64 la) ∧ wr.cell? ⟨gp, op + i0 * 4 + 1, none⟩ = some (.slice ba bs.length bc) ∧ wr.cell? ⟨gp, op + i0 * 4 + 2, none⟩ = some (.int .i64 (ncl : Int)) ∧ wr.cell? ⟨gp, op + i0 * 4 + 3, none⟩ = some (.int .i64 (nrd : Int)) ∧ RS wr (.slice ba bs.length bc) (ints bs)) := Lib.hid (by
    intro wr d' hD
    obtain ⟨-, -, g', o', e, -, k0, k1, k2, k3⟩ := phs_cells hD.ctx hP i0 hi0
    have hbm := hbm hD.ctx
    rw [hbv] at k1
    rw [hp] at k0 k1 k2 k3 hbm
    simp only [Option.some.injEq, Addr.mk.injEq, and_true] at e
    obtain ⟨rfl, rfl⟩ := e
    exact ⟨k0, k1, k2, k3, hbm⟩)
  have HPUT := Lib.hid hput
  have HGET := Lib.hid hget
  have HLEN := Lib.hid hlen
  have HR := Lib.hid hr
  have HK := Lib.hid hk
  obtain ⟨k0, k1, k2, k3, -⟩ := HCE.out w d h
  have H := Lib.hid h
  clear hput hget hlen hr hk hP hp h hbm hbv hrd hcl
  go_enter Tryz.func119, Tryz.ntmps119
  go_wp2_with fail
  clear k0 k1 k2 k3
  go_loopw [14] (fun iv wr => ∃ i : Nat, i ≤ bs.length ∧ iv = .int .i64 (i : Int) ∧ Hid ((d.run ((bs.take i).flatMap fun x => outsL x la)).2.2 = true) ∧ DCtx g b (d.run ((bs.take i).flatMap fun x => outsL x la)).1 N0 Q w0 wr rows) (fun iv _ => bs.length - (intOf iv).toNat)
  case atStart => exact ⟨0, by omega, rfl, Lib.hid rfl, H.out⟩
  case round =>
    rename World => W2
    obtain ⟨i, hi, rfl, hok, hC⟩ := hrel
    obtain ⟨-, r2, r3, r4, -⟩ := run_keep ((bs.take i).flatMap fun x => outsL x la) d
    have r5 := r4 hok.out
    rw [flat_len _ la k8 (fun x hx => HLEN.out x (List.mem_of_mem_take hx)), List.length_take, Nat.min_eq_left hi] at r5
    rw [r5] at r3
    obtain ⟨k0, k1, k2, k3, hbm2⟩ := HCE.out W2 _ hC
    by_cases hlt : i < bs.length
    · obtain ⟨bb, oo, rfl, -, hcc⟩ := hbm2.cells (by omega)
      clear hbm2
      have hcell := hcc i hlt
      rw [ints_at _ _ hlt] at hcell
      obtain ⟨y, hy⟩ : ∃ y, bs.getD i 0 = y := ⟨_, rfl⟩
      rw [hy] at hcell
      have hmem : y ∈ bs := by rw [← hy, List.getD_eq_getElem?_getD, List.getElem?_eq_getElem hlt]; exact List.getElem_mem hlt
      have e1 : bs.take (i + 1) = bs.take i ++ [y] := by
        rw [List.take_add_one, ← hy]
        simp [List.getD_eq_getElem?_getD, List.getElem?_eq_getElem hlt]
      have HE1 : Hid (((bs.take (i + 1)).flatMap fun x => outsL x la) = ((bs.take i).flatMap fun x => outsL x la) ++ outsL y la) := Lib.hid (by rw [e1, List.flatMap_append]; simp)
      have HS : Hid (∃ ys, Ph.says ⟨la, bs, ncl, nrd⟩ = (((bs.take i).flatMap fun x => outsL x la) ++ outsL y la) ++ ys) := Lib.hid (by
        refine ⟨((bs.drop (i + 1)).flatMap fun x => outsL x la) ++ List.replicate ncl 15, ?_⟩
        rw [← HE1.out, ← List.append_assoc, ← List.flatMap_append, List.take_append_drop]
        rfl)
      have hroom : (d.run ((bs.take i).flatMap fun x => outsL x la)).1.room N0 (k8 : Int) := by
        refine room_at HR.out (i * k8 : Nat) k8 r2 (by omega) ?_
        rcases HK.out with e | e | e <;> rw [e] <;> omega
      have hput := HPUT.out _ W2 hC y hmem hroom
      obtain ⟨di, hdi⟩ : ∃ di, (d.run ((bs.take i).flatMap fun x => outsL x la)).1 = di := ⟨_, rfl⟩
      rw [hdi] at hput
      have HRA : Hid (d.run (((bs.take i).flatMap fun x => outsL x la) ++ outsL y la) = ((di.run (outsL y la)).1, (d.run ((bs.take i).flatMap fun x => outsL x la)).2.1 ++ (di.run (outsL y la)).2.1, (di.run (outsL y la)).2.2)) := Lib.hid (by rw [run_app, hok.out, hdi]; rfl)
      have HP2 := Lib.hid hput
      clear hput hdi hC hroom hmem hy e1 hcc r2 r3 r4 r5 k1 k2 k3
      cases hf : (di.run (outsL y la)).2.2 with
      | false =>
        rw [hf] at HP2 HRA
        have HF : Hid (d.phase ⟨la, bs, ncl, nrd⟩ = ((di.run (outsL y la)).1, false)) := Lib.hid (by
          obtain ⟨ys, hys⟩ := HS.out
          have hf2 : (d.run (((bs.take i).flatMap fun x => outsL x la) ++ outsL y la)).2.2 = false := by rw [HRA.out]
          unfold Drv.phase
          rw [hys, run_fail hf2, HRA.out]
          rfl)
        clear hf HS HE1
        go_wp2_with (go_at_call 170; refine HP2.out.mono ?_; rintro e w2 ⟨rfl, hC2⟩)
        go_ret
        rw [HF.out]
        exact ⟨rfl, hC2⟩
      | true =>
        rw [hf] at HP2 HRA
        clear hf HS
        go_wp2_with (go_at_call 170; refine HP2.out.mono ?_; rintro e w2 ⟨rfl, hC2⟩)
        refine ⟨?rel, ?measure⟩
        case rel =>
          refine ⟨i + 1, by omega, by go_num, Lib.hid (by rw [HE1.out, HRA.out]), ?_⟩
          rw [HE1.out, HRA.out]
          exact hC2
        case measure => simp [intOf]; omega
    · obtain rfl : i = bs.length := by omega
      rw [List.take_length] at hok hC r2 r3
      obtain ⟨A, hA⟩ : ∃ A, (bs.flatMap fun x => outsL x la) = A := ⟨_, rfl⟩
      rw [hA] at hok hC r2 r3
      have HS : Hid (Ph.says ⟨la, bs, ncl, nrd⟩ = A ++ List.replicate ncl 15) := Lib.hid (by rw [← hA]; rfl)
      have HOK := Lib.hid hok.out
      have HAL : Hid (A.length = bs.length * k8) := Lib.hid (by rw [← hA]; exact flat_len bs la k8 HLEN.out)
      have HC := Lib.hid hC
      have HKEEP := Lib.hid (And.intro r2 r3)
      clear hC hok r2 r3 r4 r5 hA k0 k1 k3 HLEN HPUT hbm2
      go_wp2_with fail
      clear k2
      go_loopw [31] (fun iv wr => ∃ j : Nat, j ≤ ncl ∧ iv = .int .i64 (j : Int) ∧ Hid ((d.run (A ++ List.replicate j 15)).2.2 = true) ∧ DCtx g b (d.run (A ++ List.replicate j 15)).1 N0 Q w0 wr rows) (fun iv _ => ncl - (intOf iv).toNat)
      case atStart => exact ⟨0, by omega, rfl, Lib.hid (by rw [List.replicate_zero, List.append_nil]; exact HOK.out), by rw [List.replicate_zero, List.append_nil]; exact HC.out⟩
      case round =>
        rename World => W3
        obtain ⟨j, hj, rfl, hok, hC⟩ := hrel
        obtain ⟨s1, r2, r3, r4, -⟩ := run_keep (A ++ List.replicate j 15) d
        have r5 := r4 hok.out
        rw [List.length_append, List.length_replicate, HAL.out] at r5
        rw [r5] at r3
        by_cases hlt : j < ncl
        · have hroom : (d.run (A ++ List.replicate j 15)).1.room N0 1 := by
            refine room_at HR.out (bs.length * k8 + j : Nat) 1 r2 (by omega) ?_
            rcases HK.out with e | e | e <;> rw [e] <;> omega
          have HE1 : Hid (A ++ List.replicate (j + 1) 15 = (A ++ List.replicate j 15) ++ [15]) := Lib.hid (by rw [List.replicate_succ', List.append_assoc])
          have HS2 : Hid (Ph.says ⟨la, bs, ncl, nrd⟩ = (A ++ List.replicate j 15) ++ (15 :: List.replicate (ncl - (j + 1)) 15)) := Lib.hid (by
            rw [HS.out, List.append_assoc]
            congr 1
            rw [← List.replicate_succ, List.replicate_append_replicate]
            congr 1
            omega)
          obtain ⟨dj, hdj⟩ : ∃ dj, (d.run (A ++ List.replicate j 15)).1 = dj := ⟨_, rfl⟩
          have HRA : Hid (∀ ys, d.run ((A ++ List.replicate j 15) ++ ys) = ((dj.run ys).1, (d.run (A ++ List.replicate j 15)).2.1 ++ (dj.run ys).2.1, (dj.run ys).2.2)) := Lib.hid (fun ys => by rw [run_app, hok.out, hdj]; rfl)
          rw [hdj] at hC hroom
          have HC3 := Lib.hid hC
          have HRM := Lib.hid hroom
          clear hC hroom hok hdj r2 r3 r4 r5 s1
          cases hf : dj.full with
          | true =>
            have HF : Hid (d.phase ⟨la, bs, ncl, nrd⟩ = (dj, false)) := Lib.hid (by
              unfold Drv.phase
              rw [HS2.out, HRA.out]
              simp [Drv.run, hf])
            have HFF := Lib.hid hf
            clear hf HE1 HS2
            go_wp2_with (go_at_call 171; refine (d_clock_no HC3.out _ HFF.out).mono ?_; rintro e w2 ⟨rfl, hC2⟩)
            go_ret
            rw [HF.out]
            exact ⟨rfl, hC2⟩
          | false =>
            have HRN : Hid (d.run (A ++ List.replicate (j + 1) 15) = (dj.clk 15, (d.run (A ++ List.replicate j 15)).2.1 ++ [(dj.s.clock 15).2], true)) := Lib.hid (by rw [HE1.out, HRA.out]; simp [Drv.run, hf])
            have HFF := Lib.hid hf
            clear hf HE1 HS2
            go_wp2_with (go_at_call 171; refine (d_clock HC3.out 15 (by decide) HFF.out HRM.out _ rfl).mono ?_; rintro e w2 ⟨rfl, hC2⟩)
            refine ⟨?rel, ?measure⟩
            case rel =>
              refine ⟨j + 1, by omega, by go_num, Lib.hid (by rw [HRN.out]), ?_⟩
              rw [HRN.out]
              exact hC2
            case measure => simp [intOf]; omega
        · obtain rfl : j = ncl := by omega
          obtain ⟨e0, he0⟩ : ∃ e0, (d.run (A ++ List.replicate j 15)).1 = e0 := ⟨_, rfl⟩
          have HPH : Hid (d.phase ⟨la, bs, j, nrd⟩ = e0.gets la nrd) := Lib.hid (by
            unfold Drv.phase
            rw [HS.out, hok.out, he0]
            rfl)
          rw [he0] at hC r2 r3 s1
          have hol2 : e0.out.length ≤ 1048000 := by rw [s1]; exact hol
          obtain ⟨k0, k1, k2, k3, -⟩ := HCE.out W3 _ hC
          have HC3 := Lib.hid hC
          have HKE := Lib.hid (And.intro r2 r3)
          clear hC hok r2 r3 r4 r5 s1 he0 HS HKEEP HOK HAL k0 k1 k2
          go_wp2_with fail
          clear k3
          go_loopw [45] (fun iv wr => ∃ q : Nat, q ≤ nrd ∧ iv = .int .i64 (q : Int) ∧ Hid ((e0.gets la q).2 = true) ∧ DCtx g b (e0.gets la q).1 N0 Q w0 wr rows) (fun iv _ => nrd - (intOf iv).toNat)
          case atStart => exact ⟨0, by omega, rfl, Lib.hid rfl, HC3.out⟩
          case round =>
            rename World => W4
            obtain ⟨q, hq, rfl, hok, hC⟩ := hrel
            by_cases hlt : q < nrd
            · obtain ⟨g1, g2, g3, g4⟩ := gets_keep la q e0
              rw [hk8] at g3
              have hroom : (e0.gets la q).1.room N0 (k8 : Int) := by
                refine room_at HR.out ((bs.length * k8 + j : Nat) + (q : Int) * k8) k8 (g1.trans HKE.out.1) (by have := HKE.out.2; omega) ?_
                rcases HK.out with e | e | e <;> rw [e] <;> omega
              have hget := HGET.out _ W4 (by omega) hC (by omega) hroom
              obtain ⟨k0, k1, k2, k3, -⟩ := HCE.out W4 _ hC
              obtain ⟨dq, hdq⟩ : ∃ dq, (e0.gets la q).1 = dq := ⟨_, rfl⟩
              rw [hdq] at hget
              have HSN : Hid (e0.gets la (q + 1) = dq.get la) := Lib.hid (by rw [gets_snoc, hok.out, hdq]; rfl)
              have HGE := Lib.hid hget
              clear hget hC hroom hok hdq g1 g2 g3 g4 k1 k2 k3
              cases hf : (dq.get la).2 with
              | false =>
                rw [hf] at HGE
                have HF : Hid (d.phase ⟨la, bs, j, nrd⟩ = ((dq.get la).1, false)) := Lib.hid (by
                  have h1 : (e0.gets la (q + 1)).2 = false := by rw [HSN.out, hf]
                  have h2 := gets_fail la e0 (q + 1) h1 (nrd - (q + 1))
                  rw [show q + 1 + (nrd - (q + 1)) = nrd by omega] at h2
                  rw [HPH.out, h2, HSN.out, ← hf])
                clear hf HSN
                go_wp2_with (go_at_call 172; refine HGE.out.mono ?_; rintro e w2 ⟨rfl, hC2⟩)
                go_ret
                rw [HF.out]
                exact ⟨rfl, hC2⟩
              | true =>
                rw [hf] at HGE
                have HSN2 : Hid ((e0.gets la (q + 1)).2 = true) := Lib.hid (by rw [HSN.out, hf])
                clear hf
                go_wp2_with (go_at_call 172; refine HGE.out.mono ?_; rintro e w2 ⟨rfl, hC2⟩)
                refine ⟨?rel, ?measure⟩
                case rel =>
                  refine ⟨q + 1, by omega, by go_num, HSN2, ?_⟩
                  rw [HSN.out]
                  exact hC2
                case measure => simp [intOf]; omega
            · obtain rfl : q = nrd := by omega
              have HF : Hid ((d.phase ⟨la, bs, j, q⟩).2 = true) := Lib.hid (by rw [HPH.out]; exact hok.out)
              have HC4 : Hid (DCtx g b (d.phase ⟨la, bs, j, q⟩).1 N0 Q w0 W4 rows) := Lib.hid (by rw [HPH.out]; exact hC)
              clear hok hC
              go_wp2
              go_ret
              exact ⟨by rw [HF.out]; rfl, HC4.out⟩
end Go.Proofs.YteombggfmeilaaaGreat
namespace Go.Proofs.YteombggfmeilaaaGreat
open Go.RowKit
theorem outsL_len1 (x : Int) : (outsL x 1).length = 8 := rfl
theorem outsL_len4 (x : Int) : (outsL x 4).length = 2 := rfl
theorem d_phase {g b : Nat} {d : Drv} {N0 : Int} {Q : Own} {w0 w : World} {rows : List (Value × List Value)} (h : DCtx g b d N0 Q w0 w rows) (gp op n cap : Nat) (L : List (Ph × Value)) (hP : PhsV rows (.slice (some ⟨gp, op, none⟩) n cap) L) (i0 : Nat) (hi0 : i0 < L.length) (hm : L[i0].1.may = true) (hol : d.out.length ≤ 1048000) (hr : d.room N0 L[i0].1.many) :
    Calls Tryz.prog 119 #[.pointer (some ⟨g, 0, none⟩), .pointer (some ⟨gp, op + i0 * 4, none⟩)] w fun e w' => e = .returned (.bool (d.phase L[i0].1).2) ∧ DCtx g b (d.phase L[i0].1).1 N0 Q w0 w' rows := by
  have hf := may_facts hm
  obtain ⟨p, hp⟩ : ∃ p, L[i0].1 = p := ⟨_, rfl⟩
  rw [hp] at hf hr ⊢
  obtain ⟨la, bs, cl, rd⟩ := p
  dsimp only at hf
  rcases hf with ⟨hla | hla, hcl, hbl, hr0, hr1, hby⟩ | ⟨hla, hbs, hrd, hc0, hc1⟩
  · subst hla
    subst hcl
    rw [many1] at hr
    refine d_phase_gen h gp op n cap L hP i0 hi0 1 0 rd bs hp 8 rfl (fun x _ => rfl) (fun d' w' hC x hx hr' => d_put1 hC x (hby x hx) hr') (fun d' w' _ hC ho hr' => d_get1 hC ho hr') (.inr (.inr rfl)) (by decide) ⟨hr0, hr1⟩ hbl hol ?_
    exact room_at hr 0 _ rfl (by omega) (by omega)
  · subst hla
    subst hcl
    rw [many4] at hr
    refine d_phase_gen h gp op n cap L hP i0 hi0 4 0 rd bs hp 2 rfl (fun x _ => rfl) (fun d' w' hC x hx hr' => d_put4 hC x (hby x hx) hr') (fun d' w' _ hC ho hr' => d_get4 hC ho hr') (.inr (.inl rfl)) (by decide) ⟨hr0, hr1⟩ hbl hol ?_
    exact room_at hr 0 _ rfl (by omega) (by omega)
  · subst hla
    subst hbs
    subst hrd
    rw [many0] at hr
    refine d_phase_gen h gp op n cap L hP i0 hi0 0 cl 0 [] hp 0 rfl (fun x hx => by cases hx) (fun d' w' hC x hx => by cases hx) (fun d' w' h0 => by omega) (.inl rfl) ⟨by omega, by omega⟩ (by decide) (by decide) hol ?_
    exact room_at hr 0 _ rfl (by omega) (by simp)
theorem run_sel (xs : List Int) : ∀ d : Drv, (d.run xs).1.s.sel = d.s.sel := by
  induction xs with
  | nil => intro d; rfl
  | cons x xs ih =>
    intro d
    simp only [Drv.run]
    by_cases hf : d.full = true
    · simp [hf]
    · simp only [hf, Bool.false_eq_true, if_false]
      rw [ih]
      exact clock_sel _ _
theorem run_most (xs : List Int) : ∀ d : Drv, 0 ≤ d.most → d.clocks ≤ d.most → (d.run xs).1.clocks ≤ d.most := by
  induction xs with
  | nil => intro d _ h; exact h
  | cons x xs ih =>
    intro d h0 h
    simp only [Drv.run]
    by_cases hf : d.full = true
    · simp [hf]; exact h
    · simp only [hf, Bool.false_eq_true, if_false]
      have hfn := full_no (show d.full = false by simpa using hf)
      exact ih (d.clk x) h0 (by show d.clocks + 1 ≤ d.most; omega)
/-- What a drive keeps. -/
structure Drv.Kept (d d' : Drv) (n : Int) : Prop where
  most : d'.most = d.most
  sel : d'.s.sel = d.s.sel
  up : d.clocks ≤ d'.clocks
  many : d'.clocks ≤ d.clocks + n
  within : 0 ≤ d.most → d.clocks ≤ d.most → d'.clocks ≤ d.most
  outs : 2 * ((d'.out.length : Int) - d.out.length) ≤ d'.clocks - d.clocks
theorem Drv.Kept.refl (d : Drv) : d.Kept d 0 := ⟨rfl, rfl, by omega, by omega, fun _ h => h, by omega⟩
theorem Drv.Kept.trans {d e f : Drv} {m n : Int} (h : d.Kept e m) (k : e.Kept f n) : d.Kept f (m + n) := by
  obtain ⟨h1, h2, h3, h4, h5, h6⟩ := h
  obtain ⟨k1, k2, k3, k4, k5, k6⟩ := k
  exact ⟨k1.trans h1, k2.trans h2, by omega, by omega, fun a b => by rw [← h1]; exact k5 (by rw [h1]; exact a) (by rw [h1]; exact h5 a b), by omega⟩
theorem Drv.Kept.mono {d e : Drv} {m n : Int} (h : d.Kept e m) (hn : m ≤ n) : d.Kept e n := ⟨h.most, h.sel, h.up, by have := h.many; omega, h.within, h.outs⟩
theorem run_kept (d : Drv) (xs : List Int) : d.Kept (d.run xs).1 xs.length := by
  obtain ⟨h1, h2, h3, h4, h5⟩ := run_keep xs d
  exact ⟨h2, run_sel xs d, by omega, by omega, run_most xs d, by rw [h1]; omega⟩
theorem get_kept (d : Drv) (l : Int) (hl : l = 1 ∨ l = 4) : d.Kept (d.get l).1 (8 / l) := by
  have hn : ((8 / l).toNat : Int) = 8 / l ∧ 2 ≤ 8 / l := by rcases hl with rfl | rfl <;> decide
  have hk := run_kept d (List.replicate (8 / l).toNat 15)
  rw [List.length_replicate, hn.1] at hk
  obtain ⟨h1, h2, h3, h4, h5⟩ := run_keep (List.replicate (8 / l).toNat 15) d
  rw [List.length_replicate] at h4
  unfold Drv.get
  split
  · rename_i hok
    have h6 := h4 hok
    refine ⟨hk.most, hk.sel, hk.up, hk.many, hk.within, ?_⟩
    dsimp only
    rw [List.length_append, h3, h6]
    simp only [List.length_cons, List.length_nil]
    omega
  · exact hk
theorem gets_kept (l : Int) (hl : l = 1 ∨ l = 4) (n : Nat) : ∀ d : Drv, d.Kept (d.gets l n).1 (n * (8 / l)) := by
  induction n with
  | zero => intro d; rw [show ((0 : Nat) : Int) * (8 / l) = 0 from Int.zero_mul _]; exact Drv.Kept.refl d
  | succ n ih =>
    intro d
    have hn : 2 ≤ 8 / l := by rcases hl with rfl | rfl <;> decide
    have h1 := get_kept d l hl
    have e : ((n + 1 : Nat) : Int) * (8 / l) = 8 / l + (n : Int) * (8 / l) := by rw [Int.natCast_add, Int.add_mul]; omega
    rw [Drv.gets, e]
    split
    · exact h1.trans (ih _)
    · exact h1.mono (by have : (0 : Int) ≤ (n : Int) * (8 / l) := Int.mul_nonneg (by omega) (by omega); omega)
theorem phase_kept (d : Drv) (p : Ph) (h : p.may = true) : d.Kept (d.phase p).1 p.many := by
  obtain ⟨la, bs, cl, rd⟩ := p
  have hk := run_kept d (Ph.says ⟨la, bs, cl, rd⟩)
  unfold Drv.phase
  rcases may_facts h with ⟨hla | hla, hcl, hbl, hr0, hr1, hby⟩ | ⟨hla, hbs, hrd, hc0, hc1⟩
  · dsimp only at hla hcl hr0 hr1
    subst hla
    subst hcl
    obtain ⟨n, rfl⟩ : ∃ n : Nat, rd = (n : Int) := ⟨rd.toNat, by omega⟩
    have hl : (Ph.says ⟨1, bs, 0, n⟩).length = bs.length * 8 := by unfold Ph.says; rw [List.length_append, flat_len bs 1 8 (fun _ _ => rfl)]; rfl
    rw [hl] at hk
    rw [many1]
    dsimp only
    split
    · refine (hk.trans (gets_kept 1 (.inl rfl) n _)).mono ?_
      rw [show (8 : Int) / 1 = 8 from rfl]; omega
    · exact hk.mono (by omega)
  · dsimp only at hla hcl hr0 hr1
    subst hla
    subst hcl
    obtain ⟨n, rfl⟩ : ∃ n : Nat, rd = (n : Int) := ⟨rd.toNat, by omega⟩
    have hl : (Ph.says ⟨4, bs, 0, n⟩).length = bs.length * 2 := by unfold Ph.says; rw [List.length_append, flat_len bs 4 2 (fun _ _ => rfl)]; rfl
    rw [hl] at hk
    rw [many4]
    dsimp only
    split
    · refine (hk.trans (gets_kept 4 (.inr rfl) n _)).mono ?_
      rw [show (8 : Int) / 4 = 2 from rfl]; omega
    · exact hk.mono (by omega)
  · dsimp only at hla hbs hrd hc0 hc1
    subst hla
    subst hbs
    subst hrd
    have hl : (Ph.says ⟨0, [], cl, 0⟩).length = cl.toNat := by unfold Ph.says; simp
    rw [hl] at hk
    rw [many0]
    dsimp only
    split
    · exact hk.mono (by omega)
    · exact hk.mono (by omega)
theorem phases_kept (ps : List Ph) : ∀ d : Drv, ps.all Ph.may = true → d.Kept (d.phases ps).1 (phsMany ps) := by
  have key : ∀ (ps : List Ph) (k : Int), ps.foldl (fun k p => k + p.many) k = k + phsMany ps := by
    intro ps
    unfold phsMany
    induction ps with
    | nil => intro k; simp
    | cons p ps ih => intro k; rw [List.foldl_cons, ih, List.foldl_cons, ih (0 + p.many)]; omega
  induction ps with
  | nil => intro d _; exact Drv.Kept.refl d
  | cons p ps ih =>
    intro d h
    rw [List.all_cons, Bool.and_eq_true] at h
    have h1 := phase_kept d p h.1
    have e : phsMany (p :: ps) = p.many + phsMany ps := by
      show (p :: ps).foldl (fun k p => k + p.many) 0 = _
      rw [List.foldl_cons, key]; omega
    rw [Drv.phases, e]
    split
    · exact h1.trans (ih _ h.2)
    · exact h1.mono (by have := (phsMany_bd ps h.2).1; omega)
end Go.Proofs.YteombggfmeilaaaGreat
namespace Go.Proofs.YteombggfmeilaaaGreat
open Go.RowKit
/-- The driver is given up; what was read stays, as a row. -/
theorem DCtx.done {g b : Nat} {d : Drv} {N0 : Int} {Q : Own} {w0 w : World} {rows : List (Value × List Value)} (h : DCtx g b d N0 Q w0 w rows) (hl : d.out.length ≤ 1048576) {v : Value} (hc : w.cell? ⟨g, 1, none⟩ = some v) : Ctx (ChipP b d.s (N0 + d.clocks)) Q w0 w ((v, ints d.out) :: rows) := by
  obtain ⟨S, ⟨A, D, hA, ⟨B, C, hB, hC, d1, e1⟩, d2, e2⟩, h2, h3⟩ := h.ctx.all
  obtain ⟨ov, b1, b2, b3, b4⟩ := hB
  have hc1 := b1.cell 1
  rw [hc] at hc1
  simp only [List.getElem?_cons_succ, List.getElem?_cons_zero, Option.some.injEq] at hc1
  subst hc1
  refine ⟨h.ctx.okP, h.okQ, h.ctx.upd, fun k => A k ∨ C k, ⟨A, C, hA, hC, fun k ha hc => d2 k ha ((e1 k).2 (.inr hc)), fun _ => Iff.rfl⟩, fun k hk => h2 k ((e2 k).2 (hk.imp id fun hc => (e1 k).2 (.inr hc))), fun r hr => ?_⟩
  rcases List.mem_cons.1 hr with rfl | hr
  · refine ⟨b2.rs (by rw [ints_len]; exact hl), fun k hk => ⟨b2.lt k hk, ?_⟩, fun k hk _ => b2.mk k hk⟩
    have hb := (b4 k).2 (.inr hk)
    rintro (h | h)
    · exact d2 k h ((e1 k).2 (.inl hb))
    · exact d1 k hb h
  · exact ⟨(h3 r hr).1, fun k hk => ⟨((h3 r hr).2.1 k hk).1, fun hs => ((h3 r hr).2.1 k hk).2 ((e2 k).2 (hs.imp id fun hc => (e1 k).2 (.inr hc)))⟩, (h3 r hr).2.2⟩
/-- The driver, just made. -/
theorem DCtx.make {b : Nat} {s : St} {N0 most : Int} {Q : Own} {w0 w : World} {rows : List (Value × List Value)} (hQ : Q.Ok) (h : Ctx (ChipP b s N0) Q w0 w rows) (hn : 0 ≤ N0) (hm : i64B most) :
    DCtx w.heap.size b ⟨s, [], 0, most⟩ N0 Q w0 (w.alloc (.cells #[.pointer (some ⟨b, 0, none⟩), .slice none 0 0, .int .i64 0, .int .i64 most] 160)) rows := by
  refine ⟨?_, hQ, hn, Int.le_refl 0, hm⟩
  have hu := (Upd.refl none' w).alloc (.cells #[.pointer (some ⟨b, 0, none⟩), .slice none 0 0, .int .i64 0, .int .i64 most] 160)
  have h0 : Ctx (ChipP b s (N0 + 0)) Q w0 w rows := by rw [Int.add_zero]; exact h
  refine h0.add2 (drvC_ok w.heap.size b ⟨s, [], 0, most⟩) hu (B := fun k => k = w.heap.size) ⟨.slice none 0 0, Blk.new w [.pointer (some ⟨b, 0, none⟩), .slice none 0 0, .int .i64 0, .int .i64 most] _, Row.nil _ _, fun k hk => by simp [Value.ownBlock] at hk, fun k => ⟨fun h => .inl h, fun h => h.elim id fun e => by simp [Value.ownBlock] at e⟩⟩ (fun k hk => by omega)
theorem results_tmp4 {fn : Func} {t u v x : Tmp} (h : fn.results = #[.tmp t, .tmp u, .tmp v, .tmp x]) (tmps : Array Value) (P : Program) (w : World) :
    (results fn tmps).run P w = .ok (.tuple #[tmps.getD t undef, tmps.getD u undef, tmps.getD v undef, tmps.getD x undef]) w := by
  simp [results, h]
set_option maxRecDepth 100000 in
set_option maxHeartbeats 4000000 in
theorem c_drive {Q : Own} {w0 w : World} {b : Nat} {s : St} {N : Int} {rows : List (Value × List Value)} (hQ : Q.Ok) (hC : Ctx (ChipP b s N) Q w0 w rows) (hN : 0 ≤ N) (hsel : s.sel = false) (a : Option Addr) (n cap : Nat) (L : List (Ph × Value)) (hP : PhsV rows (.slice a n cap) L) (most : Int) (hmr : i64B most)
    (hall : L.all (fun x => x.1.may) = true) (hroom : N + phsMany (L.map Prod.fst) ≤ 1048575 ∨ (0 ≤ most ∧ N + most ≤ 1048575)) (d : Drv) (whole : Bool) (hd : Drv.phases ⟨s.select, [], 0, most⟩ (L.map Prod.fst) = (d, whole)) :
    Calls Tryz.prog 40 #[.pointer (some ⟨b, 0, none⟩), .slice a n cap, .int .i64 most] w fun e w' => ∃ oa oc, e = .returned (.tuple #[.slice oa d.out.length oc, .int .i64 d.clocks, .bool whole, .int .i64 0]) ∧ Ctx (ChipP b (if whole then d.s.deselect else d.s) (N + d.clocks + 1)) Q w0 w' ((.slice oa d.out.length oc, ints d.out) :: rows) := by
  obtain ⟨rfl, hcap⟩ : n = L.length ∧ n ≤ cap := by
    obtain ⟨a', cap', e, hc, _⟩ := hP
    simp only [Value.slice.injEq] at e
    obtain ⟨rfl, rfl, rfl⟩ := e
    exact ⟨rfl, hc⟩
  have hll := phs_len hP
  have HALL := Lib.hid hall
  have hmap : (L.map Prod.fst).all Ph.may = true := by rw [map_all]; exact hall
  have HROOM : Hid (∀ (i : Nat) (e : Drv), (Drv.mk s.select [] 0 most).Kept e (phsMany ((L.take i).map Prod.fst)) → i ≤ L.length → (∀ hi : i < L.length, e.room N L[i].1.many) ∧ e.out.length ≤ 1048000 ∧ 0 ≤ e.clocks ∧ N + e.clocks ≤ 1048575 ∧ e.s.sel = true) := Lib.hid (by
    intro i e hk hi
    have hk1 := hk.most
    have hk2 := hk.sel
    have hk3 := hk.up
    have hk4 := hk.many
    have hk5 := hk.within
    have hk6 := hk.outs
    dsimp only at hk1 hk2 hk3 hk4 hk5 hk6
    simp only [List.length_nil] at hk6
    have hsplit : phsMany (L.map Prod.fst) = phsMany ((L.take i).map Prod.fst) + phsMany ((L.drop i).map Prod.fst) := by
      conv => lhs; rw [← List.take_append_drop i L]
      rw [List.map_append]
      unfold phsMany
      rw [List.foldl_append]
      generalize ((L.take i).map Prod.fst).foldl (fun k p => k + Ph.many p) 0 = z
      induction ((L.drop i).map Prod.fst) generalizing z with
      | nil => simp
      | cons p ps ih => rw [List.foldl_cons, List.foldl_cons, ih, ih (0 + p.many)]; omega
    have hdr : ((L.drop i).map Prod.fst).all Ph.may = true := by
      rw [map_all, List.all_eq_true]
      intro x hx
      exact List.all_eq_true.1 hall x (List.mem_of_mem_drop hx)
    have hge := (phsMany_bd _ hdr).1
    have hbd : N + e.clocks ≤ 1048575 := by
      rcases hroom with h | ⟨h0, h1⟩
      · omega
      · have := hk5 h0 h0; omega
    refine ⟨fun hlt => ?_, by omega, hk3, hbd, hk2.trans (select_sel s)⟩
    unfold Drv.room
    rcases hroom with h | ⟨h0, h1⟩
    · left
      rw [List.drop_eq_getElem_cons hlt, List.map_cons] at hsplit hdr hge
      rw [List.all_cons, Bool.and_eq_true] at hdr
      have hge2 := (phsMany_bd _ hdr.2).1
      have e2 : phsMany (L[i].1 :: (L.drop (i + 1)).map Prod.fst) = L[i].1.many + phsMany ((L.drop (i + 1)).map Prod.fst) := by
        unfold phsMany
        rw [List.foldl_cons]
        generalize (L.drop (i + 1)).map Prod.fst = ps
        have key : ∀ (ps : List Ph) (k : Int), ps.foldl (fun k p => k + p.many) k = k + ps.foldl (fun k p => k + p.many) 0 := by
          intro ps
          induction ps with
          | nil => intro k; simp
          | cons p ps ih => intro k; rw [List.foldl_cons, ih, List.foldl_cons, ih (0 + p.many)]; omega
        rw [key]; omega
      omega
    · right; rw [hk1]; omega)
  have HMAP := Lib.hid hmap
  have HP := Lib.hid hP
  have HC := Lib.hid hC
  have HD := Lib.hid hd
  have hcl := wire_clocks hC a L.length cap L hP
  rw [show clocksE L = 0 from by unfold clocksE; rw [if_pos hall]] at hcl
  have HCL := Lib.hid hcl
  clear hP hC hall hmap hroom hcl hd
  go_enter Tryz.func40, Tryz.ntmps40
  go_wp2_with (first | (go_at_call 41; refine HCL.out.mono ?_; rintro e w1 ⟨rfl, hC1⟩) | (go_at_call 17; refine (c_select hC1 hsel s.select rfl).mono ?_; rintro e w2 ⟨rfl, hC2⟩))
  have h0 := DCtx.make hQ hC2 hN hmr
  obtain ⟨d0, hd0⟩ : ∃ d0, (Drv.mk s.select [] 0 most) = d0 := ⟨_, rfl⟩
  rw [hd0] at HROOM HD h0
  have HQ := Lib.hid hQ
  have H0 := Lib.hid h0
  obtain ⟨g, hg⟩ : ∃ g, w2.heap.size = g := ⟨_, rfl⟩
  rw [hg] at H0 ⊢
  generalize w2.alloc (.cells #[.pointer (some ⟨b, 0, none⟩), .slice none 0 0, .int .i64 0, .int .i64 most] 160) = W at *
  clear h0 hC2 hC1 hg hQ
  go_loopw [34] (fun iv wr => ∃ i : Nat, i ≤ L.length ∧ iv = .int .i64 (i : Int) ∧ Hid ((d0.phases ((L.take i).map Prod.fst)).2 = true) ∧ DCtx g b (d0.phases ((L.take i).map Prod.fst)).1 N Q w0 wr rows) (fun iv _ => L.length - (intOf iv).toNat)
  case atStart => exact ⟨0, by omega, rfl, Lib.hid rfl, H0.out⟩
  case round =>
    clear H0
    rename World => W2
    obtain ⟨i, hi, rfl, hok, hD⟩ := hrel
    have hallt : ((L.take i).map Prod.fst).all Ph.may = true := by
      rw [map_all, List.all_eq_true]
      intro x hx
      exact List.all_eq_true.1 HALL.out x (List.mem_of_mem_take hx)
    obtain ⟨hrm, hol, hck, hcn, hse⟩ := HROOM.out i _ (phases_kept _ d0 hallt) hi
    by_cases hlt : i < L.length
    · obtain ⟨-, -, gp, op, rfl, -⟩ := phs_cells hD.ctx HP.out i hlt
      have hm1 : L[i].1.may = true := List.all_eq_true.1 HALL.out _ (List.getElem_mem hlt)
      have hph := d_phase hD gp op L.length cap L HP.out i hlt hm1 hol (hrm hlt)
      obtain ⟨p, hp⟩ : ∃ p, L[i].1 = p := ⟨_, rfl⟩
      rw [hp] at hph hm1
      have HT : Hid ((L.take (i + 1)).map Prod.fst = (L.take i).map Prod.fst ++ [p]) := Lib.hid (by rw [take_el L i hlt, List.map_append, ← hp]; rfl)
      have HT2 : Hid (L.map Prod.fst = ((L.take i).map Prod.fst ++ [p]) ++ (L.drop (i + 1)).map Prod.fst) := Lib.hid (by rw [← HT.out, ← List.map_append, List.take_append_drop])
      obtain ⟨di, hdi⟩ : ∃ di, (d0.phases ((L.take i).map Prod.fst)).1 = di := ⟨_, rfl⟩
      rw [hdi] at hph
      have HPA : Hid (d0.phases ((L.take i).map Prod.fst ++ [p]) = di.phase p) := Lib.hid (by
        rw [phases_app, hok.out, hdi]
        simp only [if_true, Drv.phases]
        by_cases h : (di.phase p).2 = true
        · rw [if_pos h, ← h]
        · rw [if_neg h]
          have h2 : (di.phase p).2 = false := by simpa using h
          rw [← h2])
      have HPH := Lib.hid hph
      clear hph hdi hD hok hp hol hck hcn hse hallt
      cases hf : (di.phase p).2 with
      | false =>
        rw [hf] at HPH
        have HDD : Hid (d = (di.phase p).1 ∧ whole = false) := Lib.hid (by
          have h1 := HD.out
          have hf2 : (d0.phases ((L.take i).map Prod.fst ++ [p])).2 = false := by rw [HPA.out]; exact hf
          rw [HT2.out, phases_app, hf2] at h1
          simp only [Bool.false_eq_true, if_false, HPA.out] at h1
          rw [h1] at hf ⊢
          exact ⟨rfl, hf⟩)
        obtain ⟨rfl, rfl⟩ := HDD.out
        have hal2 : ((L.take (i + 1)).map Prod.fst).all Ph.may = true := by
          rw [map_all, List.all_eq_true]
          intro x hx
          exact List.all_eq_true.1 HALL.out x (List.mem_of_mem_take hx)
        obtain ⟨-, hol2, -, -, -⟩ := HROOM.out (i + 1) (di.phase p).1 (by have := phases_kept _ d0 hal2; rw [HT.out, HPA.out] at this; rw [HT.out]; exact this) (by omega)
        have HOL := Lib.hid hol2
        clear hf HPA HT HT2 HDD hal2 hol2 hrm HD HROOM
        go_upto_region 11 with (go_at_call 119; refine HPH.out.mono ?_; rintro e w3 ⟨rfl, hD3⟩; obtain ⟨oa, oc, c0, c1, c2, -⟩ := hD3.cells)
        have HFIN := Lib.hid ((hD3.done (by have := HOL.out; omega) c1).frame (Upd.refl none' _).drew)
        clear hD3 c0
        go_region
        all_goals
          go_wp2
          (try simp only [Exit.inBlock, Exit.then])
          refine bodyPost_ret (results_tmp4 rfl _ _ _) rfl ?_
          exact ⟨oa, oc, rfl, HFIN.out.up (by omega)⟩
      | true =>
        rw [hf] at HPH
        have HPA2 : Hid (d0.phases ((L.take (i + 1)).map Prod.fst) = di.phase p) := Lib.hid (by rw [HT.out, HPA.out])
        have HF := Lib.hid hf
        clear hf HPA HT HT2 hrm
        go_wp2_with (go_at_call 119; refine HPH.out.mono ?_; rintro e w3 ⟨rfl, hD3⟩)
        refine ⟨?rel, ?measure⟩
        case rel =>
          refine ⟨i + 1, by omega, by go_num, Lib.hid (by rw [HPA2.out]; exact HF.out), ?_⟩
          rw [HPA2.out]
          exact hD3
        case measure => simp [intOf]; omega
    · obtain rfl : i = L.length := by omega
      rw [List.take_length] at hok hD hol hck hcn hse
      have h1 := HD.out
      obtain ⟨di, hdi⟩ : ∃ di, (d0.phases (L.map Prod.fst)).1 = di := ⟨_, rfl⟩
      rw [h1] at hok hdi
      dsimp only at hok hdi
      subst hdi
      obtain rfl : whole = true := hok.out
      rw [h1] at hD hol hck hcn hse
      dsimp only at hD hol hck hcn hse
      have HOL := Lib.hid hol
      have HD2 := Lib.hid hD
      have hds := c_deselect hD.ctx hse (by omega) d.s.deselect rfl
      have HDS := Lib.hid hds
      clear hD hol hck hok h1 hds hrm hallt HD HROOM
      go_upto_region 14 with (go_at_call 19; refine HDS.out.mono ?_; rintro e w3 ⟨rfl, hC3⟩)
      have hD3 : DCtx g b { d with s := d.s.deselect } (N + 1) Q w0 w3 rows := ⟨by rw [show N + 1 + d.clocks = N + d.clocks + 1 by omega]; exact hC3, HQ.out, by omega, HD2.out.clocks, HD2.out.mostR⟩
      obtain ⟨oa, oc, c0, c1, c2, -⟩ := hD3.cells
      dsimp only at c1 c2
      have HFIN := Lib.hid ((hD3.done (by have := HOL.out; dsimp only; omega) c1).frame (Upd.refl none' _).drew)
      clear hD3 c0 hC3
      go_region
      all_goals
        go_wp2
        (try simp only [Exit.inBlock, Exit.then])
        refine bodyPost_ret (results_tmp4 rfl _ _ _) rfl ?_
        exact ⟨oa, oc, rfl, HFIN.out.up (by omega)⟩
set_option maxHeartbeats 2000000 in
/-- Phases that may not be. -/
theorem c_drive_no {P Q : Own} {w0 w : World} {b : Nat} {rows : List (Value × List Value)} (hC : Ctx P Q w0 w rows) (a : Option Addr) (n cap : Nat) (L : List (Ph × Value)) (hP : PhsV rows (.slice a n cap) L) (most : Int) (hall : L.all (fun x => x.1.may) = false) :
    Calls Tryz.prog 40 #[.pointer (some ⟨b, 0, none⟩), .slice a n cap, .int .i64 most] w fun e w' => e = .returned (.tuple #[.slice none 0 0, .int .i64 0, .bool false, .int .i64 1000]) ∧ Ctx P Q w0 w' rows := by
  have hcl := wire_clocks hC a n cap L hP
  rw [show clocksE L = 1000 from by unfold clocksE; rw [hall]; rfl] at hcl
  have HCL := Lib.hid hcl
  clear hcl hall hP hC
  go_enter Tryz.func40, Tryz.ntmps40
  go_wp2_with (go_at_call 41; refine HCL.out.mono ?_; rintro e w1 ⟨rfl, hC1⟩)
  (try simp only [Exit.inBlock, Exit.then])
  refine bodyPost_ret (results_tmp4 rfl _ _ _) rfl ?_
  exact ⟨rfl, hC1⟩
set_option maxHeartbeats 2000000 in
/-- A chip that is selected. -/
theorem c_drive_sel {Q : Own} {w0 w : World} {b : Nat} {s : St} {N : Int} {rows : List (Value × List Value)} (hC : Ctx (ChipP b s N) Q w0 w rows) (hsel : s.sel = true) (a : Option Addr) (n cap : Nat) (L : List (Ph × Value)) (hP : PhsV rows (.slice a n cap) L) (most : Int) :
    Calls Tryz.prog 40 #[.pointer (some ⟨b, 0, none⟩), .slice a n cap, .int .i64 most] w fun e w' => e = .returned (.tuple #[.slice none 0 0, .int .i64 0, .bool false, .int .i64 1000]) ∧ Ctx (ChipP b s N) Q w0 w' rows := by
  cases hall : L.all (fun x => x.1.may) with
  | false => exact c_drive_no hC a n cap L hP most hall
  | true =>
    have hcl := wire_clocks hC a n cap L hP
    rw [show clocksE L = 0 from by unfold clocksE; rw [hall]; rfl] at hcl
    have HCL := Lib.hid hcl
    clear hcl hall hP hC
    have hno : ∀ w1, Ctx (ChipP b s N) Q w0 w1 rows → Calls Tryz.prog 17 #[.pointer (some ⟨b, 0, none⟩)] w1 fun e w' => e = .returned (.int .i64 600) ∧ w1 = w' := by
      intro w1 hC1
      obtain ⟨S, ⟨A, B, hA, _⟩, _⟩ := hC1.all
      exact chip_select_no b s A w1 hA.1 hsel
    have HNO := Lib.hid hno
    clear hno
    go_enter Tryz.func40, Tryz.ntmps40
    go_wp2_with (first | (go_at_call 41; refine HCL.out.mono ?_; rintro e w1 ⟨rfl, hC1⟩) | (go_at_call 17; refine (HNO.out _ hC1).mono ?_; rintro e w2 ⟨rfl, hE⟩))
    (try simp only [Exit.inBlock, Exit.then])
    refine bodyPost_ret (results_tmp4 rfl _ _ _) rfl ?_
    exact ⟨rfl, by subst hE; exact hC1⟩
/-- No chip. -/
theorem drive_nil (v : Value) (most : Int) (w : World) :
    Calls Tryz.prog 40 #[.pointer none, v, .int .i64 most] w fun e w' => e = .returned (.tuple #[.slice none 0 0, .int .i64 0, .bool false, .int .i64 1]) ∧ w = w' := by
  go_enter Tryz.func40, Tryz.ntmps40
  go_wp2
  (try simp only [Exit.inBlock, Exit.then])
  refine bodyPost_ret (results_tmp4 rfl _ _ _) rfl ?_
  exact ⟨rfl, rfl⟩
end Go.Proofs.YteombggfmeilaaaGreat
