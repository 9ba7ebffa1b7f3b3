/- The document's phaseMay and Clocks. · The document's Clocks. · The document's Drive. -/
import Derived.Test.YtepnljeojlbliaaGreatRdF
namespace Go.Proofs.YtepnljeojlbliaaGreat
open Go.RowKit
theorem rmay_some (la cl rd : Int) (bs : List Int) (h : bs ≠ []) : Ph.may ⟨la, bs, cl, rd⟩ = (lanesB la && decide (cl = 0) && decide (rd = 0) && decide ((bs.length : Int) ≤ 512) && bs.all byteB) := by
  have e : decide ((bs.length : Int) ≤ 512) = decide (bs.length ≤ 512) := by congr 1; apply propext; omega
  rw [e]
  unfold Ph.may
  dsimp only
  rw [if_pos h]
  cases lanesB la <;> cases decide (cl = 0) <;> cases decide (rd = 0) <;> cases decide (bs.length ≤ 512) <;> cases bs.all byteB <;> rfl
theorem rmay_clocks (la cl rd : Int) (h : cl ≠ 0) : Ph.may ⟨la, [], cl, rd⟩ = (decide (la = 0) && decide (rd = 0) && decide (1 ≤ cl ∧ cl ≤ 400)) := by
  by_cases hr : rd = 0
  · subst hr
    rw [may_none]
    cases decide (la = 0) <;> rfl
  · rw [may_read la cl rd hr, decide_eq_false h, decide_eq_false hr]
    simp
theorem rmay_read (la rd : Int) : Ph.may ⟨la, [], 0, rd⟩ = (lanesB la && decide (1 ≤ rd ∧ rd ≤ 512)) := by
  by_cases hr : rd = 0
  · subst hr
    rw [may_none]
    simp
  · rw [may_read la 0 rd hr]
    simp
set_option maxRecDepth 100000 in
set_option maxHeartbeats 4000000 in
theorem ref_phmay (w : World) (p : Ph) (bv : Value) (hr : RS w bv (ints p.bytes)) :
    Calls Tryz.prog 121 #[.agg #[.int .i64 p.lanes, bv, .int .i64 p.clocks, .int .i64 p.read]] w fun e w' => e = .returned (.bool p.may) ∧ Upd none' w w' := by
  obtain ⟨la, bs, cl, rd⟩ := p
  dsimp only at hr ⊢
  have hr2 := hr.upd ((Upd.refl none' w).alloc (.cells #[.int .i64 la, bv, .int .i64 cl, .int .i64 rd] 156)) (fun _ _ _ f => f)
  obtain ⟨_, a, cap, rfl, -⟩ := hr
  rw [ints_len] at hr2 ⊢
  have hby := rbytes _ _ bs hr2
  obtain ⟨M, hM⟩ : ∃ M, Ph.may ⟨la, bs, cl, rd⟩ = M := ⟨_, rfl⟩
  rw [hM]
  clear hr2
  have hlan : (la = 1 ∧ lanesB la = true ∧ (la == 1) = true ∧ (la == 4) = false) ∨ (la = 4 ∧ lanesB la = true ∧ (la == 1) = false ∧ (la == 4) = true) ∨ (lanesB la = false ∧ (la == 1) = false ∧ (la == 4) = false) := by
    by_cases h1 : la = 1
    · subst h1; exact .inl ⟨rfl, rfl, rfl, rfl⟩
    · by_cases h4 : la = 4
      · subst h4; exact .inr (.inl ⟨rfl, rfl, rfl, rfl⟩)
      · exact .inr (.inr ⟨by unfold lanesB; simp [h1, h4], by simpa using h1, by simpa using h4⟩)
  by_cases hb : bs = []
  · subst hb
    clear hby
    by_cases hc : cl = 0
    · subst hc
      have hm := Lib.hid (hM.symm.trans (rmay_read la rd))
      clear hM
      rcases hlan with ⟨rfl, hl, -, -⟩ | ⟨rfl, hl, -, -⟩ | ⟨hl, h2, h4⟩
      all_goals
        by_cases c1 : rd ≥ 1 <;> by_cases c2 : rd ≤ 512
        all_goals (try (exfalso; omega))
        all_goals
          go_enter Tryz.func121, Tryz.ntmps121
          go_wp2
          go_ret
          exact ⟨by rw [hm.out]; simp [*], (Upd.refl none' w).alloc _⟩
    · have hm := Lib.hid (hM.symm.trans (rmay_clocks la cl rd hc))
      have hc2 : (cl == 0) = false := by simpa using hc
      clear hM hc
      by_cases c0 : la = 0
      · subst c0
        clear hlan
        by_cases c1 : rd = 0
        · subst c1
          by_cases c2 : cl ≥ 1 <;> by_cases c3 : cl ≤ 400
          all_goals (try (exfalso; omega))
          all_goals
            go_enter Tryz.func121, Tryz.ntmps121
            go_wp2
            go_ret
            exact ⟨by rw [hm.out]; simp [*], (Upd.refl none' w).alloc _⟩
        · have b1 : (rd == 0) = false := by simpa using c1
          go_enter Tryz.func121, Tryz.ntmps121
          go_wp2
          go_ret
          exact ⟨by rw [hm.out]; simp [*], (Upd.refl none' w).alloc _⟩
      · have b0 : (la == 0) = false := by simpa using c0
        rcases hlan with ⟨rfl, hl, -, -⟩ | ⟨rfl, hl, -, -⟩ | ⟨hl, h2, h4⟩
        all_goals
          go_enter Tryz.func121, Tryz.ntmps121
          go_wp2
          go_ret
          exact ⟨by rw [hm.out]; simp [*], (Upd.refl none' w).alloc _⟩
  · have hm := Lib.hid (hM.symm.trans (rmay_some la cl rd bs hb))
    have hpos := List.length_pos_iff.2 hb
    clear hb hM
    generalize bs.all byteB = b3 at hm hby
    generalize bs.length = n at *
    have hn0 : (n : Int) > 0 := by omega
    rcases hlan with ⟨rfl, hl, -, -⟩ | ⟨rfl, hl, -, -⟩ | ⟨hl, h2, h4⟩
    rotate_right
    · clear hby
      go_enter Tryz.func121, Tryz.ntmps121
      go_wp2
      go_ret
      exact ⟨by rw [hm.out]; simp [*], (Upd.refl none' w).alloc _⟩
    all_goals
      by_cases c0 : cl = 0
      rotate_left
      · have b0 : (cl == 0) = false := by simpa using c0
        clear hby
        go_enter Tryz.func121, Tryz.ntmps121
        go_wp2
        go_ret
        exact ⟨by rw [hm.out]; simp [*], (Upd.refl none' w).alloc _⟩
      · subst c0
        by_cases c1 : rd = 0
        rotate_left
        · have b1 : (rd == 0) = false := by simpa using c1
          clear hby
          go_enter Tryz.func121, Tryz.ntmps121
          go_wp2
          go_ret
          exact ⟨by rw [hm.out]; simp [*], (Upd.refl none' w).alloc _⟩
        · subst c1
          by_cases c2 : (n : Int) ≤ 512
          · go_enter Tryz.func121, Tryz.ntmps121
            go_wp2_with (go_at_call 169; refine hby.mono ?_; rintro e w1 ⟨rfl, rfl⟩)
            go_ret
            exact ⟨by rw [hm.out]; simp [*], (Upd.refl none' w).alloc _⟩
          · clear hby
            go_enter Tryz.func121, Tryz.ntmps121
            go_wp2
            go_ret
            exact ⟨by rw [hm.out]; simp [*] <;> (intros; omega), (Upd.refl none' w).alloc _⟩
end Go.Proofs.YtepnljeojlbliaaGreat
namespace Go.Proofs.YtepnljeojlbliaaGreat
open Go.RowKit
set_option maxRecDepth 100000 in
set_option maxHeartbeats 4000000 in
theorem ref_clocksP {P Q : Own} {w0 w : World} {rows : List (Value × List Value)} (hC : Ctx P Q w0 w rows) (a : Option Addr) (n cap : Nat) (L : List (Ph × Value)) (hP : PhsV rows (.slice a n cap) L) :
    Calls Tryz.prog 43 #[.slice a n cap] w fun e w' => e = .returned (.tuple #[.int .i64 (clocksV L), .int .i64 (clocksE L)]) ∧ Ctx P Q w0 w' rows := by
  obtain ⟨rfl, hcap⟩ : n = L.length ∧ n ≤ cap := by
    obtain ⟨a', cap', e, hc, _⟩ := hP
    simp only [Value.slice.injEq] at e
    obtain ⟨rfl, rfl, rfl⟩ := e
    exact ⟨rfl, hc⟩
  have hll := phs_len hP
  have HP := Lib.hid hP
  have HC := Lib.hid hC
  clear hP hC
  go_enter Tryz.func43, Tryz.ntmps43
  go_wp2_with fail
  go_loopw [4, 5] (fun ov iv wr => ∃ i : Nat, i ≤ L.length ∧ iv = .int .i64 (i : Int) ∧ ov = .int .i64 (phsMany ((L.take i).map Prod.fst)) ∧ Hid ((L.take i).all (fun x => x.1.may) = true) ∧ Ctx P Q w0 wr rows) (fun _ iv _ => L.length - (intOf iv).toNat)
  case atStart => exact ⟨0, by omega, rfl, rfl, Lib.hid rfl, HC.out⟩
  case round =>
    rename World => W2
    obtain ⟨i, hi, rfl, rfl, hall, hC2⟩ := hrel
    have hbd := phsMany_bd ((L.take i).map Prod.fst) (by rw [map_all]; exact hall.out)
    rw [List.length_map, List.length_take, Nat.min_eq_left hi] at hbd
    by_cases hlt : i < L.length
    · obtain ⟨-, -, g, o, rfl, hg, k0, k1, k2, k3⟩ := phs_cells hC2 HP.out i hlt
      obtain ⟨ba, bc, hbv, hbm, hbl⟩ := phs_bytes HP.out i hlt
      have hbm := hbm hC2
      rw [hbv] at k1
      have HF := Lib.hid (all_false L (fun x => x.1.may) i hlt)
      have HT := Lib.hid (take_el L i hlt)
      obtain ⟨p, hp⟩ : ∃ p, L[i].1 = p := ⟨_, rfl⟩
      have HT2 : Hid ((L.take (i + 1)).map Prod.fst = (L.take i).map Prod.fst ++ [p]) := Lib.hid (by rw [HT.out, List.map_append, ← hp]; rfl)
      have HT3 : Hid (p.may = true → (L.take (i + 1)).all (fun x => x.1.may) = true) := Lib.hid (fun h => by rw [HT.out, List.all_append, hall.out, ← hp] at *; simp [h])
      have HF2 : Hid (p.may = false → L.all (fun x => x.1.may) = false) := Lib.hid (fun h => HF.out (by rw [hp]; exact h))
      rw [hp] at k0 k1 k2 k3 hbm hbl
      clear hbv HF HT hp
      obtain ⟨S, hS⟩ : ∃ S, phsMany ((L.take i).map Prod.fst) = S := ⟨_, rfl⟩
      have HSN : Hid (phsMany ((L.take (i + 1)).map Prod.fst) = S + p.many) := Lib.hid (by rw [HT2.out, many_snoc, hS])
      rw [hS] at hbd ⊢
      clear hS HT2
      have hmay := ref_phmay _ p _ hbm
      have HC2 := Lib.hid hC2
      have HM := Lib.hid hmay
      have HCELL : Hid (∀ w', Upd none' W2 w' → w'.cell? ⟨g, o + i * 4, none⟩ = some (.int .i64 p.lanes) ∧ w'.cell? ⟨g, o + i * 4 + 1, none⟩ = some (.slice ba p.bytes.length bc) ∧ w'.cell? ⟨g, o + i * 4 + 2, none⟩ = some (.int .i64 p.clocks) ∧ w'.cell? ⟨g, o + i * 4 + 3, none⟩ = some (.int .i64 p.read)) := Lib.hid (fun w' u => ⟨(u.cell (p := ⟨g, o + i * 4, none⟩) hg (fun f => f)).trans k0, (u.cell (p := ⟨g, o + i * 4 + 1, none⟩) hg (fun f => f)).trans k1, (u.cell (p := ⟨g, o + i * 4 + 2, none⟩) hg (fun f => f)).trans k2, (u.cell (p := ⟨g, o + i * 4 + 3, none⟩) hg (fun f => f)).trans k3⟩)
      clear hC2 hbm hmay
      cases hm : p.may with
      | false =>
        rw [hm] at HM
        have hres := HF2.out hm
        have HR := Lib.hid hres
        clear hres
        go_wp2_with (go_at_call 121; refine HM.out.mono ?_; rintro e w2 ⟨rfl, hU2⟩)
        go_ret2
        exact ⟨by unfold clocksV clocksE; rw [HR.out]; rfl, HC2.out.frame hU2⟩
      | true =>
        rw [hm] at HM
        have HF := Lib.hid (may_facts hm)
        have HMB := Lib.hid (many_bd hm)
        have HAL := Lib.hid (HT3.out hm)
        obtain ⟨la, bs, cl, rd⟩ := p
        dsimp only at *
        rcases HF.out with ⟨hla | hla, hcl, hbl2, hr0, hr1, -⟩ | ⟨hla, hbs, hrd, hc0, hc1⟩
        · subst hla
          subst hcl
          have hmn := many1 bs rd
          rw [hmn] at HSN
          go_upto_region 9 with (go_at_call 121; refine HM.out.mono ?_; rintro e w2 ⟨rfl, hU2⟩; obtain ⟨c0, c1, c2, c3⟩ := HCELL.out w2 hU2)
          go_region
          all_goals
            go_wp2
            refine ⟨?rel, ?measure⟩
            case rel => exact ⟨i + 1, by omega, by go_num, by rw [HSN.out], Lib.hid HAL.out, (HC2.out.frame hU2).frame (Upd.refl none' _).drew⟩
            case measure => simp [intOf]; omega
        · subst hla
          subst hcl
          have hmn := many4 bs rd
          rw [hmn] at HSN
          go_upto_region 9 with (go_at_call 121; refine HM.out.mono ?_; rintro e w2 ⟨rfl, hU2⟩; obtain ⟨c0, c1, c2, c3⟩ := HCELL.out w2 hU2)
          go_region
          all_goals
            go_wp2
            refine ⟨?rel, ?measure⟩
            case rel => exact ⟨i + 1, by omega, by go_num, by rw [HSN.out, show (((bs.length : Int) + rd) * 8) / 4 = ((bs.length : Int) + rd) * 2 by omega], Lib.hid HAL.out, (HC2.out.frame hU2).frame (Upd.refl none' _).drew⟩
            case measure => simp [intOf]; omega
        · subst hla
          subst hbs
          subst hrd
          rw [many0] at HSN
          have hc0' : cl > 0 := by omega
          go_wp2_with (go_at_call 121; refine HM.out.mono ?_; rintro e w2 ⟨rfl, hU2⟩; obtain ⟨c0, c1, c2, c3⟩ := HCELL.out w2 hU2)
          refine ⟨?rel, ?measure⟩
          case rel => exact ⟨i + 1, by omega, by go_num, by rw [HSN.out], Lib.hid HAL.out, HC2.out.frame hU2⟩
          case measure => simp [intOf]; omega
    · have hie : i = L.length := by omega
      subst hie
      have ha := hall.out
      rw [List.take_length] at ha ⊢
      have HA := Lib.hid ha
      clear ha
      go_wp2
      go_ret2
      exact ⟨by unfold clocksV clocksE; rw [HA.out]; rfl, hC2⟩
end Go.Proofs.YtepnljeojlbliaaGreat
namespace Go.Proofs.YtepnljeojlbliaaGreat
open Go.RowKit
theorem rphase_kept (p : Drv × Bool) (q : Ph) (h : q.may = true) : p.1.Kept (rphase p q).1 q.many := by
  obtain ⟨d, c⟩ := p
  cases c with
  | true => exact (Drv.Kept.refl d).mono (many_bd h).1
  | false => exact phase_kept d q h
theorem rphases_kept (qs : List Ph) : ∀ p : Drv × Bool, qs.all Ph.may = true → p.1.Kept (rphases p qs).1 (phsMany qs) := by
  induction qs with
  | nil => intro p _; exact Drv.Kept.refl p.1
  | cons q qs ih =>
    intro p h
    rw [List.all_cons, Bool.and_eq_true] at h
    rw [phsMany_cons]
    exact (rphase_kept p q h.1).trans (ih _ h.2)
/-- Any phase that may be. -/
theorem r_phase {g b : Nat} {d : Drv} {c : Bool} {N0 : Int} {Q : Own} {w0 w : World} {rows : List (Value × List Value)} (h : RCtx g b d c N0 Q w0 w rows) (p : Ph) (hm : p.may = true) (ba : Option Addr) (bc : Nat)
    (hbm : ∀ (w' : World) (e : Drv) (f : Bool), RCtx g b e f N0 Q w0 w' rows → RS w' (.slice ba p.bytes.length bc) (ints p.bytes)) (hol : d.out.length ≤ 1000000) (hr : d.room N0 p.many) :
    Calls Tryz.prog 122 #[.pointer (some ⟨g, 0, none⟩), .agg #[.int .i64 p.lanes, .slice ba p.bytes.length bc, .int .i64 p.clocks, .int .i64 p.read]] w fun e w' => ∃ (e2 : Drv) (f2 : Bool), e = .returned (.tuple #[]) ∧ rphase (d, c) p = (e2, f2) ∧ RCtx g b e2 f2 N0 Q w0 w' rows := by
  have hf := may_facts hm
  obtain ⟨la, bs, cl, rd⟩ := p
  dsimp only at hbm hr hf ⊢
  rcases hf with ⟨hla | hla, hcl, hbl, hr0, hr1, hb⟩ | ⟨hla, hbs, hrd, hc0, hc1⟩
  · subst hla
    subst hcl
    obtain ⟨n, rfl⟩ : ∃ n : Nat, rd = (n : Int) := ⟨rd.toNat, by omega⟩
    rw [many1] at hr
    refine (r_phase1 h ba bc bs n hb hbl (by omega) hbm hol (by rw [show (((bs.length * 8 : Nat) : Int) + ((n * 8 : Nat) : Int)) = ((bs.length : Int) + n) * 8 by omega]; exact hr)).mono ?_
    rintro e w' ⟨e2, f2, h1, h2, h3⟩
    refine ⟨e2, f2, h1, ?_, h3⟩
    rw [rphase_eq, ← h2]
    unfold Ph.says
    rw [show List.replicate (Int.toNat 0) (15 : Int) = [] from rfl, List.append_nil]
    rfl
  · subst hla
    subst hcl
    obtain ⟨n, rfl⟩ : ∃ n : Nat, rd = (n : Int) := ⟨rd.toNat, by omega⟩
    rw [many4] at hr
    refine (r_phase4 h ba bc bs n hb hbl (by omega) hbm hol (by rw [show (((bs.length * 2 : Nat) : Int) + ((n * 2 : Nat) : Int)) = ((bs.length : Int) + n) * 2 by omega]; exact hr)).mono ?_
    rintro e w' ⟨e2, f2, h1, h2, h3⟩
    refine ⟨e2, f2, h1, ?_, h3⟩
    rw [rphase_eq, ← h2]
    unfold Ph.says
    rw [show List.replicate (Int.toNat 0) (15 : Int) = [] from rfl, List.append_nil]
    rfl
  · subst hla
    subst hbs
    subst hrd
    obtain ⟨n, rfl⟩ : ∃ n : Nat, cl = (n : Int) := ⟨cl.toNat, by omega⟩
    rw [many0] at hr
    refine (r_phase0 h ba bc n (by omega) hr).mono ?_
    rintro e w' ⟨e2, f2, h1, h2, h3⟩
    exact ⟨e2, f2, h1, by rw [rphase_eq, ← h2]; rfl, h3⟩
theorem Ctx.upR {Q : Own} {w0 w : World} {b : Nat} {s : St} {N M : Int} {rows : List (Value × List Value)} (hC : Ctx (RefP b s N) Q w0 w rows) (h : N ≤ M) : Ctx (RefP b s M) Q w0 w rows := by
  obtain ⟨S, ⟨A, B, ⟨r, hA, h1, h2, h3⟩, hB, d2, e2⟩, h4, h5⟩ := hC.all
  exact ⟨refP_ok _ _ _, hC.okQ, hC.upd, S, ⟨A, B, ⟨r, hA, h1, h2.mono h, h3.mono h⟩, hB, d2, e2⟩, h4, h5⟩
set_option maxRecDepth 100000 in
set_option maxHeartbeats 4000000 in
theorem r_drive {Q : Own} {w0 w : World} {b : Nat} {s : St} {N : Int} {rows : List (Value × List Value)} (hQ : Q.Ok) (hC : Ctx (RefP b s N) Q w0 w rows) (hN : 0 ≤ N) (hsel : s.sel = false) (a : Option Addr) (n cap : Nat) (L : List (Ph × Value)) (hP : PhsV rows (.slice a n cap) L) (most : Int) (hmr : i64B most)
    (hall : L.all (fun x => x.1.may) = true) (hroom : N + phsMany (L.map Prod.fst) ≤ 1048575 ∨ (0 ≤ most ∧ N + most ≤ 1048575)) (d : Drv) (whole : Bool) (hd : Drv.phases ⟨s.select, [], 0, most⟩ (L.map Prod.fst) = (d, whole)) :
    Calls Tryz.prog 44 #[.pointer (some ⟨b, 0, none⟩), .slice a n cap, .int .i64 most] w fun e w' => ∃ oa oc, e = .returned (.tuple #[.slice oa d.out.length oc, .int .i64 d.clocks, .bool whole, .int .i64 0]) ∧ Ctx (RefP b (if whole then d.s.deselect else d.s) (N + d.clocks + 1)) Q w0 w' ((.slice oa d.out.length oc, ints d.out) :: rows) := by
  obtain ⟨rfl, hcap⟩ : n = L.length ∧ n ≤ cap := by
    obtain ⟨a', cap', e, hc, _⟩ := hP
    simp only [Value.slice.injEq] at e
    obtain ⟨rfl, rfl, rfl⟩ := e
    exact ⟨rfl, hc⟩
  have hll := phs_len hP
  have HALL := Lib.hid hall
  have hmap : (L.map Prod.fst).all Ph.may = true := by rw [map_all]; exact hall
  have HROOM : Hid (∀ (i : Nat) (e : Drv), (Drv.mk s.select [] 0 most).Kept e (phsMany ((L.take i).map Prod.fst)) → i ≤ L.length → (∀ hi : i < L.length, e.room N L[i].1.many) ∧ e.out.length ≤ 1000000 ∧ 0 ≤ e.clocks ∧ N + e.clocks ≤ 1048575 ∧ e.s.sel = true) := Lib.hid (by
    intro i e hk hi
    have hk1 := hk.most
    have hk2 := hk.sel
    have hk3 := hk.up
    have hk4 := hk.many
    have hk5 := hk.within
    have hk6 := hk.outs
    dsimp only at hk1 hk2 hk3 hk4 hk5 hk6
    simp only [List.length_nil] at hk6
    have hsplit : phsMany (L.map Prod.fst) = phsMany ((L.take i).map Prod.fst) + phsMany ((L.drop i).map Prod.fst) := by
      conv => lhs; rw [← List.take_append_drop i L]
      rw [List.map_append]
      unfold phsMany
      rw [List.foldl_append]
      generalize ((L.take i).map Prod.fst).foldl (fun k p => k + Ph.many p) 0 = z
      induction ((L.drop i).map Prod.fst) generalizing z with
      | nil => simp
      | cons p ps ih => rw [List.foldl_cons, List.foldl_cons, ih, ih (0 + p.many)]; omega
    have hdr : ((L.drop i).map Prod.fst).all Ph.may = true := by
      rw [map_all, List.all_eq_true]
      intro x hx
      exact List.all_eq_true.1 hall x (List.mem_of_mem_drop hx)
    have hge := (phsMany_bd _ hdr).1
    have hbd : N + e.clocks ≤ 1048575 := by
      rcases hroom with h | ⟨h0, h1⟩
      · omega
      · have := hk5 h0 h0; omega
    refine ⟨fun hlt => ?_, by omega, hk3, hbd, hk2.trans (select_sel s)⟩
    unfold Drv.room
    rcases hroom with h | ⟨h0, h1⟩
    · left
      rw [List.drop_eq_getElem_cons hlt, List.map_cons] at hsplit hdr hge
      rw [List.all_cons, Bool.and_eq_true] at hdr
      have hge2 := (phsMany_bd _ hdr.2).1
      have e2 : phsMany (L[i].1 :: (L.drop (i + 1)).map Prod.fst) = L[i].1.many + phsMany ((L.drop (i + 1)).map Prod.fst) := by
        unfold phsMany
        rw [List.foldl_cons]
        generalize (L.drop (i + 1)).map Prod.fst = ps
        have key : ∀ (ps : List Ph) (k : Int), ps.foldl (fun k p => k + p.many) k = k + ps.foldl (fun k p => k + p.many) 0 := by
          intro ps
          induction ps with
          | nil => intro k; simp
          | cons p ps ih => intro k; rw [List.foldl_cons, ih, List.foldl_cons, ih (0 + p.many)]; omega
        rw [key]; omega
      omega
    · right; rw [hk1]; omega)
  have HP := Lib.hid hP
  have HC := Lib.hid hC
  have HD := Lib.hid hd
  have hcl := ref_clocksP hC a L.length cap L hP
  rw [show clocksE L = 0 from by unfold clocksE; rw [if_pos hall]] at hcl
  have HCL := Lib.hid hcl
  clear hP hC hall hmap hroom hcl hd
  go_enter Tryz.func44, Tryz.ntmps44
  go_wp2_with (first | (go_at_call 43; refine HCL.out.mono ?_; rintro e w1 ⟨rfl, hC1⟩) | (go_at_call 18; refine (c_rselect hC1 hsel s.select rfl).mono ?_; rintro e w2 ⟨rfl, hC2⟩))
  have h0 := RCtx.make hQ hC2 hN hmr
  obtain ⟨d0, hd0⟩ : ∃ d0, (Drv.mk s.select [] 0 most) = d0 := ⟨_, rfl⟩
  rw [hd0] at HROOM HD h0
  have HQ := Lib.hid hQ
  have H0 := Lib.hid h0
  obtain ⟨g, hg⟩ : ∃ g, w2.heap.size = g := ⟨_, rfl⟩
  rw [hg] at H0 ⊢
  generalize w2.alloc (.cells #[.pointer (some ⟨b, 0, none⟩), .int .i64 0, .int .i64 most, .slice none 0 0, .bool false] 166) = W at *
  clear h0 hC2 hC1 hg hQ
  go_loopw [13] (fun iv wr => ∃ (i : Nat) (e : Drv) (f : Bool), i ≤ L.length ∧ iv = .int .i64 (i : Int) ∧ Hid (rphases (d0, false) ((L.take i).map Prod.fst) = (e, f)) ∧ RCtx g b e f N Q w0 wr rows) (fun iv _ => L.length - (intOf iv).toNat)
  case atStart => exact ⟨0, d0, false, by omega, rfl, Lib.hid rfl, H0.out⟩
  case round =>
    clear H0
    rename World => W2
    obtain ⟨i, e, f, hi, rfl, hrun, hD⟩ := hrel
    have hallt : ((L.take i).map Prod.fst).all Ph.may = true := by
      rw [map_all, List.all_eq_true]
      intro x hx
      exact List.all_eq_true.1 HALL.out x (List.mem_of_mem_take hx)
    have hkk := rphases_kept _ (d0, false) hallt
    rw [hrun.out] at hkk
    obtain ⟨hrm, hol, hck, hcn, hse⟩ := HROOM.out i e hkk hi
    by_cases hlt : i < L.length
    · obtain ⟨-, -, gp, op, rfl, -, k0, k1, k2, k3⟩ := phs_cells hD.ctx HP.out i hlt
      obtain ⟨ba, bc, hbv, hbm, -⟩ := phs_bytes HP.out i hlt
      have hm1 : L[i].1.may = true := List.all_eq_true.1 HALL.out _ (List.getElem_mem hlt)
      have hph := r_phase hD L[i].1 hm1 ba bc (fun w' e f h => hbm h.ctx) hol (hrm hlt)
      rw [hbv] at k1
      have HT : Hid ((L.take (i + 1)).map Prod.fst = (L.take i).map Prod.fst ++ [L[i].1]) := Lib.hid (by rw [take_el L i hlt, List.map_append]; rfl)
      obtain ⟨p, hp⟩ : ∃ p, L[i].1 = p := ⟨_, rfl⟩
      rw [hp] at hph k0 k1 k2 k3 HT
      have HPH := Lib.hid hph
      clear hph hbm hbv hm1 hp hD hol hck hcn hse hallt hkk hrm HROOM
      go_wp2_with (go_at_call 122; refine HPH.out.mono ?_; rintro e' w3 ⟨e2, f2, rfl, hq, hD3⟩)
      refine ⟨?rel, ?measure⟩
      case rel => exact ⟨i + 1, e2, f2, by omega, by go_num, Lib.hid (by rw [HT.out, rphases_snoc, hrun.out]; exact hq), hD3⟩
      case measure => simp [intOf]; omega
    · obtain rfl : i = L.length := by omega
      have h1 := hrun.out
      rw [List.take_length, rphases_eq, HD.out] at h1
      simp only [Prod.mk.injEq] at h1
      obtain ⟨rfl, rfl⟩ := h1
      have HD2 := Lib.hid hD
      have hse2 := hse
      obtain ⟨oa, oc, -, c1, -, c3, c4, -⟩ := hD.cells
      have hol2 : d.out.length ≤ 1048576 := by omega
      cases whole with
      | false =>
        have HFIN := Lib.hid ((hD.done hol2 c3).frame (Upd.refl none' _).drew)
        clear hD hol hck hcn hse hse2 hallt hkk hrm HROOM HD hrun
        go_upto_region 10 with fail
        go_region
        all_goals
          go_wp2
          (try simp only [Exit.inBlock, Exit.then])
          refine bodyPost_ret (results_tmp4 rfl _ _ _) rfl ?_
          exact ⟨oa, oc, rfl, HFIN.out.upR (by omega)⟩
      | true =>
        have hds := c_rdeselect hD.ctx hse (by omega) d.s.deselect rfl
        have HDS := Lib.hid hds
        have HOL := Lib.hid hol2
        clear hD hol hck hse hse2 hallt hkk hrm HROOM HD hrun hds hol2
        clear c1 c3
        go_upto_region 12 with (go_at_call 20; refine HDS.out.mono ?_; rintro e w3 ⟨rfl, hC3⟩)
        have hD3 : RCtx g b { d with s := d.s.deselect } false (N + 1) Q w0 w3 rows := ⟨by rw [show N + 1 + d.clocks = N + d.clocks + 1 by omega]; exact hC3, HQ.out, by omega, HD2.out.clocks, HD2.out.mostR, HD2.out.le⟩
        obtain ⟨oa, oc, -, c1, -, c3, c4', -⟩ := hD3.cells
        dsimp only at c1 c3
        have HFIN := Lib.hid ((hD3.done (show d.out.length ≤ 1048576 from HOL.out) c3).frame (Upd.refl none' _).drew)
        clear hD3 hC3 c4'
        go_region
        all_goals
          go_wp2
          (try simp only [Exit.inBlock, Exit.then])
          refine bodyPost_ret (results_tmp4 rfl _ _ _) rfl ?_
          exact ⟨oa, oc, rfl, HFIN.out.upR (by omega)⟩
set_option maxHeartbeats 2000000 in
/-- Phases that may not be. -/
theorem r_drive_no {P Q : Own} {w0 w : World} {b : Nat} {rows : List (Value × List Value)} (hC : Ctx P Q w0 w rows) (a : Option Addr) (n cap : Nat) (L : List (Ph × Value)) (hP : PhsV rows (.slice a n cap) L) (most : Int) (hall : L.all (fun x => x.1.may) = false) :
    Calls Tryz.prog 44 #[.pointer (some ⟨b, 0, none⟩), .slice a n cap, .int .i64 most] w fun e w' => e = .returned (.tuple #[.slice none 0 0, .int .i64 0, .bool false, .int .i64 1000]) ∧ Ctx P Q w0 w' rows := by
  have hcl := ref_clocksP hC a n cap L hP
  rw [show clocksE L = 1000 from by unfold clocksE; rw [hall]; rfl] at hcl
  have HCL := Lib.hid hcl
  clear hcl hall hP hC
  go_enter Tryz.func44, Tryz.ntmps44
  go_wp2_with (go_at_call 43; refine HCL.out.mono ?_; rintro e w1 ⟨rfl, hC1⟩)
  (try simp only [Exit.inBlock, Exit.then])
  refine bodyPost_ret (results_tmp4 rfl _ _ _) rfl ?_
  exact ⟨rfl, hC1⟩
set_option maxHeartbeats 2000000 in
/-- A chip that is selected. -/
theorem r_drive_sel {Q : Own} {w0 w : World} {b : Nat} {s : St} {N : Int} {rows : List (Value × List Value)} (hC : Ctx (RefP b s N) Q w0 w rows) (hsel : s.sel = true) (a : Option Addr) (n cap : Nat) (L : List (Ph × Value)) (hP : PhsV rows (.slice a n cap) L) (most : Int) :
    Calls Tryz.prog 44 #[.pointer (some ⟨b, 0, none⟩), .slice a n cap, .int .i64 most] w fun e w' => e = .returned (.tuple #[.slice none 0 0, .int .i64 0, .bool false, .int .i64 1000]) ∧ Ctx (RefP b s N) Q w0 w' rows := by
  cases hall : L.all (fun x => x.1.may) with
  | false => exact r_drive_no hC a n cap L hP most hall
  | true =>
    have hcl := ref_clocksP hC a n cap L hP
    rw [show clocksE L = 0 from by unfold clocksE; rw [hall]; rfl] at hcl
    have HCL := Lib.hid hcl
    clear hcl hall hP hC
    go_enter Tryz.func44, Tryz.ntmps44
    go_wp2_with (first | (go_at_call 43; refine HCL.out.mono ?_; rintro e w1 ⟨rfl, hC1⟩) | (go_at_call 18; refine (c_rselect_no hC1 hsel).mono ?_; rintro e w2 ⟨rfl, hE⟩))
    (try simp only [Exit.inBlock, Exit.then])
    refine bodyPost_ret (results_tmp4 rfl _ _ _) rfl ?_
    exact ⟨rfl, by subst hE; exact hC1⟩
end Go.Proofs.YtepnljeojlbliaaGreat
