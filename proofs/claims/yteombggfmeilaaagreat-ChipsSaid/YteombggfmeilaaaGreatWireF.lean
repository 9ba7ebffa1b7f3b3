/- A chip that is driven: (*drive).clock. · (*drive).put. · (*drive).get. -/
import Derived.Test.YteombggfmeilaaaGreatWireB
namespace Go.Proofs.YteombggfmeilaaaGreat
open Go.RowKit
/-- The driver's own: which chip, what was read, the clocks, the bound. -/
def DrvC (g b : Nat) (d : Drv) : Own := fun w S => ∃ ov, Blk w g [.pointer (some ⟨b, 0, none⟩), ov, .int .i64 d.clocks, .int .i64 d.most] 160 ∧ Row w 3 ov (ints d.out) ∧ (∀ k, ov.ownBlock = some k → k ≠ g) ∧ ∀ k, S k ↔ k = g ∨ ov.ownBlock = some k
theorem drvC_ok (g b : Nat) (d : Drv) : (DrvC g b d).Ok := by
  refine ⟨?_, ?_⟩
  · rintro w w' S T ⟨ov, h1, h2, h3, h4⟩ hu hT
    exact ⟨ov, h1.upd hu (hT g ((h4 g).2 (.inl rfl))), h2.upd hu (fun k hk => hT k ((h4 k).2 (.inr hk))), h3, h4⟩
  · rintro w S ⟨ov, h1, h2, h3, h4⟩ k hk
    rcases (h4 k).1 hk with h | h
    · rw [h]; exact h1.lt
    · exact h2.lt k h
theorem drvC_same {g b : Nat} {d d' : Drv} (h1 : d'.out = d.out) (h2 : d'.clocks = d.clocks) (h3 : d'.most = d.most) : DrvC g b d' = DrvC g b d := by unfold DrvC; rw [h1, h2, h3]
/-- A chip that is driven, among what a law holds; N0 bounds its counts ahead of the drive. -/
structure DCtx (g b : Nat) (d : Drv) (N0 : Int) (Q : Own) (w0 w : World) (rows : List (Value × List Value)) : Prop where
  ctx : Ctx (ChipP b d.s (N0 + d.clocks)) ((DrvC g b d).star Q) w0 w rows
  okQ : Q.Ok
  n0 : 0 ≤ N0
  clocks : 0 ≤ d.clocks
  mostR : i64B d.most
/-- There is room for so many clocks more. -/
def Drv.room (d : Drv) (N0 n : Int) : Prop := N0 + d.clocks + n ≤ 1048576 ∨ (0 ≤ d.most ∧ N0 + d.most ≤ 1048576)
theorem DCtx.tl {g b : Nat} {d : Drv} {N0 : Int} {Q : Own} {w0 w : World} {r : Value × List Value} {rows : List (Value × List Value)} (h : DCtx g b d N0 Q w0 w (r :: rows)) : DCtx g b d N0 Q w0 w rows := ⟨h.ctx.tl, h.okQ, h.n0, h.clocks, h.mostR⟩
theorem DCtx.frame {g b : Nat} {d : Drv} {N0 : Int} {Q : Own} {w0 w w' : World} {rows : List (Value × List Value)} (h : DCtx g b d N0 Q w0 w rows) (u : Upd none' w w') : DCtx g b d N0 Q w0 w' rows := ⟨h.ctx.frame u, h.okQ, h.n0, h.clocks, h.mostR⟩
/-- The driver's cells. -/
theorem DCtx.cells {g b : Nat} {d : Drv} {N0 : Int} {Q : Own} {w0 w : World} {rows : List (Value × List Value)} (h : DCtx g b d N0 Q w0 w rows) :
    ∃ oa oc, w.cell? ⟨g, 0, none⟩ = some (.pointer (some ⟨b, 0, none⟩)) ∧ w.cell? ⟨g, 1, none⟩ = some (.slice oa d.out.length oc) ∧ w.cell? ⟨g, 2, none⟩ = some (.int .i64 d.clocks) ∧ w.cell? ⟨g, 3, none⟩ = some (.int .i64 d.most) ∧ w.frozen? ⟨g, 1, none⟩ = false ∧ w.frozen? ⟨g, 2, none⟩ = false ∧ Row w 3 (.slice oa d.out.length oc) (ints d.out) ∧ w0.heap.size ≤ g ∧ g < w.heap.size ∧ ∀ k, (Value.slice oa d.out.length oc).ownBlock = some k → k ≠ g ∧ w0.heap.size ≤ k := by
  obtain ⟨S, ⟨ov, h1, h2, h3, h4⟩, h5⟩ := h.ctx.get2
  obtain ⟨oa, oc, rfl, -⟩ := h2.form
  rw [ints_len] at h1 h2 h3 h4
  have c0 := h1.cell 0
  have c1 := h1.cell 1
  have c2 := h1.cell 2
  have c3 := h1.cell 3
  simp only [List.getElem?_cons_succ, List.getElem?_cons_zero] at c0 c1 c2 c3
  exact ⟨oa, oc, c0, c1, c2, c3, h1.frozen 1, h1.frozen 2, h2, h5 g ((h4 g).2 (.inl rfl)), h1.lt, fun k hk => ⟨h3 k hk, h5 k ((h4 k).2 (.inr hk))⟩⟩
/-- The count of clocks is stored. -/
theorem DCtx.count {g b : Nat} {d : Drv} {N0 : Int} {Q : Own} {w0 w : World} {rows : List (Value × List Value)} (h : DCtx g b d N0 Q w0 w rows) :
    Ctx (ChipP b d.s (N0 + d.clocks)) ((DrvC g b (d.clk 15)).star Q) w0 (w.setCell ⟨g, 2, none⟩ (.int .i64 (d.clocks + 1))) rows := by
  refine h.ctx.step2 (drvC_ok g b d) h.okQ (drvC_ok g b _) ?_
  rintro S ⟨ov, h1, h2, h3, h4⟩
  have hu : Upd (fun k => k = g) w (w.setCell ⟨g, 2, none⟩ (.int .i64 (d.clocks + 1))) := (Upd.refl _ w).setCell _ _ (fun _ => rfl)
  exact ⟨S, ⟨ov, h1.set 2 _, h2.upd hu (fun k hk e => h3 k hk e), h3, h4⟩, fun k hk => .inl hk, hu.mono (fun k _ e => (h4 k).2 (.inl e))⟩
theorem full_no {d : Drv} (h : d.full = false) : ¬ (0 ≤ d.most ∧ d.most ≤ d.clocks) := of_decide_eq_false h
theorem full_yes {d : Drv} (h : d.full = true) : 0 ≤ d.most ∧ d.most ≤ d.clocks := of_decide_eq_true h
set_option maxHeartbeats 2000000 in
theorem d_clock_no {g b : Nat} {d : Drv} {N0 : Int} {Q : Own} {w0 w : World} {rows : List (Value × List Value)} (h : DCtx g b d N0 Q w0 w rows) (x : Int) (hf : d.full = true) :
    Calls Tryz.prog 171 #[.pointer (some ⟨g, 0, none⟩), .int .i64 x] w fun e w' => e = .returned (.tuple #[.int .i64 0, .bool false]) ∧ DCtx g b d N0 Q w0 w' rows := by
  obtain ⟨f1, f2⟩ := full_yes hf
  obtain ⟨oa, oc, c0, c1, c2, c3, -⟩ := h.cells
  have H := Lib.hid h
  clear h hf c1 c0
  go_enter Tryz.func171, Tryz.ntmps171
  go_upto_region 1 with fail
  go_region
  all_goals
    go_wp2
    go_ret2
    exact ⟨rfl, H.out.frame (Upd.refl _ _).drew⟩
set_option maxHeartbeats 2000000 in
theorem d_clock {g b : Nat} {d : Drv} {N0 : Int} {Q : Own} {w0 w : World} {rows : List (Value × List Value)} (h : DCtx g b d N0 Q w0 w rows) (x : Int) (hx : 0 ≤ x ∧ x ≤ 15) (hf : d.full = false) (hr : d.room N0 1) (y : Int) (hy : (d.s.clock x).2 = y) :
    Calls Tryz.prog 171 #[.pointer (some ⟨g, 0, none⟩), .int .i64 x] w fun e w' => e = .returned (.tuple #[.int .i64 y, .bool true]) ∧ DCtx g b (d.clk x) N0 Q w0 w' rows := by
  have hfn := full_no hf
  have h1 := h.n0
  have h2 := h.clocks
  have hlt : N0 + d.clocks ≤ 1048575 := by
    rcases hr with h | h <;> omega
  obtain ⟨oa, oc, c0, c1, c2, c3, g1, g2, -⟩ := h.cells
  have HSET := Lib.hid (h.frame (Upd.refl none' _).drew).count
  have H := Lib.hid h
  have hcl := fun w (hC : Ctx (ChipP b d.s (N0 + d.clocks)) ((DrvC g b (d.clk 15)).star Q) w0 w rows) => c_clock hC x hx hlt (d.s.clock x).1 y (by rw [← hy])
  have HCL := Lib.hid hcl
  clear h hf c1 hcl hy hr
  go_enter Tryz.func171, Tryz.ntmps171
  go_upto_region 1 with fail
  have hb1 : d.clocks ≤ 1048575 := by omega
  have e1 : N0 + d.clocks + 1 = N0 + (d.clk x).clocks := by show _ = N0 + (d.clocks + 1); omega
  by_cases hm : 0 ≤ d.most
  · have hm2 : ¬ d.most ≤ d.clocks := by omega
    clear hfn
    go_region
    all_goals
      go_wp2_with (go_at_call 21; refine (HCL.out _ HSET.out).mono ?_; rintro e w2 ⟨rfl, hC2⟩)
      go_ret2
      exact ⟨rfl, ⟨by rw [← e1]; exact hC2, H.out.okQ, h1, by show 0 ≤ d.clocks + 1; omega, H.out.mostR⟩⟩
  · clear hfn
    go_region
    all_goals
      go_wp2_with (go_at_call 21; refine (HCL.out _ HSET.out).mono ?_; rintro e w2 ⟨rfl, hC2⟩)
      go_ret2
      exact ⟨rfl, ⟨by rw [← e1]; exact hC2, H.out.okQ, h1, by show 0 ≤ d.clocks + 1; omega, H.out.mostR⟩⟩
end Go.Proofs.YteombggfmeilaaaGreat
namespace Go.Proofs.YteombggfmeilaaaGreat
open Go.RowKit
theorem Ctx.newRow {P Q : Own} {w0 w w' : World} {rows : List (Value × List Value)} (h : Ctx P Q w0 w rows) (u : Upd none' w w') {v : Value} {vs : List Value} (hr : RS w' v vs) (hv : ∀ k, v.ownBlock = some k → w.heap.size ≤ k ∧ k < w'.heap.size) (hz : Mk w' v) : Ctx P Q w0 w' ((v, vs) :: rows) := by
  obtain ⟨S, h1, h2, h3⟩ := h.all
  have hlt := (h.okP.star h.okQ).lt h1
  obtain ⟨S', g1, g2, g3⟩ := (h.frame u).all
  refine ⟨h.okP, h.okQ, (h.frame u).upd, S, (h.okP.star h.okQ).frame h1 u (fun _ _ f => f), h2, fun r hr' => ?_⟩
  rcases List.mem_cons.1 hr' with rfl | hr'
  · exact ⟨hr, fun k hk => ⟨(hv k hk).2, fun hs => by have := hlt k hs; have := (hv k hk).1; omega⟩, fun k hk _ => hz k hk⟩
  · exact (h3 r hr').upd u (fun _ f => f.elim) (fun _ f => .inl f)
theorem DCtx.newRow {g b : Nat} {d : Drv} {N0 : Int} {Q : Own} {w0 w w' : World} {rows : List (Value × List Value)} (h : DCtx g b d N0 Q w0 w rows) (u : Upd none' w w') {v : Value} {vs : List Value} (hr : RS w' v vs) (hv : ∀ k, v.ownBlock = some k → w.heap.size ≤ k ∧ k < w'.heap.size) (hz : Mk w' v) : DCtx g b d N0 Q w0 w' ((v, vs) :: rows) := ⟨h.ctx.newRow u hr hv hz, h.okQ, h.n0, h.clocks, h.mostR⟩
theorem or14b (v : Int) (h : v = 0 ∨ v = 1) : bits .or .i64 v 14 = 14 + v := by
  rcases h with rfl | rfl <;> decide +kernel
theorem room_run {d : Drv} {N0 : Int} {n : Nat} {xs : List Int} (h : d.room N0 (n : Int)) (i : Nat) (hi : i < n) (hl : (xs.take i).length = i) (hok : (d.run (xs.take i)).2.2 = true) : (d.run (xs.take i)).1.room N0 1 := by
  obtain ⟨h1, h2, h3, h4, h5⟩ := run_keep (xs.take i) d
  have h6 := h4 hok
  unfold Drv.room at h ⊢
  rw [h2, h3, h6, hl]
  rcases h with h | h
  · exact .inl (by omega)
  · exact .inr h
theorem outBits_in (b l : Int) (hl : l = 1 ∨ l = 4) : ∀ x ∈ outBits b l, 0 ≤ x ∧ x < (if l = 1 then 2 else 16) := by
  rcases hl with rfl | rfl
  all_goals
    intro x hx
    unfold outBits at hx
    simp at hx
    simp
    omega
theorem outsL_1 (b : Int) : outsL b 1 = (outBits b 1).map (14 + ·) := rfl
theorem outsL_4 (b : Int) : outsL b 4 = outBits b 4 := rfl

set_option maxHeartbeats 2000000 in
theorem d_put1 {g b : Nat} {d : Drv} {N0 : Int} {Q : Own} {w0 w : World} {rows : List (Value × List Value)} (h : DCtx g b d N0 Q w0 w rows) (x : Int) (hx : 0 ≤ x ∧ x < 256) (hr : d.room N0 8) :
    Calls Tryz.prog 170 #[.pointer (some ⟨g, 0, none⟩), .int .i64 x, .int .i64 1] w fun e w' => e = .returned (.bool (d.run (outsL x 1)).2.2) ∧ DCtx g b (d.run (outsL x 1)).1 N0 Q w0 w' rows := by
  have hout : Calls Tryz.prog 199 #[.int .i64 x, .int .i64 1] w fun e w' => ∃ gg oo vc, e = .returned (.tuple #[.slice (some ⟨gg, oo, none⟩) 8 vc, .int .i64 0]) ∧ RS w' (.slice (some ⟨gg, oo, none⟩) 8 vc) (ints (outBits x 1)) ∧ (∀ k, (Value.slice (some ⟨gg, oo, none⟩) 8 vc).ownBlock = some k → w.heap.size ≤ k ∧ k < w'.heap.size) ∧ Mk w' (.slice (some ⟨gg, oo, none⟩) 8 vc) ∧ Upd none' w w' := by
    refine (lane_out1 w x hx).mono ?_
    rintro e w1 ⟨v, rfl, hR1, hf1, hU1⟩
    obtain ⟨va, vc, rfl, hvc, -⟩ := hR1.form
    have hrs1 := hR1.rs (by rw [ints_len]; show 8 ≤ _; decide)
    have hlt1 := hR1.lt
    have hmk1 := hR1.mk
    rw [ints_len, show (outBits x 1).length = 8 from rfl] at hR1 hrs1 hf1 hlt1 hmk1 ⊢
    obtain ⟨gg, oo, rfl, -⟩ := hrs1.cells (by decide)
    exact ⟨gg, oo, vc, rfl, hrs1, fun k hk => ⟨hf1 k hk, hlt1 k hk⟩, hmk1, hU1⟩
  have HIN := Lib.hid (outBits_in x 1 (by decide))
  have hD : (outBits x 1).length = 8 := rfl
  have hE : (outsL x 1).length = 8 := rfl
  have HE : Hid (∀ i, i < 8 → (outsL x 1).getD i 0 = 14 + (outBits x 1).getD i 0) := Lib.hid (fun i hi => by
    rw [outsL_1];
    rw [List.getD_eq_getElem?_getD, List.getD_eq_getElem?_getD, List.getElem?_map, List.getElem?_eq_getElem (show i < (outBits x 1).length from hi)]; rfl)
  have H := Lib.hid h
  have HR := Lib.hid hr
  clear h hr
  generalize outBits x 1 = D at *
  generalize outsL x 1 = E at *
  go_enter Tryz.func170, Tryz.ntmps170
  go_wp2_with (go_at_call 199; refine hout.mono ?_; rintro e w1 ⟨gg, oo, vc, rfl, hR1, hf1, hmk1, hU1⟩)
  have H1 := Lib.hid (H.out.newRow hU1 hR1 hf1 hmk1)
  clear hR1 hf1 hU1 hout H
  go_loopw [21] (fun iv wr => ∃ i : Nat, i ≤ 8 ∧ iv = .int .i64 (i : Int) ∧ Hid ((d.run (E.take i)).2.2 = true) ∧ DCtx g b (d.run (E.take i)).1 N0 Q w0 wr ((.slice (some ⟨gg, oo, none⟩) 8 vc, ints D) :: rows)) (fun iv _ => 8 - (intOf iv).toNat)
  case atStart => exact ⟨0, by omega, rfl, Lib.hid rfl, H1.out⟩
  case round =>
    rename World => W2
    obtain ⟨i, hi, rfl, hok, hC⟩ := hrel
    by_cases hlt : i < 8
    · have hmem : D.getD i 0 ∈ D := by rw [List.getD_eq_getElem?_getD, List.getElem?_eq_getElem (show i < D.length by omega)]; exact List.getElem_mem _
      have hdi := HIN.out _ hmem
      have hei := HE.out i hlt
      obtain ⟨hstop, hgo⟩ := run_take d E i (by omega) hok.out
      have hroom := room_run HR.out i hlt (by rw [List.length_take]; omega) hok.out
      obtain ⟨k0, o0, e0, -, hcc⟩ := (hC.ctx.rs_mem (List.mem_cons_self)).cells (by decide)
      simp only [Option.some.injEq, Addr.mk.injEq, and_true] at e0
      obtain ⟨rfl, rfl⟩ := e0
      have hcell := hcc i hlt
      rw [ints_at _ _ (by omega)] at hcell
      obtain ⟨y, hy⟩ : ∃ y, D.getD i 0 = y := ⟨_, rfl⟩
      rw [hy] at hcell hdi hei
      rw [hei] at hgo
      have hdi2 : 0 ≤ y ∧ y < 2 := by simpa using hdi
      clear hdi hcc hmem hy hei
      obtain ⟨di, hdi⟩ : ∃ di, (d.run (E.take i)).1 = di := ⟨_, rfl⟩
      rw [hdi] at hC hroom
      rw [hdi] at hstop hgo
      have HC := Lib.hid hC
      have HRM := Lib.hid hroom
      have HST := Lib.hid hstop
      have HGO := Lib.hid hgo
      clear hC hroom hstop hgo hdi
      have hor := or14b y (by omega)
      cases hf : di.full with
      | true =>
        have HF := Lib.hid hf
        clear hf
        go_wp2_with (go_at_call 171; refine (d_clock_no HC.out _ HF.out).mono ?_; rintro e w2 ⟨rfl, hC2⟩)
        go_ret
        rw [HST.out HF.out]
        exact ⟨rfl, hC2.tl⟩
      | false =>
        have HF := Lib.hid hf
        clear hf
        go_wp2_with (go_at_call 171; refine (d_clock HC.out _ (by omega) HF.out HRM.out _ rfl).mono ?_; rintro e w2 ⟨rfl, hC2⟩)
        refine ⟨?rel, ?measure⟩
        case rel =>
          refine ⟨i + 1, by omega, by go_num, Lib.hid (by rw [HGO.out HF.out]), ?_⟩
          rw [HGO.out HF.out]
          exact hC2
        case measure => simp [intOf]; omega
    · have hie : i = 8 := by omega
      subst hie
      rw [List.take_of_length_le (by omega)] at hok hC
      go_wp2
      go_ret
      exact ⟨by rw [hok.out]; rfl, hC.tl⟩
set_option maxHeartbeats 2000000 in
theorem d_put4 {g b : Nat} {d : Drv} {N0 : Int} {Q : Own} {w0 w : World} {rows : List (Value × List Value)} (h : DCtx g b d N0 Q w0 w rows) (x : Int) (hx : 0 ≤ x ∧ x < 256) (hr : d.room N0 2) :
    Calls Tryz.prog 170 #[.pointer (some ⟨g, 0, none⟩), .int .i64 x, .int .i64 4] w fun e w' => e = .returned (.bool (d.run (outsL x 4)).2.2) ∧ DCtx g b (d.run (outsL x 4)).1 N0 Q w0 w' rows := by
  have hout : Calls Tryz.prog 199 #[.int .i64 x, .int .i64 4] w fun e w' => ∃ gg oo vc, e = .returned (.tuple #[.slice (some ⟨gg, oo, none⟩) 2 vc, .int .i64 0]) ∧ RS w' (.slice (some ⟨gg, oo, none⟩) 2 vc) (ints (outBits x 4)) ∧ (∀ k, (Value.slice (some ⟨gg, oo, none⟩) 2 vc).ownBlock = some k → w.heap.size ≤ k ∧ k < w'.heap.size) ∧ Mk w' (.slice (some ⟨gg, oo, none⟩) 2 vc) ∧ Upd none' w w' := by
    refine (lane_out4 w x hx).mono ?_
    rintro e w1 ⟨v, rfl, hR1, hf1, hU1⟩
    obtain ⟨va, vc, rfl, hvc, -⟩ := hR1.form
    have hrs1 := hR1.rs (by rw [ints_len]; show 2 ≤ _; decide)
    have hlt1 := hR1.lt
    have hmk1 := hR1.mk
    rw [ints_len, show (outBits x 4).length = 2 from rfl] at hR1 hrs1 hf1 hlt1 hmk1 ⊢
    obtain ⟨gg, oo, rfl, -⟩ := hrs1.cells (by decide)
    exact ⟨gg, oo, vc, rfl, hrs1, fun k hk => ⟨hf1 k hk, hlt1 k hk⟩, hmk1, hU1⟩
  have HIN := Lib.hid (outBits_in x 4 (by decide))
  have hD : (outBits x 4).length = 2 := rfl
  have hE : (outsL x 4).length = 2 := rfl
  have HE : Hid (∀ i, i < 2 → (outsL x 4).getD i 0 = (outBits x 4).getD i 0) := Lib.hid (fun i hi => by
    rw [outsL_4])
  have H := Lib.hid h
  have HR := Lib.hid hr
  clear h hr
  generalize outBits x 4 = D at *
  generalize outsL x 4 = E at *
  go_enter Tryz.func170, Tryz.ntmps170
  go_wp2_with (go_at_call 199; refine hout.mono ?_; rintro e w1 ⟨gg, oo, vc, rfl, hR1, hf1, hmk1, hU1⟩)
  have H1 := Lib.hid (H.out.newRow hU1 hR1 hf1 hmk1)
  clear hR1 hf1 hU1 hout H
  go_loopw [21] (fun iv wr => ∃ i : Nat, i ≤ 2 ∧ iv = .int .i64 (i : Int) ∧ Hid ((d.run (E.take i)).2.2 = true) ∧ DCtx g b (d.run (E.take i)).1 N0 Q w0 wr ((.slice (some ⟨gg, oo, none⟩) 2 vc, ints D) :: rows)) (fun iv _ => 2 - (intOf iv).toNat)
  case atStart => exact ⟨0, by omega, rfl, Lib.hid rfl, H1.out⟩
  case round =>
    rename World => W2
    obtain ⟨i, hi, rfl, hok, hC⟩ := hrel
    by_cases hlt : i < 2
    · have hmem : D.getD i 0 ∈ D := by rw [List.getD_eq_getElem?_getD, List.getElem?_eq_getElem (show i < D.length by omega)]; exact List.getElem_mem _
      have hdi := HIN.out _ hmem
      have hei := HE.out i hlt
      obtain ⟨hstop, hgo⟩ := run_take d E i (by omega) hok.out
      have hroom := room_run HR.out i hlt (by rw [List.length_take]; omega) hok.out
      obtain ⟨k0, o0, e0, -, hcc⟩ := (hC.ctx.rs_mem (List.mem_cons_self)).cells (by decide)
      simp only [Option.some.injEq, Addr.mk.injEq, and_true] at e0
      obtain ⟨rfl, rfl⟩ := e0
      have hcell := hcc i hlt
      rw [ints_at _ _ (by omega)] at hcell
      obtain ⟨y, hy⟩ : ∃ y, D.getD i 0 = y := ⟨_, rfl⟩
      rw [hy] at hcell hdi hei
      rw [hei] at hgo
      have hdi2 : 0 ≤ y ∧ y < 16 := by simpa using hdi
      clear hdi hcc hmem hy hei
      obtain ⟨di, hdi⟩ : ∃ di, (d.run (E.take i)).1 = di := ⟨_, rfl⟩
      rw [hdi] at hC hroom
      rw [hdi] at hstop hgo
      have HC := Lib.hid hC
      have HRM := Lib.hid hroom
      have HST := Lib.hid hstop
      have HGO := Lib.hid hgo
      clear hC hroom hstop hgo hdi
      skip
      cases hf : di.full with
      | true =>
        have HF := Lib.hid hf
        clear hf
        go_wp2_with (go_at_call 171; refine (d_clock_no HC.out _ HF.out).mono ?_; rintro e w2 ⟨rfl, hC2⟩)
        go_ret
        rw [HST.out HF.out]
        exact ⟨rfl, hC2.tl⟩
      | false =>
        have HF := Lib.hid hf
        clear hf
        go_wp2_with (go_at_call 171; refine (d_clock HC.out _ (by omega) HF.out HRM.out _ rfl).mono ?_; rintro e w2 ⟨rfl, hC2⟩)
        refine ⟨?rel, ?measure⟩
        case rel =>
          refine ⟨i + 1, by omega, by go_num, Lib.hid (by rw [HGO.out HF.out]), ?_⟩
          rw [HGO.out HF.out]
          exact hC2
        case measure => simp [intOf]; omega
    · have hie : i = 2 := by omega
      subst hie
      rw [List.take_of_length_le (by omega)] at hok hC
      go_wp2
      go_ret
      exact ⟨by rw [hok.out]; rfl, hC.tl⟩
end Go.Proofs.YteombggfmeilaaaGreat
namespace Go.Proofs.YteombggfmeilaaaGreat
open Go.RowKit
/-- A row of the call's own, as an object. -/
def RowP (e : TypeId) (v : Value) (vs : List Value) : Own := fun w S => Row w e v vs ∧ ∀ k, S k ↔ v.ownBlock = some k
theorem rowP_ok (e : TypeId) (v : Value) (vs : List Value) : (RowP e v vs).Ok := ⟨fun h u hT => ⟨h.1.upd u (fun k hk => hT k ((h.2 k).2 hk)), h.2⟩, fun h k hk => h.1.lt k ((h.2 k).1 hk)⟩
theorem Ctx.rot {P A B C : Own} {w0 w : World} {rows : List (Value × List Value)} (hB : B.Ok) (hA : A.Ok) (hC : C.Ok) (h : Ctx P (A.star (B.star C)) w0 w rows) : Ctx P (B.star (A.star C)) w0 w rows := by
  obtain ⟨S, ⟨X, D, hX, ⟨SA, E, hSA, ⟨SB, SC, hSB, hSC, d3, e3⟩, d2, e2⟩, d1, e1⟩, h2, h3⟩ := h.all
  refine ⟨h.okP, hB.star (hA.star hC), h.upd, S, ⟨X, D, hX, ⟨SB, fun k => SA k ∨ SC k, hSB, ⟨SA, SC, hSA, hSC, fun k ha hc => d2 k ha ((e3 k).2 (.inr hc)), fun _ => Iff.rfl⟩, ?_, ?_⟩, d1, e1⟩, h2, h3⟩
  · rintro k hb (ha | hc)
    · exact d2 k ha ((e3 k).2 (.inl hb))
    · exact d3 k hb hc
  · intro k
    rw [e2 k, e3 k]
    constructor
    · rintro (ha | hb | hc)
      · exact .inr (.inl ha)
      · exact .inl hb
      · exact .inr (.inr hc)
    · rintro (hb | ha | hc)
      · exact .inr (.inl hb)
      · exact .inl ha
      · exact .inr (.inr hc)
/-- The row beside the driver. -/
theorem DCtx.row {g b : Nat} {d : Drv} {N0 : Int} {Q : Own} {w0 w : World} {rows : List (Value × List Value)} {e : TypeId} {v : Value} {vs : List Value} (hQ : Q.Ok) (h : DCtx g b d N0 ((RowP e v vs).star Q) w0 w rows) : Row w e v vs ∧ ∀ k, v.ownBlock = some k → w0.heap.size ≤ k := by
  obtain ⟨S, ⟨h1, h2⟩, h3⟩ := (h.ctx.rot (rowP_ok e v vs) (drvC_ok g b d) hQ).get2
  exact ⟨h1, fun k hk => h3 k ((h2 k).2 hk)⟩
theorem DCtx.row0 {g b : Nat} {d : Drv} {N0 : Int} {Q : Own} {w0 w : World} {rows : List (Value × List Value)} (h : DCtx g b d N0 Q w0 w rows) (e : TypeId) : DCtx g b d N0 ((RowP e (.slice none 0 0) []).star Q) w0 w rows := by
  refine ⟨?_, (rowP_ok _ _ _).star h.okQ, h.n0, h.clocks, h.mostR⟩
  exact (h.ctx.add2 (rowP_ok e (.slice none 0 0) []) (Upd.refl none' w) (B := none') ⟨Row.nil w e, fun k => ⟨fun f => f.elim, fun f => by simp [Value.ownBlock] at f⟩⟩ (fun k f => f.elim)).rot (drvC_ok g b d) (rowP_ok _ _ _) h.okQ
theorem DCtx.rowStep {g b : Nat} {d : Drv} {N0 : Int} {Q : Own} {w0 w w' : World} {rows : List (Value × List Value)} {e : TypeId} {v v' : Value} {vs vs' : List Value} (hQ : Q.Ok) (h : DCtx g b d N0 ((RowP e v vs).star Q) w0 w rows) (hR : Row w' e v' vs') (hU : Upd (fun k => v.ownBlock = some k) w w') (hv : ∀ k, v'.ownBlock = some k → v.ownBlock = some k ∨ w.heap.size ≤ k) : DCtx g b d N0 ((RowP e v' vs').star Q) w0 w' rows := by
  refine ⟨?_, (rowP_ok _ _ _).star hQ, h.n0, h.clocks, h.mostR⟩
  refine ((h.ctx.rot (rowP_ok e v vs) (drvC_ok g b d) hQ).step2 (rowP_ok e v vs) ((drvC_ok g b d).star hQ) (rowP_ok e v' vs') ?_).rot (drvC_ok g b d) (rowP_ok _ _ _) hQ
  rintro S ⟨h1, h2⟩
  exact ⟨fun k => v'.ownBlock = some k, ⟨hR, fun _ => Iff.rfl⟩, fun k hk => (hv k hk).imp (fun h => (h2 k).2 h) id, hU.mono (fun k _ hk => (h2 k).2 hk)⟩
theorem DCtx.rowDrop {g b : Nat} {d : Drv} {N0 : Int} {Q : Own} {w0 w : World} {rows : List (Value × List Value)} {e : TypeId} {v : Value} {vs : List Value} (hQ : Q.Ok) (h : DCtx g b d N0 ((RowP e v vs).star Q) w0 w rows) : DCtx g b d N0 Q w0 w rows :=
  ⟨(h.ctx.rot (rowP_ok e v vs) (drvC_ok g b d) hQ).drop2 ((drvC_ok g b d).star hQ), hQ, h.n0, h.clocks, h.mostR⟩
/-- What was read is stored. -/
theorem DCtx.store {g b : Nat} {d : Drv} {N0 : Int} {Q : Own} {w0 w w3 : World} {rows : List (Value × List Value)} {v v' : Value} (h : DCtx g b d N0 Q w0 w rows) (xs : List Int) (hc : w.cell? ⟨g, 1, none⟩ = some v) (hR : Row w3 3 v' (ints xs)) (hU : Upd (fun k => v.ownBlock = some k) w w3) (hv : ∀ k, v'.ownBlock = some k → v.ownBlock = some k ∨ w.heap.size ≤ k) :
    DCtx g b { d with out := xs } N0 Q w0 (w3.setCell ⟨g, 1, none⟩ v') rows := by
  refine ⟨?_, h.okQ, h.n0, h.clocks, h.mostR⟩
  refine h.ctx.step2 (drvC_ok g b d) h.okQ (drvC_ok g b _) ?_
  rintro S ⟨ov, h1, h2, h3, h4⟩
  have hc1 := h1.cell 1
  rw [hc] at hc1
  simp only [List.getElem?_cons_succ, List.getElem?_cons_zero, Option.some.injEq] at hc1
  subst hc1
  have hne : ∀ k, v'.ownBlock = some k → k ≠ g := fun k hk e => by
    rcases hv k hk with h | h
    · exact h3 k h e
    · have := h1.lt; omega
  have hu : Upd (fun k => k = g) w3 (w3.setCell ⟨g, 1, none⟩ v') := (Upd.refl _ w3).setCell _ _ (fun _ => rfl)
  refine ⟨fun k => k = g ∨ v'.ownBlock = some k, ⟨v', ?_, hR.upd hu (fun k hk e => hne k hk e), hne, fun _ => Iff.rfl⟩, ?_, ?_⟩
  · exact (h1.upd hU (fun e => h3 g e rfl)).set 1 v'
  · rintro k (hk | hk)
    · exact .inl ((h4 k).2 (.inl hk))
    · exact (hv k hk).imp (fun h => (h4 k).2 (.inr h)) id
  · exact (hU.mono (T := S) (fun k _ hk => (h4 k).2 (.inr hk))).trans (hu.mono (T := S) (fun k _ hk => (h4 k).2 (.inl hk))) (fun _ _ h => h)
theorem says_bd (s : St) : s.says.2 = 13 + 2 * (s.says1.now / 2 ^ (s.says1.left - 1 - 1).toNat % 2) ∨ (0 ≤ s.says.2 ∧ s.says.2 ≤ 15) := by
  unfold St.says
  dsimp only
  split
  · right; show 0 ≤ 13 + 2 * (_ % 2 : Int) ∧ 13 + 2 * (_ % 2 : Int) ≤ 15; omega
  · right; dsimp only; omega
theorem clock_bd (s : St) (x : Int) : 0 ≤ (s.clock x).2 ∧ (s.clock x).2 ≤ 15 := by
  have h15 : (0 : Int) ≤ 15 ∧ (15 : Int) ≤ 15 := by decide
  have hsay : ∀ t : St, 0 ≤ t.says.2 ∧ t.says.2 ≤ 15 := by
    intro t
    unfold St.says
    dsimp only
    split
    · show 0 ≤ 13 + 2 * (_ % 2 : Int) ∧ 13 + 2 * (_ % 2 : Int) ≤ 15; omega
    · dsimp only; omega
  unfold St.clock
  dsimp only
  split
  · unfold St.clockIn
    dsimp only
    split
    · exact h15
    split
    · exact h15
    split
    · exact h15
    split
    · exact h15
    split
    · exact h15
    split
    · exact hsay _
    split <;> exact h15
  · exact h15
theorem run_bd (xs : List Int) : ∀ (d : Drv), ∀ y ∈ (d.run xs).2.1, 0 ≤ y ∧ y ≤ 15 := by
  induction xs with
  | nil => intro d y hy; simp [Drv.run] at hy
  | cons x xs ih =>
    intro d y hy
    simp only [Drv.run] at hy
    by_cases hf : d.full = true
    · simp [hf] at hy
    · simp only [hf, Bool.false_eq_true, if_false, List.mem_cons] at hy
      rcases hy with rfl | hy
      · exact clock_bd _ _
      · exact ih _ y hy
def conv1 (ys : List Int) : List Int := ys.map fun y => y / 2 % 2
def conv4 (ys : List Int) : List Int := ys.map fun y => y
theorem inL_1 (ys : List Int) : inL 1 ys = foldB 2 (conv1 ys) := by
  unfold inL foldB conv1
  rw [if_pos rfl, List.foldl_map]
theorem inL_4 (ys : List Int) : inL 4 ys = foldB 16 (conv4 ys) := by
  unfold inL foldB conv4
  rw [if_neg (by decide), List.foldl_map]

set_option maxHeartbeats 4000000 in
theorem d_get1 {g b : Nat} {d : Drv} {N0 : Int} {Q : Own} {w0 w : World} {rows : List (Value × List Value)} (h : DCtx g b d N0 Q w0 w rows) (hol : d.out.length ≤ 1048576) (hr : d.room N0 8) :
    Calls Tryz.prog 172 #[.pointer (some ⟨g, 0, none⟩), .int .i64 1] w fun e w' => e = .returned (.bool (d.get 1).2) ∧ DCtx g b (d.get 1).1 N0 Q w0 w' rows := by
  have hget : d.get 1 = if (d.run (List.replicate 8 15)).2.2 then ({ (d.run (List.replicate 8 15)).1 with out := d.out ++ [foldB 2 (conv1 (d.run (List.replicate 8 15)).2.1)] }, true) else ((d.run (List.replicate 8 15)).1, false) := by
    unfold Drv.get
    rw [show ((8 : Int) / 1).toNat = 8 from rfl, inL_1]
  have hE : (List.replicate 8 (15 : Int)).length = 8 := rfl
  have HE : Hid (∀ i, i < 8 → (List.replicate 8 (15 : Int)).getD i 0 = 15) := Lib.hid (fun i hi => by
    rw [List.getD_eq_getElem?_getD, List.getElem?_eq_getElem (show i < (List.replicate 8 (15 : Int)).length from hi), List.getElem_replicate]; rfl)
  have HG := Lib.hid hget
  have hQ := h.okQ
  have HQ := Lib.hid hQ
  have H := Lib.hid (h.row0 3)
  have HR := Lib.hid hr
  have hma := lane_many 1 (by decide)
  rw [show (8 : Int) / 1 = 8 from rfl] at hma
  clear h hr hget hQ
  generalize List.replicate 8 (15 : Int) = E at *
  go_enter Tryz.func172, Tryz.ntmps172
  go_wp2_with (go_at_call 92; refine (hma _).mono ?_; rintro e w1 ⟨rfl, rfl⟩)
  clear hma
  go_loopw [5, 12] (fun xv iv wr => ∃ (i : Nat) (oa : Option Addr) (oc : Nat), i ≤ 8 ∧ iv = .int .i64 (i : Int) ∧ xv = .slice oa i oc ∧ Hid ((d.run (E.take i)).2.2 = true) ∧ DCtx g b (d.run (E.take i)).1 N0 ((RowP 3 (.slice oa i oc) (ints (conv1 (d.run (E.take i)).2.1))).star Q) w0 wr rows) (fun _ iv _ => 8 - (intOf iv).toNat)
  case atStart => exact ⟨0, none, 0, by omega, rfl, rfl, Lib.hid rfl, H.out⟩
  case round =>
    rename World => W2
    obtain ⟨i, oa, oc, hi, rfl, rfl, hok, hC⟩ := hrel
    obtain ⟨k1, k2, k3, k4, -⟩ := run_keep (E.take i) d
    have k5 := k4 hok.out
    rw [List.length_take, Nat.min_eq_left (by omega)] at k5
    have hcl : (ints (conv1 (d.run (E.take i)).2.1)).length = i := by rw [ints_len]; unfold conv1; rw [List.length_map, k5]
    have HCL := Lib.hid hcl
    by_cases hlt : i < 8
    · have hei := HE.out i hlt
      obtain ⟨hstop, hgo⟩ := run_take d E i (by omega) hok.out
      have hroom := room_run HR.out i hlt (by rw [List.length_take]; omega) hok.out
      rw [hei] at hgo
      obtain ⟨ys, hys⟩ : ∃ ys, (d.run (E.take i)).2.1 = ys := ⟨_, rfl⟩
      rw [hys] at hC hgo hstop HCL
      obtain ⟨di, hdi⟩ : ∃ di, (d.run (E.take i)).1 = di := ⟨_, rfl⟩
      rw [hdi] at hC hroom hstop hgo
      have HC := Lib.hid hC
      have HRM := Lib.hid hroom
      have HST := Lib.hid hstop
      have HGO := Lib.hid hgo
      clear hC hroom hstop hgo hdi hei hys k1 k2 k3 k4 k5 hcl
      cases hf : di.full with
      | true =>
        have HF := Lib.hid hf
        clear hf
        go_wp2_with (go_at_call 171; refine (d_clock_no HC.out _ HF.out).mono ?_; rintro e w2 ⟨rfl, hC2⟩)
        go_ret
        rw [HG.out, HST.out HF.out]
        exact ⟨rfl, hC2.rowDrop HQ.out⟩
      | false =>
        have HF := Lib.hid hf
        have hyb := clock_bd di.s 15
        obtain ⟨y, hy⟩ : ∃ y, (di.s.clock 15).2 = y := ⟨_, rfl⟩
        have HY := Lib.hid hy
        have HGO2 := Lib.hid (HGO.out HF.out)
        rw [hy] at hyb HGO2
        clear hf hy
        have ha := i64_and1 (y / 2)
        go_wp2_with (first | (at_builtin; go_must (refine wpList_app1 rfl _ _ 33 rfl 3 (.int .i64 0) 8 Tryz.underlying33 info_int rfl (.slice oa i oc) (ints (conv1 ys)) i HCL.out rfl w2 (.int .i64 (y / 2 % 2)) ⟨rfl, rfl, rfl⟩ HRow.out rfl rfl (by omega) (by omega) ?_); intro gn cap w3 hR3 hU3 hg3 hgs3) | (go_at_call 171; refine (d_clock HC.out 15 (by decide) HF.out HRM.out y HY.out).mono ?_; rintro e w2 ⟨rfl, hC2⟩; have HRow := Lib.hid (hC2.row HQ.out).1))
        refine ⟨?rel, ?measure⟩
        case rel =>
          refine ⟨i + 1, some ⟨gn, 0, none⟩, cap, by omega, by go_num, rfl, Lib.hid (by rw [HGO2.out]), ?_⟩
          rw [HGO2.out]
          refine DCtx.rowStep HQ.out hC2 ?_ hU3 (fun k hk => ?_)
          · have e2 : ints (conv1 (ys ++ [y])) = ints (conv1 ys) ++ [.int .i64 (y / 2 % 2)] := by unfold conv1; rw [List.map_append, ints_app]; rfl
            rw [e2]; exact hR3
          · simp only [Value.ownBlock, Option.some.injEq] at hk
            rw [← hk]; exact hg3
        case measure => simp [intOf]; omega
    · have hie : i = 8 := by omega
      subst hie
      rw [List.take_of_length_le (by omega)] at hok hC k1 k2 k3 k5 HCL
      have hyb := run_bd E d
      have HOK := Lib.hid hok.out
      obtain ⟨ys, hys⟩ : ∃ ys, (d.run E).2.1 = ys := ⟨_, rfl⟩
      obtain ⟨di, hdi⟩ : ∃ di, (d.run E).1 = di := ⟨_, rfl⟩
      rw [hys] at hC k5 hyb HCL
      rw [hdi] at hC k1
      have HRES : Hid (d.get 1 = ({ di with out := d.out ++ [foldB 2 (conv1 ys)] }, true)) := Lib.hid (by rw [HG.out, HOK.out, hys, hdi]; rfl)
      have hlen : (conv1 ys).length = 8 := by unfold conv1; rw [List.length_map, k5]
      have hcin : ∀ x ∈ conv1 ys, 0 ≤ x ∧ x < 2 := by
        intro x hx
        unfold conv1 at hx
        rw [List.mem_map] at hx
        obtain ⟨y, hy, rfl⟩ := hx
        have := hyb y hy
        omega
      have hrow := (hC.row HQ.out).1
      have hin := lane_in1 W2 _ (conv1 ys) (hrow.rs (by rw [ints_len]; omega)) hlen hcin
      obtain ⟨z, hz⟩ : ∃ z, foldB 2 (conv1 ys) = z := ⟨_, rfl⟩
      rw [hz] at hin HRES
      have HC := Lib.hid (hC.rowDrop HQ.out)
      obtain ⟨va, vc, -, c1, -, -, f1, -, hRo, -, hg0, hne⟩ := HC.out.cells
      rw [k1] at c1 hRo hne
      have HNE : Hid (¬ (Value.slice va d.out.length vc).ownBlock = some g) := Lib.hid (fun hk => (hne g hk).1 rfl)
      clear hne
      have C1 := Lib.hid c1
      have HRo := Lib.hid hRo
      have hol2 : (ints d.out).length = d.out.length := ints_len _
      have hng : W2.heap.size ≠ g := by
        obtain ⟨_, _, _, _, _, _, _, _, _, _, hg, _⟩ := HC.out.cells
        omega
      clear hC hok hyb hcin hrow hRo hdi hys k1 k2 k3 k4 k5 hlen hz hcl
      go_wp2_with (first | (at_builtin; go_must (refine wpList_app1 rfl _ _ 33 rfl 3 (.int .i64 0) 8 Tryz.underlying33 info_int rfl (.slice va d.out.length vc) (ints d.out) d.out.length hol2 rfl W2 (.int .i64 z) ⟨rfl, rfl, rfl⟩ HRo.out rfl rfl (by omega) (by omega) ?_); intro gn cap w3 hR3 hU3 hg3 hgs3; have hst := HC.out.store (d.out ++ [z]) C1.out (by rw [ints_app]; exact hR3) hU3 (fun k hk => by simp only [Value.ownBlock, Option.some.injEq] at hk; rw [← hk]; exact hg3); have HST := Lib.hid hst; clear hst; have c3 := (hU3.cell (p := ⟨g, 1, none⟩) hg0 HNE.out).trans C1.out; have f3 := (hU3.frozen (p := ⟨g, 1, none⟩) hg0 HNE.out).trans f1) | (go_at_call 200; refine hin.mono ?_; rintro e w2 ⟨rfl, rfl⟩))
      go_ret
      rw [HRES.out]
      exact ⟨rfl, HST.out⟩
set_option maxHeartbeats 4000000 in
theorem d_get4 {g b : Nat} {d : Drv} {N0 : Int} {Q : Own} {w0 w : World} {rows : List (Value × List Value)} (h : DCtx g b d N0 Q w0 w rows) (hol : d.out.length ≤ 1048576) (hr : d.room N0 2) :
    Calls Tryz.prog 172 #[.pointer (some ⟨g, 0, none⟩), .int .i64 4] w fun e w' => e = .returned (.bool (d.get 4).2) ∧ DCtx g b (d.get 4).1 N0 Q w0 w' rows := by
  have hget : d.get 4 = if (d.run (List.replicate 2 15)).2.2 then ({ (d.run (List.replicate 2 15)).1 with out := d.out ++ [foldB 16 (conv4 (d.run (List.replicate 2 15)).2.1)] }, true) else ((d.run (List.replicate 2 15)).1, false) := by
    unfold Drv.get
    rw [show ((8 : Int) / 4).toNat = 2 from rfl, inL_4]
  have hE : (List.replicate 2 (15 : Int)).length = 2 := rfl
  have HE : Hid (∀ i, i < 2 → (List.replicate 2 (15 : Int)).getD i 0 = 15) := Lib.hid (fun i hi => by
    rw [List.getD_eq_getElem?_getD, List.getElem?_eq_getElem (show i < (List.replicate 2 (15 : Int)).length from hi), List.getElem_replicate]; rfl)
  have HG := Lib.hid hget
  have hQ := h.okQ
  have HQ := Lib.hid hQ
  have H := Lib.hid (h.row0 3)
  have HR := Lib.hid hr
  have hma := lane_many 4 (by decide)
  rw [show (8 : Int) / 4 = 2 from rfl] at hma
  clear h hr hget hQ
  generalize List.replicate 2 (15 : Int) = E at *
  go_enter Tryz.func172, Tryz.ntmps172
  go_wp2_with (go_at_call 92; refine (hma _).mono ?_; rintro e w1 ⟨rfl, rfl⟩)
  clear hma
  go_loopw [5, 12] (fun xv iv wr => ∃ (i : Nat) (oa : Option Addr) (oc : Nat), i ≤ 2 ∧ iv = .int .i64 (i : Int) ∧ xv = .slice oa i oc ∧ Hid ((d.run (E.take i)).2.2 = true) ∧ DCtx g b (d.run (E.take i)).1 N0 ((RowP 3 (.slice oa i oc) (ints (conv4 (d.run (E.take i)).2.1))).star Q) w0 wr rows) (fun _ iv _ => 2 - (intOf iv).toNat)
  case atStart => exact ⟨0, none, 0, by omega, rfl, rfl, Lib.hid rfl, H.out⟩
  case round =>
    rename World => W2
    obtain ⟨i, oa, oc, hi, rfl, rfl, hok, hC⟩ := hrel
    obtain ⟨k1, k2, k3, k4, -⟩ := run_keep (E.take i) d
    have k5 := k4 hok.out
    rw [List.length_take, Nat.min_eq_left (by omega)] at k5
    have hcl : (ints (conv4 (d.run (E.take i)).2.1)).length = i := by rw [ints_len]; unfold conv4; rw [List.length_map, k5]
    have HCL := Lib.hid hcl
    by_cases hlt : i < 2
    · have hei := HE.out i hlt
      obtain ⟨hstop, hgo⟩ := run_take d E i (by omega) hok.out
      have hroom := room_run HR.out i hlt (by rw [List.length_take]; omega) hok.out
      rw [hei] at hgo
      obtain ⟨ys, hys⟩ : ∃ ys, (d.run (E.take i)).2.1 = ys := ⟨_, rfl⟩
      rw [hys] at hC hgo hstop HCL
      obtain ⟨di, hdi⟩ : ∃ di, (d.run (E.take i)).1 = di := ⟨_, rfl⟩
      rw [hdi] at hC hroom hstop hgo
      have HC := Lib.hid hC
      have HRM := Lib.hid hroom
      have HST := Lib.hid hstop
      have HGO := Lib.hid hgo
      clear hC hroom hstop hgo hdi hei hys k1 k2 k3 k4 k5 hcl
      cases hf : di.full with
      | true =>
        have HF := Lib.hid hf
        clear hf
        go_wp2_with (go_at_call 171; refine (d_clock_no HC.out _ HF.out).mono ?_; rintro e w2 ⟨rfl, hC2⟩)
        go_ret
        rw [HG.out, HST.out HF.out]
        exact ⟨rfl, hC2.rowDrop HQ.out⟩
      | false =>
        have HF := Lib.hid hf
        have hyb := clock_bd di.s 15
        obtain ⟨y, hy⟩ : ∃ y, (di.s.clock 15).2 = y := ⟨_, rfl⟩
        have HY := Lib.hid hy
        have HGO2 := Lib.hid (HGO.out HF.out)
        rw [hy] at hyb HGO2
        clear hf hy
        skip
        go_wp2_with (first | (at_builtin; go_must (refine wpList_app1 rfl _ _ 33 rfl 3 (.int .i64 0) 8 Tryz.underlying33 info_int rfl (.slice oa i oc) (ints (conv4 ys)) i HCL.out rfl w2 (.int .i64 (y)) ⟨rfl, rfl, rfl⟩ HRow.out rfl rfl (by omega) (by omega) ?_); intro gn cap w3 hR3 hU3 hg3 hgs3) | (go_at_call 171; refine (d_clock HC.out 15 (by decide) HF.out HRM.out y HY.out).mono ?_; rintro e w2 ⟨rfl, hC2⟩; have HRow := Lib.hid (hC2.row HQ.out).1))
        refine ⟨?rel, ?measure⟩
        case rel =>
          refine ⟨i + 1, some ⟨gn, 0, none⟩, cap, by omega, by go_num, rfl, Lib.hid (by rw [HGO2.out]), ?_⟩
          rw [HGO2.out]
          refine DCtx.rowStep HQ.out hC2 ?_ hU3 (fun k hk => ?_)
          · have e2 : ints (conv4 (ys ++ [y])) = ints (conv4 ys) ++ [.int .i64 (y)] := by unfold conv4; rw [List.map_append, ints_app]; rfl
            rw [e2]; exact hR3
          · simp only [Value.ownBlock, Option.some.injEq] at hk
            rw [← hk]; exact hg3
        case measure => simp [intOf]; omega
    · have hie : i = 2 := by omega
      subst hie
      rw [List.take_of_length_le (by omega)] at hok hC k1 k2 k3 k5 HCL
      have hyb := run_bd E d
      have HOK := Lib.hid hok.out
      obtain ⟨ys, hys⟩ : ∃ ys, (d.run E).2.1 = ys := ⟨_, rfl⟩
      obtain ⟨di, hdi⟩ : ∃ di, (d.run E).1 = di := ⟨_, rfl⟩
      rw [hys] at hC k5 hyb HCL
      rw [hdi] at hC k1
      have HRES : Hid (d.get 4 = ({ di with out := d.out ++ [foldB 16 (conv4 ys)] }, true)) := Lib.hid (by rw [HG.out, HOK.out, hys, hdi]; rfl)
      have hlen : (conv4 ys).length = 2 := by unfold conv4; rw [List.length_map, k5]
      have hcin : ∀ x ∈ conv4 ys, 0 ≤ x ∧ x < 16 := by
        intro x hx
        unfold conv4 at hx
        rw [List.mem_map] at hx
        obtain ⟨y, hy, rfl⟩ := hx
        have := hyb y hy
        omega
      have hrow := (hC.row HQ.out).1
      have hin := lane_in4 W2 _ (conv4 ys) (hrow.rs (by rw [ints_len]; omega)) hlen hcin
      obtain ⟨z, hz⟩ : ∃ z, foldB 16 (conv4 ys) = z := ⟨_, rfl⟩
      rw [hz] at hin HRES
      have HC := Lib.hid (hC.rowDrop HQ.out)
      obtain ⟨va, vc, -, c1, -, -, f1, -, hRo, -, hg0, hne⟩ := HC.out.cells
      rw [k1] at c1 hRo hne
      have HNE : Hid (¬ (Value.slice va d.out.length vc).ownBlock = some g) := Lib.hid (fun hk => (hne g hk).1 rfl)
      clear hne
      have C1 := Lib.hid c1
      have HRo := Lib.hid hRo
      have hol2 : (ints d.out).length = d.out.length := ints_len _
      have hng : W2.heap.size ≠ g := by
        obtain ⟨_, _, _, _, _, _, _, _, _, _, hg, _⟩ := HC.out.cells
        omega
      clear hC hok hyb hcin hrow hRo hdi hys k1 k2 k3 k4 k5 hlen hz hcl
      go_wp2_with (first | (at_builtin; go_must (refine wpList_app1 rfl _ _ 33 rfl 3 (.int .i64 0) 8 Tryz.underlying33 info_int rfl (.slice va d.out.length vc) (ints d.out) d.out.length hol2 rfl W2 (.int .i64 z) ⟨rfl, rfl, rfl⟩ HRo.out rfl rfl (by omega) (by omega) ?_); intro gn cap w3 hR3 hU3 hg3 hgs3; have hst := HC.out.store (d.out ++ [z]) C1.out (by rw [ints_app]; exact hR3) hU3 (fun k hk => by simp only [Value.ownBlock, Option.some.injEq] at hk; rw [← hk]; exact hg3); have HST := Lib.hid hst; clear hst; have c3 := (hU3.cell (p := ⟨g, 1, none⟩) hg0 HNE.out).trans C1.out; have f3 := (hU3.frozen (p := ⟨g, 1, none⟩) hg0 HNE.out).trans f1) | (go_at_call 200; refine hin.mono ?_; rintro e w2 ⟨rfl, rfl⟩))
      go_ret
      rw [HRES.out]
      exact ⟨rfl, HST.out⟩
end Go.Proofs.YteombggfmeilaaaGreat
