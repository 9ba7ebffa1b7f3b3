/- A chip that is driven: (*drive).clock. -/
import Derived.Test.YtbflnpkgbpckfaaGreatWireD
namespace Go.Proofs.YtbflnpkgbpckfaaGreat
open Go.RowKit
/-- The driver's own: which chip, what was read, the clocks, the bound. -/
def DrvC (g b : Nat) (d : Drv) : Own := fun w S => ∃ ov, Blk w g [.pointer (some ⟨b, 0, none⟩), ov, .int .i64 d.clocks, .int .i64 d.most] 99 ∧ Row w 3 ov (ints d.out) ∧ (∀ k, ov.ownBlock = some k → k ≠ g) ∧ ∀ k, S k ↔ k = g ∨ ov.ownBlock = some k
theorem drvC_ok (g b : Nat) (d : Drv) : (DrvC g b d).Ok := by
  refine ⟨?_, ?_⟩
  · rintro w w' S T ⟨ov, h1, h2, h3, h4⟩ hu hT
    exact ⟨ov, h1.upd hu (hT g ((h4 g).2 (.inl rfl))), h2.upd hu (fun k hk => hT k ((h4 k).2 (.inr hk))), h3, h4⟩
  · rintro w S ⟨ov, h1, h2, h3, h4⟩ k hk
    rcases (h4 k).1 hk with h | h
    · rw [h]; exact h1.lt
    · exact h2.lt k h
theorem drvC_same {g b : Nat} {d d' : Drv} (h1 : d'.out = d.out) (h2 : d'.clocks = d.clocks) (h3 : d'.most = d.most) : DrvC g b d' = DrvC g b d := by unfold DrvC; rw [h1, h2, h3]
/-- A chip that is driven, among what a law holds; N0 bounds its counts ahead of the drive. -/
structure DCtx (g b : Nat) (d : Drv) (N0 : Int) (Q : Own) (w0 w : World) (rows : List (Value × List Value)) : Prop where
  ctx : Ctx (ChipP b d.s (N0 + d.clocks)) ((DrvC g b d).star Q) w0 w rows
  okQ : Q.Ok
  n0 : 0 ≤ N0
  clocks : 0 ≤ d.clocks
  mostR : i64B d.most
/-- There is room for so many clocks more. -/
def Drv.room (d : Drv) (N0 n : Int) : Prop := N0 + d.clocks + n ≤ 1048576 ∨ (0 ≤ d.most ∧ N0 + d.most ≤ 1048576)
theorem DCtx.tl {g b : Nat} {d : Drv} {N0 : Int} {Q : Own} {w0 w : World} {r : Value × List Value} {rows : List (Value × List Value)} (h : DCtx g b d N0 Q w0 w (r :: rows)) : DCtx g b d N0 Q w0 w rows := ⟨h.ctx.tl, h.okQ, h.n0, h.clocks, h.mostR⟩
theorem DCtx.frame {g b : Nat} {d : Drv} {N0 : Int} {Q : Own} {w0 w w' : World} {rows : List (Value × List Value)} (h : DCtx g b d N0 Q w0 w rows) (u : Upd none' w w') : DCtx g b d N0 Q w0 w' rows := ⟨h.ctx.frame u, h.okQ, h.n0, h.clocks, h.mostR⟩
/-- The driver's cells. -/
theorem DCtx.cells {g b : Nat} {d : Drv} {N0 : Int} {Q : Own} {w0 w : World} {rows : List (Value × List Value)} (h : DCtx g b d N0 Q w0 w rows) :
    ∃ oa oc, w.cell? ⟨g, 0, none⟩ = some (.pointer (some ⟨b, 0, none⟩)) ∧ w.cell? ⟨g, 1, none⟩ = some (.slice oa d.out.length oc) ∧ w.cell? ⟨g, 2, none⟩ = some (.int .i64 d.clocks) ∧ w.cell? ⟨g, 3, none⟩ = some (.int .i64 d.most) ∧ w.frozen? ⟨g, 1, none⟩ = false ∧ w.frozen? ⟨g, 2, none⟩ = false ∧ Row w 3 (.slice oa d.out.length oc) (ints d.out) ∧ w0.heap.size ≤ g ∧ g < w.heap.size ∧ ∀ k, (Value.slice oa d.out.length oc).ownBlock = some k → k ≠ g ∧ w0.heap.size ≤ k := by
  obtain ⟨S, ⟨ov, h1, h2, h3, h4⟩, h5⟩ := h.ctx.get2
  obtain ⟨oa, oc, rfl, -⟩ := h2.form
  rw [ints_len] at h1 h2 h3 h4
  have c0 := h1.cell 0
  have c1 := h1.cell 1
  have c2 := h1.cell 2
  have c3 := h1.cell 3
  simp only [List.getElem?_cons_succ, List.getElem?_cons_zero] at c0 c1 c2 c3
  exact ⟨oa, oc, c0, c1, c2, c3, h1.frozen 1, h1.frozen 2, h2, h5 g ((h4 g).2 (.inl rfl)), h1.lt, fun k hk => ⟨h3 k hk, h5 k ((h4 k).2 (.inr hk))⟩⟩
/-- The count of clocks is stored. -/
theorem DCtx.count {g b : Nat} {d : Drv} {N0 : Int} {Q : Own} {w0 w : World} {rows : List (Value × List Value)} (h : DCtx g b d N0 Q w0 w rows) :
    Ctx (ChipP b d.s (N0 + d.clocks)) ((DrvC g b (d.clk 15)).star Q) w0 (w.setCell ⟨g, 2, none⟩ (.int .i64 (d.clocks + 1))) rows := by
  refine h.ctx.step2 (drvC_ok g b d) h.okQ (drvC_ok g b _) ?_
  rintro S ⟨ov, h1, h2, h3, h4⟩
  have hu : Upd (fun k => k = g) w (w.setCell ⟨g, 2, none⟩ (.int .i64 (d.clocks + 1))) := (Upd.refl _ w).setCell _ _ (fun _ => rfl)
  exact ⟨S, ⟨ov, h1.set 2 _, h2.upd hu (fun k hk e => h3 k hk e), h3, h4⟩, fun k hk => .inl hk, hu.mono (fun k _ e => (h4 k).2 (.inl e))⟩
theorem full_no {d : Drv} (h : d.full = false) : ¬ (0 ≤ d.most ∧ d.most ≤ d.clocks) := of_decide_eq_false h
theorem full_yes {d : Drv} (h : d.full = true) : 0 ≤ d.most ∧ d.most ≤ d.clocks := of_decide_eq_true h
set_option maxHeartbeats 2000000 in
theorem d_clock_no {g b : Nat} {d : Drv} {N0 : Int} {Q : Own} {w0 w : World} {rows : List (Value × List Value)} (h : DCtx g b d N0 Q w0 w rows) (x : Int) (hf : d.full = true) :
    Calls Tryz.prog 94 #[.pointer (some ⟨g, 0, none⟩), .int .i64 x] w fun e w' => e = .returned (.tuple #[.int .i64 0, .bool false]) ∧ DCtx g b d N0 Q w0 w' rows := by
  obtain ⟨f1, f2⟩ := full_yes hf
  obtain ⟨oa, oc, c0, c1, c2, c3, -⟩ := h.cells
  have H := Lib.hid h
  clear h hf c1 c0
  go_enter Tryz.func94, Tryz.ntmps94
  go_upto_region 1 with fail
  go_region
  all_goals
    go_wp2
    go_ret2
    exact ⟨rfl, H.out.frame (Upd.refl _ _).drew⟩
set_option maxHeartbeats 2000000 in
theorem d_clock {g b : Nat} {d : Drv} {N0 : Int} {Q : Own} {w0 w : World} {rows : List (Value × List Value)} (h : DCtx g b d N0 Q w0 w rows) (x : Int) (hx : 0 ≤ x ∧ x ≤ 15) (hf : d.full = false) (hr : d.room N0 1) (y : Int) (hy : (d.s.clock x).2 = y) :
    Calls Tryz.prog 94 #[.pointer (some ⟨g, 0, none⟩), .int .i64 x] w fun e w' => e = .returned (.tuple #[.int .i64 y, .bool true]) ∧ DCtx g b (d.clk x) N0 Q w0 w' rows := by
  have hfn := full_no hf
  have h1 := h.n0
  have h2 := h.clocks
  have hlt : N0 + d.clocks ≤ 1048575 := by
    rcases hr with h | h <;> omega
  obtain ⟨oa, oc, c0, c1, c2, c3, g1, g2, -⟩ := h.cells
  have HSET := Lib.hid (h.frame (Upd.refl none' _).drew).count
  have H := Lib.hid h
  have hcl := fun w (hC : Ctx (ChipP b d.s (N0 + d.clocks)) ((DrvC g b (d.clk 15)).star Q) w0 w rows) => c_clock hC x hx hlt (d.s.clock x).1 y (by rw [← hy])
  have HCL := Lib.hid hcl
  clear h hf c1 hcl hy hr
  go_enter Tryz.func94, Tryz.ntmps94
  go_upto_region 1 with fail
  have hb1 : d.clocks ≤ 1048575 := by omega
  have e1 : N0 + d.clocks + 1 = N0 + (d.clk x).clocks := by show _ = N0 + (d.clocks + 1); omega
  by_cases hm : 0 ≤ d.most
  · have hm2 : ¬ d.most ≤ d.clocks := by omega
    clear hfn
    go_region
    all_goals
      go_wp2_with (go_at_call 121; refine (HCL.out _ HSET.out).mono ?_; rintro e w2 ⟨rfl, hC2⟩)
      go_ret2
      exact ⟨rfl, ⟨by rw [← e1]; exact hC2, H.out.okQ, h1, by show 0 ≤ d.clocks + 1; omega, H.out.mostR⟩⟩
  · clear hfn
    go_region
    all_goals
      go_wp2_with (go_at_call 121; refine (HCL.out _ HSET.out).mono ?_; rintro e w2 ⟨rfl, hC2⟩)
      go_ret2
      exact ⟨rfl, ⟨by rw [← e1]; exact hC2, H.out.okQ, h1, by show 0 ≤ d.clocks + 1; omega, H.out.mostR⟩⟩
end Go.Proofs.YtbflnpkgbpckfaaGreat
