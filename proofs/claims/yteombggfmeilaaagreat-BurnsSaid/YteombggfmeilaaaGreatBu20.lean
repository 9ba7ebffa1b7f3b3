/- Alike17 CtlL RdA -/
import Derived.Test.YteombggfmeilaaaGreatBu13
import Derived.Test.YteombggfmeilaaaGreatBu19
import Derived.Deep.RegionHeld3
import Derived.Test.YteombggfmeilaaaGreatBu09
/- Alike17. -/
namespace Go.Proofs.YteombggfmeilaaaGreat
open Go.RowKit
set_option maxRecDepth 100000 in
set_option maxHeartbeats 4000000 in
theorem alike17 {Q Q2 : Own} {w0 w : World} {b r : Nat} {s : St} {N N2 : Int} {rows rows2 : List (Value × List Value)} (hP : Ctx (ChipP b s N) Q w0 w rows) (hR : Ctx (RefP r s N2) Q2 w0 w rows2) :
    Calls Tryz.prog 70 #[.pointer (some ⟨b, 0, none⟩), .pointer (some ⟨r, 0, none⟩)] w fun e w' => e = .returned (.bool true) ∧ Upd none' w w' := by
  have hat : ∀ w', Upd none' w w' → ∃ S, ChipAt w' b s S := fun w' u => by
    obtain ⟨S, ⟨A, B, hA, _⟩, _⟩ := (hP.frame u).all
    exact ⟨A, hA.1⟩
  have HST : Hid (∀ w', Upd none' w w' → Calls Tryz.prog 30 #[.pointer (some ⟨b, 0, none⟩)] w' fun e w'' => e = .returned (.tuple #[.int .i64 s.first, .int .i64 s.second]) ∧ Upd none' w' w'') := Lib.hid (fun w' u => by
    obtain ⟨S, h⟩ := hat w' u
    exact chip_stat b s S w' h)
  have HCE : Hid (∀ w', Upd none' w w' → Calls Tryz.prog 34 #[.pointer (some ⟨b, 0, none⟩)] w' fun e w'' => e = .returned (.string s.a) ∧ w' = w'') := Lib.hid (fun w' u => by
    obtain ⟨S, h⟩ := hat w' u
    exact chip_cells b s S w' h)
  have HWI : Hid (∀ w', Upd none' w w' → Calls Tryz.prog 32 #[.pointer (some ⟨b, 0, none⟩)] w' fun e w'' => ∃ a c, e = .returned (.slice a 8 c) ∧ RS w'' (.slice a 8 c) (ints s.wipesL) ∧ Upd none' w' w'') := Lib.hid (fun w' u => by
    obtain ⟨S, h⟩ := hat w' u
    refine (chip_wipes b s S w' h).mono ?_
    rintro e w'' ⟨v, rfl, hrow, -, hu⟩
    obtain ⟨a, c, rfl, -⟩ := hrow.form
    exact ⟨a, c, rfl, hrow.rs (show 8 ≤ 1048576 by decide), hu⟩)
  have HRS : Hid (∀ w', Upd none' w w' → Calls Tryz.prog 31 #[.pointer (some ⟨r, 0, none⟩)] w' fun e w'' => e = .returned (.tuple #[.int .i64 s.first, .int .i64 s.second]) ∧ Upd none' w' w'') := Lib.hid (fun w' u => c_rstatus (hR.frame u))
  obtain ⟨hrl, c0, oa, oc, c3, hw⟩ := c_rfields hR
  have HF : Hid (∀ w', Upd none' w w' → w'.cell? ⟨r, 0, none⟩ = some (.string s.a) ∧ w'.cell? ⟨r, 3, none⟩ = some (.slice oa 8 oc) ∧ RS w' (.slice oa 8 oc) (ints s.wipesL)) := Lib.hid (fun w' u => ⟨(u.cell (p := ⟨r, 0, none⟩) hrl (fun f => f)).trans c0, (u.cell (p := ⟨r, 3, none⟩) hrl (fun f => f)).trans c3, hw.upd u (fun _ _ _ f => f)⟩)
  generalize s.first = p at *
  generalize s.second = q at *
  generalize s.a = fa at *
  generalize s.wipesL = ws at *
  have HS : Hid (∀ w' v u, RS w' v (ints ws) → RS w' u (ints ws) → Calls Tryz.prog 33 #[v, u] w' fun e w'' => e = .returned (.bool true) ∧ Upd none' w' w'') := Lib.hid (fun w' v u h1 h2 => by
    have := same_ints w' v u ws ws h1 h2
    rw [show sameB ws ws = true from decide_eq_true rfl] at this
    exact this)
  clear hat hP hR c0 c3 hw hrl
  go_enter Tryz.func70, Tryz.ntmps70
  go_upto_region 3 with (first | (go_at_call 31; refine (HRS.out _ hU1).mono ?_; rintro e w2 ⟨rfl, hU2⟩) | (go_at_call 30; refine (HST.out _ (Upd.refl none' w)).mono ?_; rintro e w1 ⟨rfl, hU1⟩))
  have HU2 := Lib.hid (hU1.trans hU2 (fun _ _ f => f))
  obtain ⟨c0, c3, -⟩ := HF.out _ HU2.out
  clear hU1 hU2 HST HRS
  go_region_held3 (fun w' => w'.cell? ⟨r, 0, none⟩ = some (.string fa) ∧ w'.cell? ⟨r, 3, none⟩ = some (.slice oa 8 oc)) (first | exact ⟨c0, c3⟩ | exact ⟨d0, d3⟩ | exact ⟨f0, f3⟩) (first | (go_at_call 33; refine (HS.out _ _ _ hW5 hW6).mono ?_; rintro e w5 ⟨rfl, hU5⟩; obtain ⟨f0, f3, -⟩ := HF.out _ (HU4.out.trans hU5 (fun _ _ f => f)); have HU6 := Lib.hid (HU4.out.trans hU5 (fun _ _ f => f))) | (go_at_call 32; refine (HWI.out _ (HU2.out.trans (Upd.refl none' w2).drew (fun _ _ f => f))).mono ?_; rintro e w4 ⟨va, vc, rfl, hW5, hU4⟩; have HU4 := Lib.hid ((HU2.out.trans (Upd.refl none' w2).drew (fun _ _ f => f)).trans hU4 (fun _ _ f => f)); obtain ⟨d0, d3, hW6⟩ := HF.out _ HU4.out) | (go_at_call 34; refine (HCE.out _ (HU2.out.trans (Upd.refl none' w2).drew (fun _ _ f => f))).mono ?_; rintro e w3 ⟨rfl, rfl⟩))
  go_wp2
  go_ret
  exact ⟨rfl, HU6.out⟩
end Go.Proofs.YteombggfmeilaaaGreat
/- CtlL. -/
namespace Go.Proofs.YteombggfmeilaaaGreat
open Go.RowKit
set_option maxRecDepth 100000 in
set_option maxHeartbeats 8000000 in
theorem c_run_cut {Q : Own} {w0 w : World} {b : Nat} {s : St} {N : Int} {rows : List (Value × List Value)} {k fo fi : Nat} {K : KS} (hQ : Q.Ok) (hC : Ctx (ChipP b s N) ((CtlC k b fo fi K).star Q) w0 w rows) (hN : 0 ≤ N) (hsel : s.sel = false) (hkl : -9223372036854775808 ≤ K.left ∧ K.left ≤ 9223372036854775807) (hkc : 0 ≤ K.clocks ∧ K.clocks ≤ 1048576)
    (hlost : K.lost = false) (hgo : K.goes = false) (c : Int) (hc : opIs c = true) (hc2 : c ≠ 235) (at_ : Int) (a : Option Addr) (cp : Nat) (data : List Int) (hdd : (.slice a data.length cp, ints data) ∈ rows) (read : Int) (hmay : cmdMay (opOf c) at_ data read = true) (hroom : N + phsMany (cmdPhs (opOf c) at_ data read) ≤ 1048575) (d : Drv) (hd : Drv.phases ⟨s.select, [], 0, K.left⟩ (cmdPhs (opOf c) at_ data read) = (d, false)) :
    Calls Tryz.prog 50 #[.pointer (some ⟨k, 0, none⟩), .int .i64 c, .int .i64 at_, .slice a data.length cp, .int .i64 read] w fun e w' => e = .returned (.tuple #[.slice none 0 0, .int .i64 1101]) ∧ Ctx (ChipP b d.s (N + d.clocks + 1)) ((CtlC k b fo fi (K.driven d).gone).star Q) w0 w' rows := by
  have hcall := cmd_all c hc at_ data read hmay
  have hfind := tab_find c hc
  have hst := k_state hC
  rw [hlost] at hst
  have hcmd := fun w1 (h : Ctx (ChipP b s N) ((CtlC k b fo fi K).star Q) w0 w1 rows) => c_command ((ctlC_ok k b fo fi K).star hQ) h c hc at_ a cp data hdd read hmay
  have hdrv := fun w1 rows1 (h : Ctx (ChipP b s N) ((CtlC k b fo fi K).star Q) w0 w1 rows1) g m cap L (hP : PhsV rows1 (.slice (some ⟨g, 0, none⟩) m cap) L) (hL : L.map Prod.fst = cmdPhs (opOf c) at_ data read) => k_drive_cut hQ h hN hsel (some ⟨g, 0, none⟩) m cap L hP hkl hkc hlost (by rw [← map_all, hL]; exact hcall) (by rw [hL]; exact hroom) d (by rw [hL]; exact hd)
  have HG0 : Hid (∀ w1 rows1, Ctx (ChipP b s N) ((CtlC k b fo fi K).star Q) w0 w1 rows1 → w1.cell? ⟨k, 7, none⟩ = some (.bool false)) := Lib.hid (fun w1 rows1 h => by
    obtain ⟨-, -, e7, -⟩ := ctl_cells h
    rw [e7, hgo])
  have HC := Lib.hid hC
  obtain ⟨o, ho⟩ : ∃ o, opOf c = o := ⟨_, rfl⟩
  rw [ho] at hfind hcmd hdrv
  obtain ⟨by', ad, mo, du, da, inn⟩ := o
  unfold POp.cells at hfind hcmd
  dsimp only at hfind hcmd
  have HFIND := Lib.hid hfind
  have HCMD := Lib.hid hcmd
  have HDRV := Lib.hid hdrv
  have HST := Lib.hid hst
  have hcb : (c == 235) = false := by simpa using hc2
  clear hcall hfind hst hcmd hdrv hC hc ho hd hmay hroom hdd hlost hgo hkl hkc hsel
  go_enter Tryz.func50, Tryz.ntmps50
  go_upto_region 8 with (first | (go_at_call 124; refine HST.out.mono ?_; rintro e w1 ⟨rfl, rfl⟩) | (go_at_call 125; refine (HFIND.out _).mono ?_; rintro e w2 ⟨rfl, hU2⟩; have HC2 := Lib.hid ((HC.out.frame hU2).alloc (.cells #[.int .i64 by', .int .i64 ad, .bool mo, .int .i64 du, .int .i64 da, .bool inn] 52))) | (go_at_call 126; refine (HCMD.out _ HC2.out).mono ?_; rintro e w3 ⟨g, m, cap, L, rows', rfl, hL, hC3, hP3⟩; have c7 := HG0.out _ _ hC3))
  have HDR := Lib.hid (HDRV.out _ _ hC3 g m cap L hP3 hL)
  clear hC3 hP3 hL HCMD HDRV HFIND HST HC
  go_wp2_with (go_at_call 127; refine HDR.out.mono ?_; rintro e w4 ⟨rfl, hC4⟩)
  go_ret2
  exact ⟨rfl, hC4.sub fun r hr => List.mem_append.2 (.inr hr)⟩
theorem c_run_lost {P Q : Own} {w0 w : World} {rows : List (Value × List Value)} {k b fo fi : Nat} {K : KS} (h : Ctx P ((CtlC k b fo fi K).star Q) w0 w rows) (hlost : K.lost = true) (c at_ read : Int) (v : Value) :
    Calls Tryz.prog 50 #[.pointer (some ⟨k, 0, none⟩), .int .i64 c, .int .i64 at_, v, .int .i64 read] w fun e w' => e = .returned (.tuple #[.slice none 0 0, .int .i64 1101]) ∧ w = w' := by
  have hst := k_state h
  rw [hlost] at hst
  clear h
  go_enter Tryz.func50, Tryz.ntmps50
  go_wp2_with (go_at_call 124; refine hst.mono ?_; rintro e w1 ⟨rfl, rfl⟩)
  go_ret2
  exact ⟨rfl, rfl⟩
theorem c_cut {P Q : Own} {w0 w : World} {rows : List (Value × List Value)} {k b fo fi : Nat} {K : KS} (hQ : Q.Ok) (h : Ctx P ((CtlC k b fo fi K).star Q) w0 w rows) (x : Int) (hx : 0 ≤ x) :
    Calls Tryz.prog 54 #[.pointer (some ⟨k, 0, none⟩), .int .i64 x] w fun e w' => e = .returned (.int .i64 0) ∧ Ctx P ((CtlC k b fo fi { K with left := x }).star Q) w0 w' rows := by
  obtain ⟨-, -, -, c8, -, hf, -⟩ := ctl_cells h
  have f8 := hf 8
  have HS := Lib.hid (ctl_set (K' := { K with left := x }) hQ h 8 (.int .i64 x) rfl)
  clear h hf
  go_enter Tryz.func54, Tryz.ntmps54
  go_wp2
  go_ret
  exact ⟨rfl, HS.out⟩
theorem c_lost {P Q : Own} {w0 w : World} {rows : List (Value × List Value)} {k b fo fi : Nat} {K : KS} (h : Ctx P ((CtlC k b fo fi K).star Q) w0 w rows) (x : Bool) (hx : K.lost = x) :
    Calls Tryz.prog 58 #[.pointer (some ⟨k, 0, none⟩)] w fun e w' => e = .returned (.bool x) ∧ w = w' := by
  obtain ⟨-, -, -, -, c9, -⟩ := ctl_cells h
  rw [hx] at c9
  clear h hx
  go_enter Tryz.func58, Tryz.ntmps58
  go_wp2
  go_ret
  exact ⟨rfl, rfl⟩
end Go.Proofs.YteombggfmeilaaaGreat
/- RdA. -/
namespace Go.Proofs.YteombggfmeilaaaGreat
open Go.RowKit
def RunC (g b : Nat) (d : Drv) (cut : Bool) : Own := fun w S => ∃ ov, Blk w g [.pointer (some ⟨b, 0, none⟩), .int .i64 d.clocks, .int .i64 d.most, ov, .bool cut] 166 ∧ Row w 3 ov (ints d.out) ∧ (∀ k, ov.ownBlock = some k → k ≠ g) ∧ ∀ k, S k ↔ k = g ∨ ov.ownBlock = some k
theorem runC_ok (g b : Nat) (d : Drv) (cut : Bool) : (RunC g b d cut).Ok := by
  refine ⟨?_, ?_⟩
  · rintro w w' S T ⟨ov, h1, h2, h3, h4⟩ hu hT
    exact ⟨ov, h1.upd hu (hT g ((h4 g).2 (.inl rfl))), h2.upd hu (fun k hk => hT k ((h4 k).2 (.inr hk))), h3, h4⟩
  · rintro w S ⟨ov, h1, h2, h3, h4⟩ k hk
    rcases (h4 k).1 hk with h | h
    · rw [h]; exact h1.lt
    · exact h2.lt k h
structure RCtx (g b : Nat) (d : Drv) (cut : Bool) (N0 : Int) (Q : Own) (w0 w : World) (rows : List (Value × List Value)) : Prop where
  ctx : Ctx (RefP b d.s (N0 + d.clocks)) ((RunC g b d cut).star Q) w0 w rows
  okQ : Q.Ok
  n0 : 0 ≤ N0
  clocks : 0 ≤ d.clocks
  mostR : i64B d.most
  le : 0 ≤ d.most → d.clocks ≤ d.most
theorem RCtx.frame {g b : Nat} {d : Drv} {cut : Bool} {N0 : Int} {Q : Own} {w0 w w' : World} {rows : List (Value × List Value)} (h : RCtx g b d cut N0 Q w0 w rows) (u : Upd none' w w') : RCtx g b d cut N0 Q w0 w' rows := ⟨h.ctx.frame u, h.okQ, h.n0, h.clocks, h.mostR, h.le⟩
theorem RCtx.sub {g b : Nat} {d : Drv} {cut : Bool} {N0 : Int} {Q : Own} {w0 w : World} {rows rows' : List (Value × List Value)} (h : RCtx g b d cut N0 Q w0 w rows) (hs : ∀ r ∈ rows', r ∈ rows) : RCtx g b d cut N0 Q w0 w rows' := ⟨h.ctx.sub hs, h.okQ, h.n0, h.clocks, h.mostR, h.le⟩
theorem RCtx.cells {g b : Nat} {d : Drv} {cut : Bool} {N0 : Int} {Q : Own} {w0 w : World} {rows : List (Value × List Value)} (h : RCtx g b d cut N0 Q w0 w rows) :
    ∃ oa oc, w.cell? ⟨g, 0, none⟩ = some (.pointer (some ⟨b, 0, none⟩)) ∧ w.cell? ⟨g, 1, none⟩ = some (.int .i64 d.clocks) ∧ w.cell? ⟨g, 2, none⟩ = some (.int .i64 d.most) ∧ w.cell? ⟨g, 3, none⟩ = some (.slice oa d.out.length oc) ∧ w.cell? ⟨g, 4, none⟩ = some (.bool cut) ∧ (∀ i, w.frozen? ⟨g, i, none⟩ = false) ∧ Row w 3 (.slice oa d.out.length oc) (ints d.out) ∧ w0.heap.size ≤ g ∧ g < w.heap.size ∧ ∀ k, (Value.slice oa d.out.length oc).ownBlock = some k → k ≠ g ∧ w0.heap.size ≤ k := by
  obtain ⟨S, ⟨ov, h1, h2, h3, h4⟩, h5⟩ := h.ctx.get2
  obtain ⟨oa, oc, rfl, -⟩ := h2.form
  rw [ints_len] at h1 h2 h3 h4
  have c0 := h1.cell 0
  have c1 := h1.cell 1
  have c2 := h1.cell 2
  have c3 := h1.cell 3
  have c4 := h1.cell 4
  simp only [List.getElem?_cons_succ, List.getElem?_cons_zero] at c0 c1 c2 c3 c4
  exact ⟨oa, oc, c0, c1, c2, c3, c4, fun i => h1.frozen i, h2, h5 g ((h4 g).2 (.inl rfl)), h1.lt, fun k hk => ⟨h3 k hk, h5 k ((h4 k).2 (.inr hk))⟩⟩
theorem RCtx.count {g b : Nat} {d : Drv} {cut : Bool} {N0 : Int} {Q : Own} {w0 w : World} {rows : List (Value × List Value)} (h : RCtx g b d cut N0 Q w0 w rows) :
    Ctx (RefP b d.s (N0 + d.clocks)) ((RunC g b (d.clk 15) cut).star Q) w0 (w.setCell ⟨g, 1, none⟩ (.int .i64 (d.clocks + 1))) rows := by
  refine h.ctx.step2 (runC_ok g b d cut) h.okQ (runC_ok g b _ cut) ?_
  rintro S ⟨ov, h1, h2, h3, h4⟩
  have hu : Upd (fun k => k = g) w (w.setCell ⟨g, 1, none⟩ (.int .i64 (d.clocks + 1))) := (Upd.refl _ w).setCell _ _ (fun _ => rfl)
  exact ⟨S, ⟨ov, h1.set 1 _, h2.upd hu (fun k hk e => h3 k hk e), h3, h4⟩, fun k hk => .inl hk, hu.mono (fun k _ e => (h4 k).2 (.inl e))⟩
theorem RCtx.stop {g b : Nat} {d : Drv} {cut : Bool} {N0 : Int} {Q : Own} {w0 w : World} {rows : List (Value × List Value)} (h : RCtx g b d cut N0 Q w0 w rows) : RCtx g b d true N0 Q w0 (w.setCell ⟨g, 4, none⟩ (.bool true)) rows := by
  refine ⟨h.ctx.step2 (runC_ok g b d cut) h.okQ (runC_ok g b d true) ?_, h.okQ, h.n0, h.clocks, h.mostR, h.le⟩
  rintro S ⟨ov, h1, h2, h3, h4⟩
  have hu : Upd (fun k => k = g) w (w.setCell ⟨g, 4, none⟩ (.bool true)) := (Upd.refl _ w).setCell _ _ (fun _ => rfl)
  exact ⟨S, ⟨ov, h1.set 4 _, h2.upd hu (fun k hk e => h3 k hk e), h3, h4⟩, fun k hk => .inl hk, hu.mono (fun k _ e => (h4 k).2 (.inl e))⟩
set_option maxHeartbeats 2000000 in
theorem r_clock_no {g b : Nat} {d : Drv} {cut : Bool} {N0 : Int} {Q : Own} {w0 w : World} {rows : List (Value × List Value)} (h : RCtx g b d cut N0 Q w0 w rows) (x : Int) (hf : cut = true ∨ d.full = true) :
    Calls Tryz.prog 177 #[.pointer (some ⟨g, 0, none⟩), .int .i64 x] w fun e w' => e = .returned (.int .i64 0) ∧ RCtx g b d true N0 Q w0 w' rows := by
  obtain ⟨oa, oc, c0, c1, c2, c3, c4, hfr, -, -, hlt, -⟩ := h.cells
  have f4 := hfr 4
  have H := Lib.hid (h.frame (Upd.refl none' _).drew).stop
  have hle := h.le
  clear h c0 hfr c3
  cases cut with
  | true =>
    clear hf hle
    go_enter Tryz.func177, Tryz.ntmps177
    go_upto_region 1 with fail
    go_region
    all_goals
      go_wp2
      go_ret
      exact ⟨rfl, H.out⟩
  | false =>
    obtain ⟨f1, f2⟩ := full_yes (hf.resolve_left (by decide))
    have he : d.clocks = d.most := by have := hle f1; omega
    have heb : (d.clocks == d.most) = true := by simpa using he
    clear hf hle he
    go_enter Tryz.func177, Tryz.ntmps177
    go_upto_region 1 with fail
    go_region
    all_goals
      go_wp2
      go_ret
      exact ⟨rfl, H.out⟩
set_option maxHeartbeats 2000000 in
theorem r_clock {g b : Nat} {d : Drv} {N0 : Int} {Q : Own} {w0 w : World} {rows : List (Value × List Value)} (h : RCtx g b d false N0 Q w0 w rows) (x : Int) (hx : 0 ≤ x ∧ x ≤ 15) (hf : d.full = false) (hr : d.room N0 1) (y : Int) (hy : (d.s.clock x).2 = y) :
    Calls Tryz.prog 177 #[.pointer (some ⟨g, 0, none⟩), .int .i64 x] w fun e w' => e = .returned (.int .i64 y) ∧ RCtx g b (d.clk x) false N0 Q w0 w' rows := by
  have hfn := full_no hf
  have h1 := h.n0
  have h2 := h.clocks
  have h3 := h.le
  have hlt : N0 + d.clocks ≤ 1048575 := by
    rcases hr with h | h <;> omega
  obtain ⟨oa, oc, c0, c1, c2, c3, c4, hfr, -, -, hlg, -⟩ := h.cells
  have f1 := hfr 1
  have HSET := Lib.hid (h.frame (Upd.refl none' _).drew).count
  have H := Lib.hid h
  have HCL := Lib.hid (fun w (hC : Ctx (RefP b d.s (N0 + d.clocks)) ((RunC g b (d.clk 15) false).star Q) w0 w rows) => c_rclock hC x hx hlt (d.s.clock x).1 y (by rw [← hy]))
  clear h hf c3 hy hr hfr
  have hb1 : d.clocks ≤ 1048575 := by omega
  have hwr : IntKind.i64.wrap (d.clocks + 1) = d.clocks + 1 := IntWalk.i64_in _ (by omega)
  have e1 : N0 + d.clocks + 1 = N0 + (d.clk x).clocks := by show _ = N0 + (d.clocks + 1); omega
  have hle2 : 0 ≤ d.most → (d.clk x).clocks ≤ d.most := by
    intro hm
    have := h3 hm
    show d.clocks + 1 ≤ d.most
    omega
  have HLE := Lib.hid hle2
  clear hle2
  by_cases hm : 0 ≤ d.most
  · have hm2 : (d.clocks == d.most) = false := by
      have : ¬ d.clocks = d.most := by omega
      simpa using this
    clear hfn h3
    go_enter Tryz.func177, Tryz.ntmps177
    go_upto_region 1 with fail
    go_region
    all_goals
      go_wp2_with (go_at_call 22; refine (HCL.out _ HSET.out).mono ?_; rintro e w2 ⟨rfl, hC2⟩)
      go_ret
      exact ⟨rfl, ⟨by rw [← e1]; exact hC2, H.out.okQ, h1, by show 0 ≤ d.clocks + 1; omega, H.out.mostR, HLE.out⟩⟩
  · have hm3 : ¬ d.most ≥ 0 := hm
    clear hfn h3
    go_enter Tryz.func177, Tryz.ntmps177
    go_upto_region 1 with fail
    go_region
    all_goals
      go_wp2_with (go_at_call 22; refine (HCL.out _ HSET.out).mono ?_; rintro e w2 ⟨rfl, hC2⟩)
      go_ret
      exact ⟨rfl, ⟨by rw [← e1]; exact hC2, H.out.okQ, h1, by show 0 ≤ d.clocks + 1; omega, H.out.mostR, HLE.out⟩⟩
end Go.Proofs.YteombggfmeilaaaGreat
namespace Go.Proofs.YteombggfmeilaaaGreat
open Go.RowKit
set_option maxHeartbeats 1000000 in
theorem ref_out4 (w : World) (b : Int) (hb : 0 ≤ b ∧ b < 256) :
    Calls Tryz.prog 178 #[.int .i64 b, .int .i64 4] w fun e w' => ∃ v, e = .returned (.tuple #[v, .int .i64 0]) ∧ Row w' 3 v (ints (outBits b 4)) ∧ (∀ k, v.ownBlock = some k → w.heap.size ≤ k) ∧ Upd none' w w' := by
  have h1 : ¬ b < 0 := by omega
  have h2 : ¬ b > 255 := by omega
  have ha := i64_and15 b
  go_enter Tryz.func178, Tryz.ntmps178
  go_wp2
  go_ret2
  have hR := row_lit w 3 (ints (outBits b 4)) 2 rfl (by decide)
  have hv : b / 16 % 16 = b / 16 := by omega
  refine ⟨_, rfl, ?_, fun k hk => by simp [Value.ownBlock] at hk; omega, (Upd.refl none' w).alloc _⟩
  rw [show outBits b 4 = [b / 16 % 16, b % 16] from rfl, hv] at hR
  rw [show outBits b 4 = [b / 16 % 16, b % 16] from rfl, hv]
  exact hR
set_option maxHeartbeats 2000000 in
theorem ref_out1 (w : World) (b : Int) (hb : 0 ≤ b ∧ b < 256) :
    Calls Tryz.prog 178 #[.int .i64 b, .int .i64 1] w fun e w' => ∃ v, e = .returned (.tuple #[v, .int .i64 0]) ∧ Row w' 3 v (ints (outBits b 1)) ∧ (∀ k, v.ownBlock = some k → w.heap.size ≤ k) ∧ Upd none' w w' := by
  have h1 : ¬ b < 0 := by omega
  have h2 : ¬ b > 255 := by omega
  go_enter Tryz.func178, Tryz.ntmps178
  go_wp2
  go_loopw [6, 7] (fun ov jv wr => ∃ j : Nat, j ≤ 8 ∧ jv = .int .i64 (7 - (j : Int)) ∧ Row wr 3 ov (ints ((outBits b 1).take j)) ∧ (∀ k, ov.ownBlock = some k → w.heap.size ≤ k) ∧ Upd none' w wr) (fun _ jv _ => (intOf jv + 1).toNat)
  case atStart => exact ⟨0, by omega, rfl, by rw [List.take_zero]; exact Row.nil _ _, fun k hk => (by simp [Value.ownBlock] at hk), Upd.refl _ _⟩
  case round =>
    rename World => W2
    obtain ⟨j, hj, rfl, hrow2, hown2, hU2⟩ := hrel
    obtain ⟨oa2, oc2, rfl, -⟩ := hrow2.form
    have hol2 : (ints ((outBits b 1).take j)).length = j := by
      rw [ints_len, List.length_take, show (outBits b 1).length = 8 from rfl, Nat.min_eq_left hj]
    rw [hol2] at hrow2 hown2 ⊢
    have HROW2 := Lib.hid hrow2
    have HOWN2 := Lib.hid hown2
    have HU2 := Lib.hid hU2
    have HOL := Lib.hid hol2
    clear hrow2 hown2 hU2 hol2
    by_cases hlt : j < 8
    · have hge : 7 - (j : Int) ≥ 0 := by omega
      have hsub : IntKind.i64.wrap (7 - (j : Int) - 1) = 7 - (j : Int) - 1 := IntWalk.i64_in _ (by omega)
      have ha := i64_and1 (b / 2 ^ (7 - j : Nat))
      have hx : (outBits b 1).take (j + 1) = (outBits b 1).take j ++ [b / 2 ^ (7 - j : Nat) % 2] := by
        rcases (show j = 0 ∨ j = 1 ∨ j = 2 ∨ j = 3 ∨ j = 4 ∨ j = 5 ∨ j = 6 ∨ j = 7 by omega) with rfl | rfl | rfl | rfl | rfl | rfl | rfl | rfl
        all_goals first | rfl | (show _ = _ ++ [b / 1 % 2]; rw [Int.ediv_one]; rfl)
      obtain ⟨x, hxe⟩ : ∃ x, bits .and .i64 (b / 2 ^ (7 - j : Nat)) 1 = x := ⟨_, rfl⟩
      rw [← ha, hxe] at hx
      have HX := Lib.hid hx
      clear hx ha
      go_wp2_with (at_builtin; go_must (refine wpList_app1 rfl _ _ 33 rfl 3 (.int .i64 0) 8 Tryz.underlying33 info_int rfl _ (ints ((outBits b 1).take j)) j HOL.out rfl W2 (.int .i64 x) ⟨rfl, rfl, rfl⟩ HROW2.out rfl rfl (by omega) (by omega) ?_); intro g cap w3 hR3 hU3 hg3 hgs3)
      refine ⟨?rel, ?measure⟩
      case rel =>
        have hg : w.heap.size ≤ g := by
          rcases hg3 with e | e
          · exact HOWN2.out g e
          · have := HU2.out.size; omega
        refine ⟨j + 1, by omega, by go_num, ?_, ?_, ?_⟩
        · rw [HX.out, ints_app]
          exact hR3
        · intro k hk
          simp [Value.ownBlock] at hk
          rw [← hk]
          exact hg
        · exact HU2.out.trans hU3 (fun k h1 h2 => absurd (HOWN2.out k h2) (by omega))
      case measure => simp [intOf]; omega
    · obtain rfl : j = 8 := by omega
      go_wp2
      go_ret2
      have hR := HROW2.out
      rw [show (outBits b 1).take 8 = outBits b 1 from rfl] at hR
      exact ⟨_, rfl, hR, HOWN2.out, HU2.out⟩
end Go.Proofs.YteombggfmeilaaaGreat
namespace Go.Proofs.YteombggfmeilaaaGreat
open Go.RowKit
def rrun (p : Drv × Bool) (xs : List Int) : Drv × Bool := if p.2 then p else ((p.1.run xs).1, !(p.1.run xs).2.2)
theorem rrun_cut (d : Drv) (xs : List Int) : rrun (d, true) xs = (d, true) := rfl
theorem rrun_nil (p : Drv × Bool) : rrun p [] = p := by
  unfold rrun
  obtain ⟨d, c⟩ := p
  cases c <;> rfl
theorem rrun_app (p : Drv × Bool) (xs ys : List Int) : rrun p (xs ++ ys) = rrun (rrun p xs) ys := by
  obtain ⟨d, c⟩ := p
  cases c with
  | true => rfl
  | false =>
    unfold rrun
    simp only [Bool.false_eq_true, if_false]
    rw [run_app]
    cases h : (d.run xs).2.2 with
    | true => simp
    | false => simp [h]
theorem rrun_one (d : Drv) (x : Int) : rrun (d, false) [x] = if d.full then (d, true) else (d.clk x, false) := by
  unfold rrun
  simp only [Bool.false_eq_true, if_false, Drv.run]
  cases d.full <;> rfl
theorem rrun_kept (p : Drv × Bool) (xs : List Int) : p.1.Kept (rrun p xs).1 xs.length := by
  obtain ⟨d, c⟩ := p
  cases c with
  | true => exact (Drv.Kept.refl d).mono (by omega)
  | false => exact run_kept d xs
theorem r_step {g b : Nat} {p : Drv × Bool} {N0 : Int} {Q : Own} {w0 w : World} {rows : List (Value × List Value)} (h : RCtx g b p.1 p.2 N0 Q w0 w rows) (x : Int) (hx : 0 ≤ x ∧ x ≤ 15) (hr : p.1.room N0 1) :
    Calls Tryz.prog 177 #[.pointer (some ⟨g, 0, none⟩), .int .i64 x] w fun e w' => ∃ y, e = .returned (.int .i64 y) ∧ (p.2 = false → p.1.full = false → y = (p.1.s.clock x).2) ∧ ((rrun p [x]).2 = true → y = 0) ∧ RCtx g b (rrun p [x]).1 (rrun p [x]).2 N0 Q w0 w' rows := by
  obtain ⟨d, c⟩ := p
  cases c with
  | true =>
    refine (r_clock_no h x (.inl rfl)).mono ?_
    intro e w' h2
    exact ⟨0, h2.1, fun (e : true = false) => (by cases e), fun _ => rfl, h2.2⟩
  | false =>
    cases hf : d.full with
    | true =>
      have e1 : rrun (d, false) [x] = (d, true) := by rw [rrun_one, hf]; rfl
      refine (r_clock_no h x (.inr hf)).mono ?_
      intro e w' h2
      rw [e1]
      exact ⟨0, h2.1, fun _ (e : true = false) => (by cases e), fun _ => rfl, h2.2⟩
    | false =>
      have e1 : rrun (d, false) [x] = (d.clk x, false) := by rw [rrun_one, hf]; rfl
      refine (r_clock h x hx hf hr _ rfl).mono ?_
      intro e w' h2
      rw [e1]
      exact ⟨_, h2.1, fun _ _ => rfl, fun (e : false = true) => (by cases e), h2.2⟩
def rget (p : Drv × Bool) (l : Int) : Drv × Bool := if p.2 then p else ((p.1.get l).1, !(p.1.get l).2)
def rgets (p : Drv × Bool) (l : Int) : Nat → Drv × Bool
  | 0 => p
  | n + 1 => rget (rgets p l n) l
theorem rgets_eq (d : Drv) (l : Int) (n : Nat) : rgets (d, false) l n = ((d.gets l n).1, !(d.gets l n).2) := by
  induction n with
  | zero => rfl
  | succ n ih =>
    show rget (rgets (d, false) l n) l = _
    rw [ih, gets_snoc]
    unfold rget
    cases h : (d.gets l n).2 with
    | true => simp
    | false => simp [h]
theorem rgets_cut (d : Drv) (l : Int) (n : Nat) : rgets (d, true) l n = (d, true) := by
  induction n with
  | zero => rfl
  | succ n ih =>
    show rget (rgets (d, true) l n) l = _
    rw [ih]
    rfl
theorem rgets_same {p : Drv × Bool} {l : Int} {i : Nat} (h : (rgets p l i).2 = true) (k : Nat) : rgets p l (i + k) = rgets p l i := by
  induction k with
  | zero => rfl
  | succ k ih =>
    show rget (rgets p l (i + k)) l = _
    rw [ih]
    unfold rget
    rw [if_pos h]
def rphase (p : Drv × Bool) (q : Ph) : Drv × Bool := if p.2 then p else ((p.1.phase q).1, !(p.1.phase q).2)
theorem rphase_eq (p : Drv × Bool) (q : Ph) : rphase p q = rgets (rrun p q.says) q.lanes q.read.toNat := by
  obtain ⟨d, c⟩ := p
  cases c with
  | true => rw [rrun_cut, rgets_cut]; rfl
  | false =>
    unfold rphase rrun Drv.phase
    simp only [Bool.false_eq_true, if_false]
    cases h : (d.run q.says).2.2 with
    | true =>
      simp only [if_true, Bool.not_true]
      rw [rgets_eq]
    | false =>
      simp only [Bool.false_eq_true, if_false, Bool.not_false]
      rw [rgets_cut]
def rphases (p : Drv × Bool) : List Ph → Drv × Bool
  | [] => p
  | q :: qs => rphases (rphase p q) qs
theorem rphases_cut (d : Drv) (qs : List Ph) : rphases (d, true) qs = (d, true) := by
  induction qs with
  | nil => rfl
  | cons q qs ih => exact ih
theorem rphases_eq (qs : List Ph) : ∀ d : Drv, rphases (d, false) qs = ((d.phases qs).1, !(d.phases qs).2) := by
  induction qs with
  | nil => intro d; rfl
  | cons q qs ih =>
    intro d
    show rphases (rphase (d, false) q) qs = _
    unfold rphase Drv.phases
    simp only [Bool.false_eq_true, if_false]
    cases h : (d.phase q).2 with
    | true =>
      simp only [if_true, Bool.not_true]
      exact ih _
    | false =>
      simp only [Bool.false_eq_true, if_false, Bool.not_false]
      exact rphases_cut _ _
theorem rphases_snoc (p : Drv × Bool) (qs : List Ph) (q : Ph) : rphases p (qs ++ [q]) = rphase (rphases p qs) q := by
  induction qs generalizing p with
  | nil => rfl
  | cons r qs ih => exact ih _
end Go.Proofs.YteombggfmeilaaaGreat
namespace Go.Proofs.YteombggfmeilaaaGreat
open Go.RowKit
theorem RCtx.store {g b : Nat} {d : Drv} {cut : Bool} {N0 : Int} {Q : Own} {w0 w w3 : World} {rows : List (Value × List Value)} {v v' : Value} (h : RCtx g b d cut N0 Q w0 w rows) (xs : List Int) (hc : w.cell? ⟨g, 3, none⟩ = some v) (hR : Row w3 3 v' (ints xs)) (hU : Upd (fun k => v.ownBlock = some k) w w3) (hv : ∀ k, v'.ownBlock = some k → v.ownBlock = some k ∨ w.heap.size ≤ k) :
    RCtx g b { d with out := xs } cut N0 Q w0 (w3.setCell ⟨g, 3, none⟩ v') rows := by
  refine ⟨?_, h.okQ, h.n0, h.clocks, h.mostR, h.le⟩
  refine h.ctx.step2 (runC_ok g b d cut) h.okQ (runC_ok g b _ cut) ?_
  rintro S ⟨ov, h1, h2, h3, h4⟩
  have hc1 := h1.cell 3
  rw [hc] at hc1
  simp only [List.getElem?_cons_succ, List.getElem?_cons_zero, Option.some.injEq] at hc1
  subst hc1
  have hne : ∀ k, v'.ownBlock = some k → k ≠ g := fun k hk e => by
    rcases hv k hk with h | h
    · exact h3 k h e
    · have := h1.lt; omega
  have hu : Upd (fun k => k = g) w3 (w3.setCell ⟨g, 3, none⟩ v') := (Upd.refl _ w3).setCell _ _ (fun _ => rfl)
  refine ⟨fun k => k = g ∨ v'.ownBlock = some k, ⟨v', ?_, hR.upd hu (fun k hk e => hne k hk e), hne, fun _ => Iff.rfl⟩, ?_, ?_⟩
  · exact (h1.upd hU (fun e => h3 g e rfl)).set 3 v'
  · rintro k (hk | hk)
    · exact .inl ((h4 k).2 (.inl hk))
    · exact (hv k hk).imp (fun h => (h4 k).2 (.inr h)) id
  · exact (hU.mono (T := S) (fun k _ hk => (h4 k).2 (.inr hk))).trans (hu.mono (T := S) (fun k _ hk => (h4 k).2 (.inl hk))) (fun _ _ h => h)
theorem RCtx.done {g b : Nat} {d : Drv} {cut : Bool} {N0 : Int} {Q : Own} {w0 w : World} {rows : List (Value × List Value)} (h : RCtx g b d cut N0 Q w0 w rows) (hl : d.out.length ≤ 1048576) {v : Value} (hc : w.cell? ⟨g, 3, none⟩ = some v) : Ctx (RefP b d.s (N0 + d.clocks)) Q w0 w ((v, ints d.out) :: rows) := by
  obtain ⟨S, ⟨A, D, hA, ⟨B, C, hB, hC, d1, e1⟩, d2, e2⟩, h2, h3⟩ := h.ctx.all
  obtain ⟨ov, b1, b2, b3, b4⟩ := hB
  have hc1 := b1.cell 3
  rw [hc] at hc1
  simp only [List.getElem?_cons_succ, List.getElem?_cons_zero, Option.some.injEq] at hc1
  subst hc1
  refine ⟨h.ctx.okP, h.okQ, h.ctx.upd, fun k => A k ∨ C k, ⟨A, C, hA, hC, fun k ha hc => d2 k ha ((e1 k).2 (.inr hc)), fun _ => Iff.rfl⟩, fun k hk => h2 k ((e2 k).2 (hk.imp id fun hc => (e1 k).2 (.inr hc))), fun r hr => ?_⟩
  rcases List.mem_cons.1 hr with rfl | hr
  · refine ⟨b2.rs (by rw [ints_len]; exact hl), fun k hk => ⟨b2.lt k hk, ?_⟩, fun k hk _ => b2.mk k hk⟩
    have hb := (b4 k).2 (.inr hk)
    rintro (h | h)
    · exact d2 k h ((e1 k).2 (.inl hb))
    · exact d1 k hb h
  · exact ⟨(h3 r hr).1, fun k hk => ⟨((h3 r hr).2.1 k hk).1, fun hs => ((h3 r hr).2.1 k hk).2 ((e2 k).2 (hs.imp id fun hc => (e1 k).2 (.inr hc)))⟩, (h3 r hr).2.2⟩
theorem RCtx.make {b : Nat} {s : St} {N0 most : Int} {Q : Own} {w0 w : World} {rows : List (Value × List Value)} (hQ : Q.Ok) (h : Ctx (RefP b s N0) Q w0 w rows) (hn : 0 ≤ N0) (hm : i64B most) :
    RCtx w.heap.size b ⟨s, [], 0, most⟩ false N0 Q w0 (w.alloc (.cells #[.pointer (some ⟨b, 0, none⟩), .int .i64 0, .int .i64 most, .slice none 0 0, .bool false] 166)) rows := by
  refine ⟨?_, hQ, hn, Int.le_refl 0, hm, fun h => h⟩
  have hu := (Upd.refl none' w).alloc (.cells #[.pointer (some ⟨b, 0, none⟩), .int .i64 0, .int .i64 most, .slice none 0 0, .bool false] 166)
  have h0 : Ctx (RefP b s (N0 + 0)) Q w0 w rows := by rw [Int.add_zero]; exact h
  refine h0.add2 (runC_ok w.heap.size b ⟨s, [], 0, most⟩ false) hu (B := fun k => k = w.heap.size) ⟨.slice none 0 0, Blk.new w [.pointer (some ⟨b, 0, none⟩), .int .i64 0, .int .i64 most, .slice none 0 0, .bool false] _, Row.nil _ _, fun k hk => by simp [Value.ownBlock] at hk, fun k => ⟨fun h => .inl h, fun h => h.elim id fun e => by simp [Value.ownBlock] at e⟩⟩ (fun k hk => by omega)
theorem RCtx.tl {g b : Nat} {d : Drv} {cut : Bool} {N0 : Int} {Q : Own} {w0 w : World} {r : Value × List Value} {rows : List (Value × List Value)} (h : RCtx g b d cut N0 Q w0 w (r :: rows)) : RCtx g b d cut N0 Q w0 w rows := ⟨h.ctx.tl, h.okQ, h.n0, h.clocks, h.mostR, h.le⟩
theorem RCtx.row {g b : Nat} {d : Drv} {cut : Bool} {N0 : Int} {Q : Own} {w0 w w' : World} {rows : List (Value × List Value)} (h : RCtx g b d cut N0 Q w0 w rows) (u : Upd none' w w') {r : Value × List Value} (hr : RS w' r.1 r.2) (hn : ∀ k, r.1.ownBlock = some k → w.heap.size ≤ k ∧ k < w'.heap.size) (hz : Mk w' r.1) : RCtx g b d cut N0 Q w0 w' (r :: rows) := ⟨h.ctx.newRow u hr hn hz, h.okQ, h.n0, h.clocks, h.mostR, h.le⟩
theorem RCtx.lit {g b : Nat} {d : Drv} {cut : Bool} {N0 : Int} {Q : Own} {w0 w : World} {rows : List (Value × List Value)} (h : RCtx g b d cut N0 Q w0 w rows) (vs : List Value) (t : TypeId) (n : Nat) (hn : vs.length = n) (hl : n ≤ 1048576) : RCtx g b d cut N0 Q w0 (w.alloc (.cells vs.toArray t)) ((.slice (some ⟨w.heap.size, 0, none⟩) n n, vs) :: rows) := ⟨h.ctx.lit vs t n hn hl, h.okQ, h.n0, h.clocks, h.mostR, h.le⟩
theorem box4 {w : World} {k : Nat} {a b c d : Value} (h : RS w (.slice (some ⟨k, 0, none⟩) 4 4) [a, b, c, d]) : w.cell? ⟨k, 0, none⟩ = some a ∧ w.cell? ⟨k, 1, none⟩ = some b ∧ w.cell? ⟨k, 2, none⟩ = some c ∧ w.cell? ⟨k, 3, none⟩ = some d := by
  obtain ⟨g, o, e, -, hc⟩ := h.cells (by decide)
  simp only [Option.some.injEq, Addr.mk.injEq, and_true] at e
  obtain ⟨rfl, rfl⟩ := e
  exact ⟨hc 0 (by decide), hc 1 (by decide), hc 2 (by decide), hc 3 (by decide)⟩
theorem rrun_full {d e : Drv} {c : Bool} {xs : List Int} (h : rrun (d, c) xs = (e, true)) (ys : List Int) : rrun (d, c) (xs ++ ys) = (e, true) := by
  rw [rrun_app, h]
  rfl
theorem rrun_room {d e : Drv} {c c' : Bool} {N0 n : Int} (h : d.room N0 n) (xs : List Int) (he : rrun (d, c) xs = (e, c')) (m : Int) (hn : xs.length + m ≤ n) : e.room N0 m := by
  have k := rrun_kept (d, c) xs
  rw [he] at k
  exact room_at h xs.length m k.most (by have := k.many; exact this) hn
theorem r_next {g b : Nat} {d e : Drv} {c f : Bool} {N0 n : Int} {Q : Own} {w0 w : World} {rows : List (Value × List Value)} (xs : List Int) (he : rrun (d, c) xs = (e, f)) (h : RCtx g b e f N0 Q w0 w rows) (x : Int) (hx : 0 ≤ x ∧ x ≤ 15) (hr : d.room N0 n) (hn : (xs.length : Int) + 1 ≤ n) :
    Calls Tryz.prog 177 #[.pointer (some ⟨g, 0, none⟩), .int .i64 x] w fun e' w' => ∃ (y : Int) (e2 : Drv) (f2 : Bool), e' = .returned (.int .i64 y) ∧ (f = false → e.full = false → y = (e.s.clock x).2) ∧ (f2 = true → y = 0) ∧ (0 ≤ y ∧ y ≤ 15) ∧ rrun (d, c) (xs ++ [x]) = (e2, f2) ∧ rrun (e, f) [x] = (e2, f2) ∧ RCtx g b e2 f2 N0 Q w0 w' rows := by
  refine (r_step (p := (e, f)) h x hx (rrun_room hr xs he 1 hn)).mono ?_
  rintro e' w' ⟨y, h1, h2, h3, h4⟩
  have h2 : f = false → e.full = false → y = (e.s.clock x).2 := h2
  obtain ⟨⟨e2, f2⟩, hq⟩ : ∃ q, rrun (e, f) [x] = q := ⟨_, rfl⟩
  rw [hq] at h3 h4
  refine ⟨y, e2, f2, h1, h2, h3, ?_, by rw [rrun_app, he, hq], hq, h4⟩
  cases hf : f with
  | true =>
    rw [hf, rrun_cut] at hq
    have hq2 : true = f2 := congrArg Prod.snd hq
    have : y = 0 := h3 hq2.symm
    omega
  | false =>
    cases hu : e.full with
    | true =>
      rw [hf, rrun_one, hu] at hq
      have hq2 : true = f2 := congrArg Prod.snd hq
      have : y = 0 := h3 hq2.symm
      omega
    | false =>
      have := h2 hf hu
      have := clock_bd e.s x
      omega
set_option maxRecDepth 100000 in
set_option maxHeartbeats 4000000 in
theorem r_phase0 {g b : Nat} {d : Drv} {c : Bool} {N0 : Int} {Q : Own} {w0 w : World} {rows : List (Value × List Value)} (h : RCtx g b d c N0 Q w0 w rows) (ba : Option Addr) (bc n : Nat) (hn : n ≤ 400) (hr : d.room N0 n) :
    Calls Tryz.prog 122 #[.pointer (some ⟨g, 0, none⟩), .agg #[.int .i64 0, .slice ba 0 bc, .int .i64 (n : Int), .int .i64 0]] w fun e w' => ∃ (e2 : Drv) (f2 : Bool), e = .returned (.tuple #[]) ∧ rrun (d, c) (List.replicate n 15) = (e2, f2) ∧ RCtx g b e2 f2 N0 Q w0 w' rows := by
  have h1 := h.lit [.int .i64 0, .slice ba 0 bc, .int .i64 (n : Int), .int .i64 0] 156 4 rfl (by decide)
  obtain ⟨k, hk⟩ : ∃ k, w.heap.size = k := ⟨_, rfl⟩
  obtain ⟨k0, k1, k2, k3⟩ := box4 (by have := h1.ctx.rs 0 rfl; rw [hk] at this; exact this)
  have H := Lib.hid h1
  have HR := Lib.hid hr
  clear h h1 hr
  go_enter Tryz.func122, Tryz.ntmps122
  go_wp2_with fail
  clear k0 k1 k2 k3
  go_loopw [4] (fun iv wr => ∃ (i : Nat) (e : Drv) (f : Bool), i ≤ n ∧ iv = .int .i64 (i : Int) ∧ Hid (rrun (d, c) (List.replicate i 15) = (e, f)) ∧ RCtx g b e f N0 Q w0 wr ((.slice (some ⟨k, 0, none⟩) 4 4, [.int .i64 0, .slice ba 0 bc, .int .i64 (n : Int), .int .i64 0]) :: rows)) (fun iv _ => n - (intOf iv).toNat)
  case atStart => exact ⟨0, d, c, by omega, rfl, Lib.hid (rrun_nil _), by rw [← hk]; exact H.out⟩
  case round =>
    clear H
    rename World => W2
    obtain ⟨i, e, f, hi, rfl, hrun, hC⟩ := hrel
    obtain ⟨k0, k1, k2, k3⟩ := box4 (hC.ctx.rs 0 rfl)
    obtain ⟨oa, oc, -, -, -, -, c4, -⟩ := hC.cells
    have HC := Lib.hid hC
    clear hC
    by_cases hlt : i < n
    · cases hf : f with
      | false =>
        rw [hf] at c4
        clear k1
        have HST := Lib.hid (r_next _ hrun.out HC.out 15 (by decide) HR.out (by rw [List.length_replicate]; omega))
        go_wp2_with (go_at_call 177; refine HST.out.mono ?_; rintro e' w2 ⟨y, e2, f2, rfl, -, -, -, hq, -, hC2⟩)
        refine ⟨?rel, ?measure⟩
        case rel => exact ⟨i + 1, e2, f2, by omega, by go_num, Lib.hid (by rw [List.replicate_succ']; exact hq), hC2⟩
        case measure => simp [intOf]; omega
      | true =>
        rw [hf] at c4
        have HF : Hid (rrun (d, c) (List.replicate n 15) = (e, f)) := Lib.hid (by
          rw [hf]
          have h1 := hrun.out
          rw [hf] at h1
          have := rrun_full h1 (List.replicate (n - i) 15)
          rw [List.replicate_append_replicate, show i + (n - i) = n by omega] at this
          exact this)
        clear hrun hf
        clear k1
        go_wp2_with fail
        clear c4 k0 k2 k3
        go_loopw [5] (fun iv wr => iv = .int .i64 0 ∧ RCtx g b e f N0 Q w0 wr ((.slice (some ⟨k, 0, none⟩) 4 4, [.int .i64 0, .slice ba 0 bc, .int .i64 (n : Int), .int .i64 0]) :: rows)) (fun _ _ => 0)
        case atStart => exact ⟨rfl, HC.out⟩
        case round =>
          clear HC
          rename World => W3
          obtain ⟨rfl, hC⟩ := hrel
          obtain ⟨k0, k1, k2, k3⟩ := box4 (hC.ctx.rs 0 rfl)
          have HC := Lib.hid hC
          clear hC
          go_wp2_with fail
          clear k0 k1 k2 k3
          go_loopw [9] (fun iv wr => iv = .int .i64 0 ∧ RCtx g b e f N0 Q w0 wr ((.slice (some ⟨k, 0, none⟩) 4 4, [.int .i64 0, .slice ba 0 bc, .int .i64 (n : Int), .int .i64 0]) :: rows)) (fun _ _ => 0)
          case atStart => exact ⟨rfl, HC.out⟩
          case round =>
            clear HC
            rename World => W4
            obtain ⟨rfl, hC⟩ := hrel
            obtain ⟨k0, k1, k2, k3⟩ := box4 (hC.ctx.rs 0 rfl)
            obtain ⟨oa, oc, -, -, -, -, c4, -⟩ := hC.cells
            have HC := Lib.hid hC.tl
            clear hC k1
            go_wp2
            go_end0
            exact ⟨e, f, rfl, HF.out, HC.out⟩
    · obtain rfl : n = i := by omega
      have HF := hrun
      clear hrun
      clear k1
      go_wp2_with fail
      clear c4 k0 k2 k3
      go_loopw [5] (fun iv wr => iv = .int .i64 0 ∧ RCtx g b e f N0 Q w0 wr ((.slice (some ⟨k, 0, none⟩) 4 4, [.int .i64 0, .slice ba 0 bc, .int .i64 (n : Int), .int .i64 0]) :: rows)) (fun _ _ => 0)
      case atStart => exact ⟨rfl, HC.out⟩
      case round =>
        clear HC
        rename World => W3
        obtain ⟨rfl, hC⟩ := hrel
        obtain ⟨k0, k1, k2, k3⟩ := box4 (hC.ctx.rs 0 rfl)
        have HC := Lib.hid hC
        clear hC
        go_wp2_with fail
        clear k0 k1 k2 k3
        go_loopw [9] (fun iv wr => iv = .int .i64 0 ∧ RCtx g b e f N0 Q w0 wr ((.slice (some ⟨k, 0, none⟩) 4 4, [.int .i64 0, .slice ba 0 bc, .int .i64 (n : Int), .int .i64 0]) :: rows)) (fun _ _ => 0)
        case atStart => exact ⟨rfl, HC.out⟩
        case round =>
          clear HC
          rename World => W4
          obtain ⟨rfl, hC⟩ := hrel
          obtain ⟨k0, k1, k2, k3⟩ := box4 (hC.ctx.rs 0 rfl)
          obtain ⟨oa, oc, -, -, -, -, c4, -⟩ := hC.cells
          have HC := Lib.hid hC.tl
          clear hC k1
          go_wp2
          go_end0
          exact ⟨e, f, rfl, HF.out, HC.out⟩
end Go.Proofs.YteombggfmeilaaaGreat
namespace Go.Proofs.YteombggfmeilaaaGreat
open Go.RowKit
theorem rget_kept (p : Drv × Bool) (l : Int) (hl : l = 1 ∨ l = 4) : p.1.Kept (rget p l).1 (8 / l) := by
  obtain ⟨d, c⟩ := p
  cases c with
  | true => exact (Drv.Kept.refl d).mono (by rcases hl with rfl | rfl <;> decide)
  | false => exact get_kept d l hl
theorem rgets_kept (p : Drv × Bool) (l : Int) (hl : l = 1 ∨ l = 4) (n : Nat) : p.1.Kept (rgets p l n).1 (n * (8 / l)) := by
  induction n with
  | zero => exact (Drv.Kept.refl p.1).mono (by rw [show ((0 : Nat) : Int) * (8 / l) = 0 from Int.zero_mul _]; decide)
  | succ n ih =>
    have h := ih.trans (rget_kept (rgets p l n) l hl)
    rw [show ((n + 1 : Nat) : Int) * (8 / l) = (n : Int) * (8 / l) + 8 / l from by rw [Int.natCast_add, Int.add_mul]; omega]
    exact h
theorem or14r (v : Int) (h : v = 0 ∨ v = 1) : bits .or .i64 14 v = 14 + v := by
  rcases h with rfl | rfl <;> decide +kernel
theorem inL_step1 (d : Drv) (j : Nat) (h : (d.run (List.replicate j 15)).2.2 = true) (hf : (d.run (List.replicate j 15)).1.full = false) (l : Int) :
    inL l (d.run (List.replicate (j + 1) 15)).2.1 = if l = 1 then inL l (d.run (List.replicate j 15)).2.1 * 2 + ((d.run (List.replicate j 15)).1.s.clock 15).2 / 2 % 2 else inL l (d.run (List.replicate j 15)).2.1 * 16 + ((d.run (List.replicate j 15)).1.s.clock 15).2 := by
  rw [List.replicate_succ', run_app, h]
  simp only [if_true, Drv.run, hf, Bool.false_eq_true, if_false]
  unfold inL
  split
  · rw [List.foldl_append]; rfl
  · rw [List.foldl_append]; rfl
def SoFar (d : Drv) (l : Int) (j : Nat) (f : Bool) (x : Int) : Prop := (0 ≤ x ∧ x < (if l = 1 then 2 else 16) ^ j) ∧ (f = false → x = inL l (d.run (List.replicate j 15)).2.1)
theorem soFar_bd {d : Drv} {l x : Int} {j : Nat} {f : Bool} (h : SoFar d l j f x) (hl : l = 1 ∧ j ≤ 8 ∨ l = 4 ∧ j ≤ 2) : 0 ≤ x ∧ x ≤ 255 := by
  obtain ⟨⟨h1, h2⟩, -⟩ := h
  refine ⟨h1, ?_⟩
  rcases hl with ⟨rfl, h⟩ | ⟨rfl, h⟩
  · rw [if_pos rfl] at h2
    have : (2 : Int) ^ j ≤ 2 ^ 8 := by
      rcases (show j = 0 ∨ j = 1 ∨ j = 2 ∨ j = 3 ∨ j = 4 ∨ j = 5 ∨ j = 6 ∨ j = 7 ∨ j = 8 by omega) with rfl | rfl | rfl | rfl | rfl | rfl | rfl | rfl | rfl <;> decide
    omega
  · rw [if_neg (by decide)] at h2
    have : (16 : Int) ^ j ≤ 16 ^ 2 := by
      rcases (show j = 0 ∨ j = 1 ∨ j = 2 by omega) with rfl | rfl | rfl <;> decide
    omega
theorem rrun_ok {d e : Drv} {xs : List Int} (h : rrun (d, false) xs = (e, false)) : (d.run xs).2.2 = true ∧ (d.run xs).1 = e := by
  unfold rrun at h
  simp only [Bool.false_eq_true, if_false, Prod.mk.injEq] at h
  exact ⟨by simpa using h.2, h.1⟩
theorem soFar1 {d e e2 : Drv} {j : Nat} {f f2 : Bool} {x y : Int} (hs : SoFar d 1 j f x) (hr : rrun (d, false) (List.replicate j 15) = (e, f)) (h2 : rrun (e, f) [15] = (e2, f2)) (_ : 0 ≤ y ∧ y ≤ 15) (hv : f = false → e.full = false → y = (e.s.clock 15).2) : SoFar d 1 (j + 1) f2 (x * 2 + y / 2 % 2) := by
  obtain ⟨⟨s1, s2⟩, s3⟩ := hs
  rw [if_pos rfl] at s2
  refine ⟨⟨by omega, by rw [if_pos rfl, Int.pow_succ]; omega⟩, fun hf2 => ?_⟩
  subst hf2
  cases f with
  | true => rw [rrun_cut] at h2; exact absurd (show true = false from congrArg Prod.snd h2) (by decide)
  | false =>
    obtain ⟨r1, r2⟩ := rrun_ok hr
    cases hu : e.full with
    | true => rw [rrun_one, hu] at h2; exact absurd (show true = false from congrArg Prod.snd h2) (by decide)
    | false => rw [inL_step1 d j r1 (by rw [r2]; exact hu), if_pos rfl, ← s3 rfl, r2, ← hv rfl hu]
theorem soFar4 {d e e2 : Drv} {j : Nat} {f f2 : Bool} {x y : Int} (hs : SoFar d 4 j f x) (hr : rrun (d, false) (List.replicate j 15) = (e, f)) (h2 : rrun (e, f) [15] = (e2, f2)) (hy : 0 ≤ y ∧ y ≤ 15) (hv : f = false → e.full = false → y = (e.s.clock 15).2) : SoFar d 4 (j + 1) f2 (x * 16 + y) := by
  obtain ⟨⟨s1, s2⟩, s3⟩ := hs
  rw [if_neg (by decide)] at s2
  refine ⟨⟨by omega, by rw [if_neg (by decide), Int.pow_succ]; omega⟩, fun hf2 => ?_⟩
  subst hf2
  cases f with
  | true => rw [rrun_cut] at h2; exact absurd (show true = false from congrArg Prod.snd h2) (by decide)
  | false =>
    obtain ⟨r1, r2⟩ := rrun_ok hr
    cases hu : e.full with
    | true => rw [rrun_one, hu] at h2; exact absurd (show true = false from congrArg Prod.snd h2) (by decide)
    | false => rw [inL_step1 d j r1 (by rw [r2]; exact hu), if_neg (by decide), ← s3 rfl, r2, ← hv rfl hu]
theorem rget_ok {d e : Drv} {l x : Int} {k : Nat} (hk : (8 / l).toNat = k) (h : rrun (d, false) (List.replicate k 15) = (e, false)) (hs : SoFar d l k false x) : rget (d, false) l = ({ e with out := e.out ++ [x] }, false) := by
  obtain ⟨r1, r2⟩ := rrun_ok h
  have ho := (run_keep (List.replicate k 15) d).1
  subst hk
  unfold rget Drv.get
  simp only [Bool.false_eq_true, if_false]
  rw [if_pos r1, ← hs.2 rfl, r2]
  rw [r2] at ho
  rw [ho]
  rfl
theorem rget_bad {d e : Drv} {l : Int} {k : Nat} (hk : (8 / l).toNat = k) (h : rrun (d, false) (List.replicate k 15) = (e, true)) : rget (d, false) l = (e, true) := by
  subst hk
  unfold rrun at h
  simp only [Bool.false_eq_true, if_false, Prod.mk.injEq] at h
  have h2 : (d.run (List.replicate (8 / l).toNat 15)).2.2 = false := by simpa using h.2
  unfold rget Drv.get
  simp only [Bool.false_eq_true, if_false]
  rw [if_neg (by rw [h2]; decide), h.1]
  rfl
theorem rgets_full {e e' : Drv} {c : Bool} {l : Int} {q : Nat} (h : rgets (e, c) l q = (e', true)) (n : Nat) (hn : q ≤ n) : rgets (e, c) l n = (e', true) := by
  have := rgets_same (p := (e, c)) (l := l) (i := q) (by rw [h]) (n - q)
  rw [show q + (n - q) = n by omega, h] at this
  exact this
end Go.Proofs.YteombggfmeilaaaGreat
