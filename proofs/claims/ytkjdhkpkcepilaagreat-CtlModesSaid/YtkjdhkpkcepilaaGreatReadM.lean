/- The controller that leaves once more; reads that go on, over a controller whose way to leave was made (printed by gen_modes.py, out of XCtlV and XReadG). · Any command that reads; behind a read that goes on. · A controller at rest, whatever was read before: reads of each sort. -/
import Derived.Test.YtkjdhkpkcepilaaGreatCtlV
import Derived.Test.YtkjdhkpkcepilaaGreatCtlR
namespace Go.Proofs.YtkjdhkpkcepilaaGreat
open Go.RowKit
set_option maxHeartbeats 1000000 in
/-- The way to leave, once more. -/
theorem c_leaveW {P Q : Own} {w0 w : World} {rows : List (Value × List Value)} {gl k b fo fi : Nat} {K : KS} (hC : Ctx P ((CtlM gl k b fo fi K).star Q) w0 w rows) :
    Calls Tryz.prog 67 #[.pointer (some ⟨k, 0, none⟩)] w fun e w' => e = .returned (.slice (some ⟨gl, 0, none⟩) 1 1) ∧ Ctx P ((CtlM gl k b fo fi K).star Q) w0 w' rows := by
  have hmf : ∀ (fn : Fn) (first cap : Array Value) (w : World), (Instr.makeFunc fn first cap).run Tryz.prog w = .ok (.func fn first cap) w := fun _ _ _ _ => rfl
  have HA := Lib.hid (hC.alloc (.cells #[.pointer (some ⟨k, 0, none⟩)] 44))
  obtain ⟨S, ⟨h1, h2⟩, h3⟩ := HA.out.get2
  have c10 := h1.cell 10
  have c13 := h1.cell 13
  simp only [KS.cellsM, List.getElem?_cons_succ, List.getElem?_cons_zero] at c10 c13
  have HD := Lib.hid (fun fv => once_done ⟨k, 10, none⟩ fv _ c10)
  clear hC h1 h2 h3
  go_enter Tryz.func67, Tryz.ntmps67
  go_wp2_with (go_at_call 102; refine (HD.out _).mono ?_; rintro e w' ⟨rfl, rfl⟩)
  go_ret
  exact ⟨rfl, HA.out⟩
set_option maxRecDepth 100000 in
set_option maxHeartbeats 8000000 in
theorem c_run_leave2 {Q : Own} {w0 w : World} {b : Nat} {s : St} {N : Int} {rows : List (Value × List Value)} {k fo fi : Nat} {K : KS} (hQ : Q.Ok) (hC : Ctx (ChipP b s N) ((CtlC k b fo fi K).star Q) w0 w rows) (hN : 0 ≤ N) (hsel : s.sel = false) (hkl : -9223372036854775808 ≤ K.left ∧ K.left ≤ 9223372036854775807) (hkc0 : 0 ≤ K.clocks ∧ K.clocks ≤ 1048560)
    (hlost : K.lost = false) (hgo : K.goes = true) (hleft : K.left = -1) (c : Int) (hc : opIs c = true) (hc2 : c ≠ 235) (at_ : Int) (a : Option Addr) (cp : Nat) (data : List Int) (hdd : (.slice a data.length cp, ints data) ∈ rows) (read : Int) (hmay : cmdMay (opOf c) at_ data read = true) (d1 : Drv) (hd1 : Drv.phases ⟨s.select, [], 0, -1⟩ [leavePh] = (d1, true)) (hdc1 : d1.clocks = 8) (hds1 : d1.s.deselect.sel = false) (hroom : N + 9 + phsMany (cmdPhs (opOf c) at_ data read) ≤ 1048575) (d : Drv) (hd : Drv.phases ⟨d1.s.deselect.select, [], 0, -1⟩ (cmdPhs (opOf c) at_ data read) = (d, true)) :
    Calls Tryz.prog 36 #[.pointer (some ⟨k, 0, none⟩), .int .i64 c, .int .i64 at_, .slice a data.length cp, .int .i64 read] w fun e w' => ∃ h gl oa oc, e = .returned (.tuple #[.slice oa d.out.length oc, .int .i64 0]) ∧ Ctx (ChipP b d.s.deselect (N + d1.clocks + 1 + d.clocks + 1)) ((CtlM gl k b fo fi (({ K.driven d1 with goes := false } : KS).driven d)).star Q) w0 w' ((.slice oa d.out.length oc, ints d.out) :: (leaveRows h gl ++ rows)) := by
  have hkc : 0 ≤ K.clocks ∧ K.clocks ≤ 1048576 := by omega
  have hcall := cmd_all c hc at_ data read hmay
  have hfind := tab_find c hc
  have hst := k_state hC
  rw [hlost] at hst
  have hcmd := fun w1 (h : Ctx (ChipP b s N) ((CtlC k b fo fi K).star Q) w0 w1 rows) => c_command ((ctlC_ok k b fo fi K).star hQ) h c hc at_ a cp data hdd read hmay
  have HLV : Hid (∀ w1 rows1, Ctx (ChipP b s N) ((CtlC k b fo fi K).star Q) w0 w1 rows1 → _) := Lib.hid (fun w1 rows1 h => c_leaving (k := k) (b := b) (fo := fo) (fi := fi) (K := K) hQ h)
  have HD1 : Hid (∀ w1 rows1 gl h (hC : Ctx (ChipP b s N) ((CtlM gl k b fo fi K).star Q) w0 w1 rows1) (hs : ∀ r ∈ leaveRows h gl, r ∈ rows1), _) := Lib.hid (fun w1 rows1 gl h hC hs => kM_drive hQ hC hN hsel (some ⟨gl, 0, none⟩) 1 1 _ (leave_phs h gl hs) hkl hkc hlost (by kernel_rfl) (by show N + 8 ≤ 1048575; have := phsMany_bd _ hcall; omega) d1 (by rw [hleft]; exact hd1))
  have HD2 : Hid (∀ w1 rows1 gl (h : Ctx (ChipP b d1.s.deselect (N + d1.clocks + 1)) ((CtlM gl k b fo fi { K.driven d1 with goes := false }).star Q) w0 w1 rows1) g m cap L (hP : PhsV rows1 (.slice (some ⟨g, 0, none⟩) m cap) L) (hL : L.map Prod.fst = cmdPhs (opOf c) at_ data read), _) := Lib.hid (fun w1 rows1 gl h g m cap L hP hL => kM_drive hQ h (by omega) hds1 (some ⟨g, 0, none⟩) m cap L hP (by unfold KS.driven; dsimp only; rw [if_neg (by omega)]; exact hkl) (by unfold KS.driven; dsimp only; omega) (by unfold KS.driven; exact hlost) (by rw [← map_all, hL]; exact hcall) (by rw [hL]; omega) d (by rw [hL, show ({ K.driven d1 with goes := false } : KS).left = -1 from by unfold KS.driven; dsimp only; rw [if_neg (by omega)]; exact hleft]; exact hd))
  have HSET1 : Hid (∀ w1 rows1 gl, Ctx (ChipP b d1.s.deselect (N + d1.clocks + 1)) ((CtlM gl k b fo fi (K.driven d1)).star Q) w0 w1 rows1 → Ctx (ChipP b d1.s.deselect (N + d1.clocks + 1)) ((CtlM gl k b fo fi { K.driven d1 with goes := false }).star Q) w0 (w1.setCell ⟨k, 7, none⟩ (.bool false)) rows1) := Lib.hid (fun w1 rows1 gl h => ctlM_set hQ h 7 (.bool false) rfl)
  have HSET2 : Hid (∀ w1 rows1 gl, Ctx (ChipP b d.s.deselect (N + d1.clocks + 1 + d.clocks + 1)) ((CtlM gl k b fo fi (({ K.driven d1 with goes := false } : KS).driven d)).star Q) w0 w1 rows1 → Ctx (ChipP b d.s.deselect (N + d1.clocks + 1 + d.clocks + 1)) ((CtlM gl k b fo fi (({ K.driven d1 with goes := false } : KS).driven d)).star Q) w0 (w1.setCell ⟨k, 7, none⟩ (.bool false)) rows1) := Lib.hid (fun w1 rows1 gl h => ctlM_set hQ h 7 (.bool false) rfl)
  have HG1 : Hid (∀ w1 rows1 gl, Ctx (ChipP b d1.s.deselect (N + d1.clocks + 1)) ((CtlM gl k b fo fi (K.driven d1)).star Q) w0 w1 rows1 → w1.cell? ⟨k, 7, none⟩ = some (.bool true) ∧ w1.frozen? ⟨k, 7, none⟩ = false) := Lib.hid (fun w1 rows1 gl h => by
    obtain ⟨-, -, e7, -, -, ef, -⟩ := ctlM_cells h
    refine ⟨?_, ef 7⟩
    rw [e7]
    unfold KS.driven
    rw [hgo])
  have HG2 : Hid (∀ w1 rows1 gl, Ctx (ChipP b d.s.deselect (N + d1.clocks + 1 + d.clocks + 1)) ((CtlM gl k b fo fi (({ K.driven d1 with goes := false } : KS).driven d)).star Q) w0 w1 rows1 → w1.cell? ⟨k, 7, none⟩ = some (.bool false) ∧ w1.frozen? ⟨k, 7, none⟩ = false) := Lib.hid (fun w1 rows1 gl h => by
    obtain ⟨-, -, e7, -, -, ef, -⟩ := ctlM_cells h
    exact ⟨e7, ef 7⟩)
  have HG0 : Hid (∀ w1 rows1, Ctx (ChipP b s N) ((CtlC k b fo fi K).star Q) w0 w1 rows1 → w1.cell? ⟨k, 7, none⟩ = some (.bool true)) := Lib.hid (fun w1 rows1 h => by
    obtain ⟨-, -, e7, -⟩ := ctl_cells h
    rw [e7, hgo])
  have HC := Lib.hid hC
  obtain ⟨o, ho⟩ : ∃ o, opOf c = o := ⟨_, rfl⟩
  rw [ho] at hfind hcmd HD2
  obtain ⟨by', ad, mo, du, da, inn⟩ := o
  unfold POp.cells at hfind hcmd
  dsimp only at hfind hcmd
  have HFIND := Lib.hid hfind
  have HCMD := Lib.hid hcmd
  have HST := Lib.hid hst
  have hcb : (c == 235) = false := by simpa using hc2
  clear hcall hfind hst hcmd hC hc ho hd hmay hroom hdd hlost hgo hleft hd1 hds1 hkl hkc hsel hN
  go_enter Tryz.func36, Tryz.ntmps36
  go_upto_region 8 with (first | (go_at_call 63; refine HST.out.mono ?_; rintro e w1 ⟨rfl, rfl⟩) | (go_at_call 64; refine (HFIND.out _).mono ?_; rintro e w2 ⟨rfl, hU2⟩; have HC2 := Lib.hid ((HC.out.frame hU2).alloc (.cells #[.int .i64 by', .int .i64 ad, .bool mo, .int .i64 du, .int .i64 da, .bool inn] 28))) | (go_at_call 65; refine (HCMD.out _ HC2.out).mono ?_; rintro e w3 ⟨g, m, cap, L, rows', rfl, hL, hC3, hP3⟩; have c7 := HG0.out _ _ hC3))
  have HLV2 := Lib.hid (HLV.out _ _ hC3)
  have HP3 := Lib.hid (And.intro hP3 hL)
  clear hC3 hP3 hL HCMD HFIND HST HC HLV
  go_upto_region 12 with (first | (go_at_call 67; refine HLV2.out.mono ?_; rintro e w4 ⟨h, gl, rfl, hC4⟩; have HD1a := Lib.hid (HD1.out _ _ gl h hC4 (fun r hr => List.mem_append_left _ hr)); clear hC4) | (go_at_call 66; refine HD1a.out.mono ?_; rintro e w5 ⟨oa5, oc5, rfl, hC5⟩; obtain ⟨d7, df7⟩ := HG1.out _ _ _ hC5))
  have HC5 := Lib.hid (HSET1.out _ _ _ hC5)
  have HD2a := Lib.hid (HD2.out _ _ _ HC5.out g m cap L (HP3.out.1.sub fun r hr => List.mem_cons_of_mem _ (List.mem_append_right _ hr)) HP3.out.2)
  clear hC5 HLV2 HD1 HD1a HSET1 HG1 HD2
  go_wp2_with (go_at_call 66; refine HD2a.out.mono ?_; rintro e w6 ⟨oa, oc, rfl, hC6⟩; obtain ⟨e7, ef7⟩ := HG2.out _ _ _ hC6)
  have hC7 := HSET2.out _ _ _ hC6
  go_ret2
  refine ⟨h, gl, oa, oc, rfl, hC7.sub fun r hr => ?_⟩
  rcases List.mem_cons.1 hr with h | h
  · exact List.mem_cons.2 (.inl h)
  · rcases List.mem_append.1 h with h | h
    · exact List.mem_cons_of_mem _ (List.mem_cons_of_mem _ (List.mem_append_left _ h))
    · exact List.mem_cons_of_mem _ (List.mem_cons_of_mem _ (List.mem_append_right _ (List.mem_append.2 (.inr h))))
set_option maxRecDepth 100000 in
set_option maxHeartbeats 8000000 in
theorem cM_run_leave {Q : Own} {w0 w : World} {b : Nat} {s : St} {N : Int} {rows : List (Value × List Value)} {h gl k fo fi : Nat} {K : KS} (hQ : Q.Ok) (hC : Ctx (ChipP b s N) ((CtlM gl k b fo fi K).star Q) w0 w rows) (hN : 0 ≤ N) (hsel : s.sel = false) (hkl : -9223372036854775808 ≤ K.left ∧ K.left ≤ 9223372036854775807) (hkc0 : 0 ≤ K.clocks ∧ K.clocks ≤ 1048560)
    (hlost : K.lost = false) (hgo : K.goes = true) (hleft : K.left = -1) (c : Int) (hc : opIs c = true) (hc2 : c ≠ 235) (at_ : Int) (a : Option Addr) (cp : Nat) (data : List Int) (hlv : ∀ r ∈ leaveRows h gl, r ∈ rows) (hdd : (.slice a data.length cp, ints data) ∈ rows) (read : Int) (hmay : cmdMay (opOf c) at_ data read = true) (d1 : Drv) (hd1 : Drv.phases ⟨s.select, [], 0, -1⟩ [leavePh] = (d1, true)) (hdc1 : d1.clocks = 8) (hds1 : d1.s.deselect.sel = false) (hroom : N + 9 + phsMany (cmdPhs (opOf c) at_ data read) ≤ 1048575) (d : Drv) (hd : Drv.phases ⟨d1.s.deselect.select, [], 0, -1⟩ (cmdPhs (opOf c) at_ data read) = (d, true)) :
    Calls Tryz.prog 36 #[.pointer (some ⟨k, 0, none⟩), .int .i64 c, .int .i64 at_, .slice a data.length cp, .int .i64 read] w fun e w' => ∃ oa oc, e = .returned (.tuple #[.slice oa d.out.length oc, .int .i64 0]) ∧ Ctx (ChipP b d.s.deselect (N + d1.clocks + 1 + d.clocks + 1)) ((CtlM gl k b fo fi (({ K.driven d1 with goes := false } : KS).driven d)).star Q) w0 w' ((.slice oa d.out.length oc, ints d.out) :: rows) := by
  have hkc : 0 ≤ K.clocks ∧ K.clocks ≤ 1048576 := by omega
  have hcall := cmd_all c hc at_ data read hmay
  have hfind := tab_find c hc
  have hst := kM_state hC
  rw [hlost] at hst
  have hcmd := fun w1 (h : Ctx (ChipP b s N) ((CtlM gl k b fo fi K).star Q) w0 w1 rows) => c_command ((ctlM_ok gl k b fo fi K).star hQ) h c hc at_ a cp data hdd read hmay
  have HLV : Hid (∀ w1 rows1, Ctx (ChipP b s N) ((CtlM gl k b fo fi K).star Q) w0 w1 rows1 → _) := Lib.hid (fun w1 rows1 h => c_leaveW (gl := gl) (k := k) (b := b) (fo := fo) (fi := fi) (K := K) h)
  have HLR := Lib.hid hlv
  have HD1 : Hid (∀ w1 rows1 gl h (hC : Ctx (ChipP b s N) ((CtlM gl k b fo fi K).star Q) w0 w1 rows1) (hs : ∀ r ∈ leaveRows h gl, r ∈ rows1), _) := Lib.hid (fun w1 rows1 gl h hC hs => kM_drive hQ hC hN hsel (some ⟨gl, 0, none⟩) 1 1 _ (leave_phs h gl hs) hkl hkc hlost (by kernel_rfl) (by show N + 8 ≤ 1048575; have := phsMany_bd _ hcall; omega) d1 (by rw [hleft]; exact hd1))
  have HD2 : Hid (∀ w1 rows1 gl (h : Ctx (ChipP b d1.s.deselect (N + d1.clocks + 1)) ((CtlM gl k b fo fi { K.driven d1 with goes := false }).star Q) w0 w1 rows1) g m cap L (hP : PhsV rows1 (.slice (some ⟨g, 0, none⟩) m cap) L) (hL : L.map Prod.fst = cmdPhs (opOf c) at_ data read), _) := Lib.hid (fun w1 rows1 gl h g m cap L hP hL => kM_drive hQ h (by omega) hds1 (some ⟨g, 0, none⟩) m cap L hP (by unfold KS.driven; dsimp only; rw [if_neg (by omega)]; exact hkl) (by unfold KS.driven; dsimp only; omega) (by unfold KS.driven; exact hlost) (by rw [← map_all, hL]; exact hcall) (by rw [hL]; omega) d (by rw [hL, show ({ K.driven d1 with goes := false } : KS).left = -1 from by unfold KS.driven; dsimp only; rw [if_neg (by omega)]; exact hleft]; exact hd))
  have HSET1 : Hid (∀ w1 rows1 gl, Ctx (ChipP b d1.s.deselect (N + d1.clocks + 1)) ((CtlM gl k b fo fi (K.driven d1)).star Q) w0 w1 rows1 → Ctx (ChipP b d1.s.deselect (N + d1.clocks + 1)) ((CtlM gl k b fo fi { K.driven d1 with goes := false }).star Q) w0 (w1.setCell ⟨k, 7, none⟩ (.bool false)) rows1) := Lib.hid (fun w1 rows1 gl h => ctlM_set hQ h 7 (.bool false) rfl)
  have HSET2 : Hid (∀ w1 rows1 gl, Ctx (ChipP b d.s.deselect (N + d1.clocks + 1 + d.clocks + 1)) ((CtlM gl k b fo fi (({ K.driven d1 with goes := false } : KS).driven d)).star Q) w0 w1 rows1 → Ctx (ChipP b d.s.deselect (N + d1.clocks + 1 + d.clocks + 1)) ((CtlM gl k b fo fi (({ K.driven d1 with goes := false } : KS).driven d)).star Q) w0 (w1.setCell ⟨k, 7, none⟩ (.bool false)) rows1) := Lib.hid (fun w1 rows1 gl h => ctlM_set hQ h 7 (.bool false) rfl)
  have HG1 : Hid (∀ w1 rows1 gl, Ctx (ChipP b d1.s.deselect (N + d1.clocks + 1)) ((CtlM gl k b fo fi (K.driven d1)).star Q) w0 w1 rows1 → w1.cell? ⟨k, 7, none⟩ = some (.bool true) ∧ w1.frozen? ⟨k, 7, none⟩ = false) := Lib.hid (fun w1 rows1 gl h => by
    obtain ⟨-, -, e7, -, -, ef, -⟩ := ctlM_cells h
    refine ⟨?_, ef 7⟩
    rw [e7]
    unfold KS.driven
    rw [hgo])
  have HG2 : Hid (∀ w1 rows1 gl, Ctx (ChipP b d.s.deselect (N + d1.clocks + 1 + d.clocks + 1)) ((CtlM gl k b fo fi (({ K.driven d1 with goes := false } : KS).driven d)).star Q) w0 w1 rows1 → w1.cell? ⟨k, 7, none⟩ = some (.bool false) ∧ w1.frozen? ⟨k, 7, none⟩ = false) := Lib.hid (fun w1 rows1 gl h => by
    obtain ⟨-, -, e7, -, -, ef, -⟩ := ctlM_cells h
    exact ⟨e7, ef 7⟩)
  have HG0 : Hid (∀ w1 rows1, Ctx (ChipP b s N) ((CtlM gl k b fo fi K).star Q) w0 w1 rows1 → w1.cell? ⟨k, 7, none⟩ = some (.bool true)) := Lib.hid (fun w1 rows1 h => by
    obtain ⟨-, -, e7, -⟩ := ctlM_cells h
    rw [e7, hgo])
  have HC := Lib.hid hC
  obtain ⟨o, ho⟩ : ∃ o, opOf c = o := ⟨_, rfl⟩
  rw [ho] at hfind hcmd HD2
  obtain ⟨by', ad, mo, du, da, inn⟩ := o
  unfold POp.cells at hfind hcmd
  dsimp only at hfind hcmd
  have HFIND := Lib.hid hfind
  have HCMD := Lib.hid hcmd
  have HST := Lib.hid hst
  have hcb : (c == 235) = false := by simpa using hc2
  clear hlv hcall hfind hst hcmd hC hc ho hd hmay hroom hdd hlost hgo hleft hd1 hds1 hkl hkc hsel hN
  go_enter Tryz.func36, Tryz.ntmps36
  go_upto_region 8 with (first | (go_at_call 63; refine HST.out.mono ?_; rintro e w1 ⟨rfl, rfl⟩) | (go_at_call 64; refine (HFIND.out _).mono ?_; rintro e w2 ⟨rfl, hU2⟩; have HC2 := Lib.hid ((HC.out.frame hU2).alloc (.cells #[.int .i64 by', .int .i64 ad, .bool mo, .int .i64 du, .int .i64 da, .bool inn] 28))) | (go_at_call 65; refine (HCMD.out _ HC2.out).mono ?_; rintro e w3 ⟨g, m, cap, L, rows', rfl, hL, hC3, hP3⟩; have c7 := HG0.out _ _ hC3))
  have HLV2 := Lib.hid (HLV.out _ _ hC3)
  have HP3 := Lib.hid (And.intro hP3 hL)
  clear hC3 hP3 hL HCMD HFIND HST HC HLV
  go_upto_region 12 with (first | (go_at_call 67; refine HLV2.out.mono ?_; rintro e w4 ⟨rfl, hC4⟩; have HD1a := Lib.hid (HD1.out _ _ gl h hC4 (fun r hr => List.mem_append_right _ (HLR.out r hr))); clear hC4) | (go_at_call 66; refine HD1a.out.mono ?_; rintro e w5 ⟨oa5, oc5, rfl, hC5⟩; obtain ⟨d7, df7⟩ := HG1.out _ _ _ hC5))
  have HC5 := Lib.hid (HSET1.out _ _ _ hC5)
  have HD2a := Lib.hid (HD2.out _ _ _ HC5.out g m cap L (HP3.out.1.sub fun r hr => List.mem_cons_of_mem _ hr) HP3.out.2)
  clear hC5 HLV2 HD1 HD1a HSET1 HG1 HD2
  go_wp2_with (go_at_call 66; refine HD2a.out.mono ?_; rintro e w6 ⟨oa, oc, rfl, hC6⟩; obtain ⟨e7, ef7⟩ := HG2.out _ _ _ hC6)
  have hC7 := HSET2.out _ _ _ hC6
  go_ret2
  refine ⟨oa, oc, rfl, hC7.sub fun r hr => ?_⟩
  rcases List.mem_cons.1 hr with h | h
  · exact List.mem_cons.2 (.inl h)
  · exact List.mem_cons_of_mem _ (List.mem_cons_of_mem _ (List.mem_append.2 (.inr h)))
set_option maxRecDepth 100000 in
set_option maxHeartbeats 8000000 in
theorem cM_runq {Q : Own} {w0 w : World} {b : Nat} {s : St} {N : Int} {rows : List (Value × List Value)} {gl k fo fi : Nat} {K : KS} (hQ : Q.Ok) (hC : Ctx (ChipP b s N) ((CtlM gl k b fo fi K).star Q) w0 w rows) (hN : 0 ≤ N) (hsel : s.sel = false) (hkl : -9223372036854775808 ≤ K.left ∧ K.left ≤ 9223372036854775807) (hkc : 0 ≤ K.clocks ∧ K.clocks ≤ 1048576)
    (hlost : K.lost = false) (hgo : K.goes = false) (at_ : Int) (a : Option Addr) (cp : Nat) (x : Int) (hdd : (.slice a 1 cp, ints [x]) ∈ rows) (B : Bool) (hB : (x == 160) = B) (read : Int) (hmay : cmdMay (opOf 235) at_ [x] read = true) (hroom : N + phsMany (cmdPhs (opOf 235) at_ [x] read) ≤ 1048575) (d : Drv) (hd : Drv.phases ⟨s.select, [], 0, K.left⟩ (cmdPhs (opOf 235) at_ [x] read) = (d, true)) :
    Calls Tryz.prog 36 #[.pointer (some ⟨k, 0, none⟩), .int .i64 235, .int .i64 at_, .slice a 1 cp, .int .i64 read] w fun e w' => ∃ oa oc, e = .returned (.tuple #[.slice oa d.out.length oc, .int .i64 0]) ∧ Ctx (ChipP b d.s.deselect (N + d.clocks + 1)) ((CtlM gl k b fo fi { K.driven d with goes := B }).star Q) w0 w' ((.slice oa d.out.length oc, ints d.out) :: rows) := by
  have hcall := cmd_all 235 (by decide) at_ [x] read hmay
  have hfind := tab_find 235 (by decide)
  have hst := kM_state hC
  rw [hlost] at hst
  have hcmd := fun w1 (h : Ctx (ChipP b s N) ((CtlM gl k b fo fi K).star Q) w0 w1 rows) => c_command ((ctlM_ok gl k b fo fi K).star hQ) h 235 (by decide) at_ a cp [x] hdd read hmay
  have hdrv := fun w1 rows1 (h : Ctx (ChipP b s N) ((CtlM gl k b fo fi K).star Q) w0 w1 rows1) g m cap L (hP : PhsV rows1 (.slice (some ⟨g, 0, none⟩) m cap) L) (hL : L.map Prod.fst = cmdPhs (opOf 235) at_ [x] read) => kM_drive hQ h hN hsel (some ⟨g, 0, none⟩) m cap L hP hkl hkc hlost (by rw [← map_all, hL]; exact hcall) (by rw [hL]; exact hroom) d (by rw [hL]; exact hd)
  have HSET : Hid (∀ w1 rows1, Ctx (ChipP b d.s.deselect (N + d.clocks + 1)) ((CtlM gl k b fo fi (K.driven d)).star Q) w0 w1 rows1 → Ctx (ChipP b d.s.deselect (N + d.clocks + 1)) ((CtlM gl k b fo fi { K.driven d with goes := B }).star Q) w0 (w1.setCell ⟨k, 7, none⟩ (.bool B)) rows1) := Lib.hid (fun w1 rows1 h => ctlM_set hQ h 7 (.bool B) rfl)
  obtain ⟨gx, ox, ea, -, -⟩ := (hC.rs_mem hdd).cells (Nat.lt_succ_self 0)
  subst ea
  have HDC : Hid (∀ w1 rows1, Ctx (ChipP b d.s.deselect (N + d.clocks + 1)) ((CtlM gl k b fo fi (K.driven d)).star Q) w0 w1 rows1 → (.slice (some ⟨gx, ox, none⟩) 1 cp, ints [x]) ∈ rows1 → w1.cell? ⟨gx, ox, none⟩ = some (.int .i64 x)) := Lib.hid (fun w1 rows1 h hm => by
    obtain ⟨g2, o2, e2, -, hc2⟩ := (h.rs_mem hm).cells (Nat.lt_succ_self 0)
    simp only [Option.some.injEq, Addr.mk.injEq, and_true] at e2
    obtain ⟨rfl, rfl⟩ := e2
    have := hc2 0 (Nat.lt_succ_self 0)
    rw [ints_at _ _ (Nat.lt_succ_self 0)] at this
    exact this)
  have HDD := Lib.hid hdd
  have HG7 : Hid (∀ w1 rows1, Ctx (ChipP b d.s.deselect (N + d.clocks + 1)) ((CtlM gl k b fo fi (K.driven d)).star Q) w0 w1 rows1 → w1.cell? ⟨k, 7, none⟩ = some (.bool false) ∧ w1.frozen? ⟨k, 7, none⟩ = false) := Lib.hid (fun w1 rows1 h => by
    obtain ⟨-, -, e7, -, -, ef, -⟩ := ctlM_cells h
    refine ⟨?_, ef 7⟩
    rw [e7]
    unfold KS.driven
    rw [hgo])
  have HG0 : Hid (∀ w1 rows1, Ctx (ChipP b s N) ((CtlM gl k b fo fi K).star Q) w0 w1 rows1 → w1.cell? ⟨k, 7, none⟩ = some (.bool false)) := Lib.hid (fun w1 rows1 h => by
    obtain ⟨-, -, e7, -⟩ := ctlM_cells h
    rw [e7, hgo])
  have HC := Lib.hid hC
  obtain ⟨o, ho⟩ : ∃ o, opOf 235 = o := ⟨_, rfl⟩
  rw [ho] at hfind hcmd hdrv
  obtain ⟨by', ad, mo, du, da, inn⟩ := o
  unfold POp.cells at hfind hcmd
  dsimp only at hfind hcmd
  have HFIND := Lib.hid hfind
  have HCMD := Lib.hid hcmd
  have HDRV := Lib.hid hdrv
  have HST := Lib.hid hst
  clear hcall hfind hst hcmd hdrv hC ho hd hmay hroom hdd hlost hgo hkl hkc hsel
  go_enter Tryz.func36, Tryz.ntmps36
  go_upto_region 8 with (first | (go_at_call 63; refine HST.out.mono ?_; rintro e w1 ⟨rfl, rfl⟩) | (go_at_call 64; refine (HFIND.out _).mono ?_; rintro e w2 ⟨rfl, hU2⟩; have HC2 := Lib.hid ((HC.out.frame hU2).alloc (.cells #[.int .i64 by', .int .i64 ad, .bool mo, .int .i64 du, .int .i64 da, .bool inn] 28))) | (go_at_call 65; refine (HCMD.out _ HC2.out).mono ?_; rintro e w3 ⟨g, m, cap, L, rows', rfl, hL, hC3, hP3⟩; have c7 := HG0.out _ _ hC3))
  have HDR := Lib.hid (HDRV.out _ _ hC3 g m cap L hP3 hL)
  clear hC3 hP3 hL HCMD HDRV HFIND HST HC
  go_wp2_with (go_at_call 66; refine HDR.out.mono ?_; rintro e w4 ⟨oa, oc, rfl, hC4⟩; obtain ⟨d7, df7⟩ := HG7.out _ _ hC4; have hdc := HDC.out _ _ hC4 (List.mem_cons_of_mem _ (List.mem_append_right _ HDD.out)))
  have hC5 := HSET.out _ _ hC4
  go_ret2
  refine ⟨oa, oc, rfl, hC5.sub fun r hr => ?_⟩
  rcases List.mem_cons.1 hr with h | h
  · exact List.mem_cons.2 (.inl h)
  · exact List.mem_cons.2 (.inr (List.mem_append.2 (.inr h)))
set_option maxRecDepth 100000 in
set_option maxHeartbeats 8000000 in
theorem cM_rung {Q : Own} {w0 w : World} {b : Nat} {s : St} {N : Int} {rows : List (Value × List Value)} {gl k fo fi : Nat} {K : KS} (hQ : Q.Ok) (hC : Ctx (ChipP b s N) ((CtlM gl k b fo fi K).star Q) w0 w rows) (hN : 0 ≤ N) (hsel : s.sel = false) (hkl : -9223372036854775808 ≤ K.left ∧ K.left ≤ 9223372036854775807) (hkc : 0 ≤ K.clocks ∧ K.clocks ≤ 1048576)
    (hlost : K.lost = false) (hgo : K.goes = true) (at_ : Int) (a : Option Addr) (cp : Nat) (x : Int) (hdd : (.slice a 1 cp, ints [x]) ∈ rows) (B : Bool) (hB : (x == 160) = B) (read : Int) (hmay : cmdMay (opOf 235) at_ [x] read = true) (hroom : N + phsMany (cmdPhs (opOf 235) at_ [x] read) ≤ 1048575) (d : Drv) (hd : Drv.phases ⟨s.select, [], 0, K.left⟩ (cmdPhs (opOf 235) at_ [x] read).tail = (d, true)) :
    Calls Tryz.prog 36 #[.pointer (some ⟨k, 0, none⟩), .int .i64 235, .int .i64 at_, .slice a 1 cp, .int .i64 read] w fun e w' => ∃ oa oc, e = .returned (.tuple #[.slice oa d.out.length oc, .int .i64 0]) ∧ Ctx (ChipP b d.s.deselect (N + d.clocks + 1)) ((CtlM gl k b fo fi { K.driven d with goes := B }).star Q) w0 w' ((.slice oa d.out.length oc, ints d.out) :: rows) := by
  have hcall := cmd_all 235 (by decide) at_ [x] read hmay
  have hfind := tab_find 235 (by decide)
  have hst := kM_state hC
  rw [hlost] at hst
  have hcmd := fun w1 (h : Ctx (ChipP b s N) ((CtlM gl k b fo fi K).star Q) w0 w1 rows) => c_command ((ctlM_ok gl k b fo fi K).star hQ) h 235 (by decide) at_ a cp [x] hdd read hmay
  have hcall2 : (cmdPhs (opOf 235) at_ [x] read).tail.all Ph.may = true := by
    rw [List.all_eq_true] at hcall ⊢
    exact fun p hp => hcall p (List.mem_of_mem_tail hp)
  have hroom2 : N + phsMany (cmdPhs (opOf 235) at_ [x] read).tail ≤ 1048575 := by
    have hx : cmdPhs (opOf 235) at_ [x] read = ⟨1, [(opOf 235).byte], 0, 0⟩ :: (cmdPhs (opOf 235) at_ [x] read).tail := rfl
    rw [hx, phsMany_cons] at hroom
    have : (0 : Int) ≤ Ph.many ⟨1, [(opOf 235).byte], 0, 0⟩ := by rw [many1]; show (0 : Int) ≤ (1 + 0) * 8; decide
    omega
  have hdrv := fun w1 rows1 (h : Ctx (ChipP b s N) ((CtlM gl k b fo fi K).star Q) w0 w1 rows1) g o m cap L (hP : PhsV rows1 (.slice (some ⟨g, o, none⟩) m cap) L) (hL : L.map Prod.fst = (cmdPhs (opOf 235) at_ [x] read).tail) => kM_drive hQ h hN hsel (some ⟨g, o, none⟩) m cap L hP hkl hkc hlost (by rw [← map_all, hL]; exact hcall2) (by rw [hL]; exact hroom2) d (by rw [hL]; exact hd)
  have HSET : Hid (∀ w1 rows1, Ctx (ChipP b d.s.deselect (N + d.clocks + 1)) ((CtlM gl k b fo fi (K.driven d)).star Q) w0 w1 rows1 → Ctx (ChipP b d.s.deselect (N + d.clocks + 1)) ((CtlM gl k b fo fi { K.driven d with goes := B }).star Q) w0 (w1.setCell ⟨k, 7, none⟩ (.bool B)) rows1) := Lib.hid (fun w1 rows1 h => ctlM_set hQ h 7 (.bool B) rfl)
  obtain ⟨gx, ox, ea, -, -⟩ := (hC.rs_mem hdd).cells (Nat.lt_succ_self 0)
  subst ea
  have HDC : Hid (∀ w1 rows1, Ctx (ChipP b d.s.deselect (N + d.clocks + 1)) ((CtlM gl k b fo fi (K.driven d)).star Q) w0 w1 rows1 → (.slice (some ⟨gx, ox, none⟩) 1 cp, ints [x]) ∈ rows1 → w1.cell? ⟨gx, ox, none⟩ = some (.int .i64 x)) := Lib.hid (fun w1 rows1 h hm => by
    obtain ⟨g2, o2, e2, -, hc2⟩ := (h.rs_mem hm).cells (Nat.lt_succ_self 0)
    simp only [Option.some.injEq, Addr.mk.injEq, and_true] at e2
    obtain ⟨rfl, rfl⟩ := e2
    have := hc2 0 (Nat.lt_succ_self 0)
    rw [ints_at _ _ (Nat.lt_succ_self 0)] at this
    exact this)
  have HDD := Lib.hid hdd
  have HG7 : Hid (∀ w1 rows1, Ctx (ChipP b d.s.deselect (N + d.clocks + 1)) ((CtlM gl k b fo fi (K.driven d)).star Q) w0 w1 rows1 → w1.cell? ⟨k, 7, none⟩ = some (.bool true) ∧ w1.frozen? ⟨k, 7, none⟩ = false) := Lib.hid (fun w1 rows1 h => by
    obtain ⟨-, -, e7, -, -, ef, -⟩ := ctlM_cells h
    refine ⟨?_, ef 7⟩
    rw [e7]
    unfold KS.driven
    rw [hgo])
  have HG0 : Hid (∀ w1 rows1, Ctx (ChipP b s N) ((CtlM gl k b fo fi K).star Q) w0 w1 rows1 → w1.cell? ⟨k, 7, none⟩ = some (.bool true)) := Lib.hid (fun w1 rows1 h => by
    obtain ⟨-, -, e7, -⟩ := ctlM_cells h
    rw [e7, hgo])
  have HC := Lib.hid hC
  have hlen2 : 2 ≤ (cmdPhs (opOf 235) at_ [x] read).length := by
    have e1 : opOf 235 = ⟨235, 4, true, 4, 4, false⟩ := by kernel_rfl
    rw [e1]
    simp [cmdPhs]
  obtain ⟨o, ho⟩ : ∃ o, opOf 235 = o := ⟨_, rfl⟩
  rw [ho] at hfind hcmd hdrv hlen2
  obtain ⟨by', ad, mo, du, da, inn⟩ := o
  unfold POp.cells at hfind hcmd
  dsimp only at hfind hcmd
  have HFIND := Lib.hid hfind
  have HCMD := Lib.hid hcmd
  have HDRV := Lib.hid hdrv
  have HST := Lib.hid hst
  clear hcall hcall2 hroom2 hfind hst hcmd hdrv hC ho hd hmay hroom hdd hlost hgo hkl hkc hsel
  go_enter Tryz.func36, Tryz.ntmps36
  go_upto_region 8 with (first | (go_at_call 63; refine HST.out.mono ?_; rintro e w1 ⟨rfl, rfl⟩) | (go_at_call 64; refine (HFIND.out _).mono ?_; rintro e w2 ⟨rfl, hU2⟩; have HC2 := Lib.hid ((HC.out.frame hU2).alloc (.cells #[.int .i64 by', .int .i64 ad, .bool mo, .int .i64 du, .int .i64 da, .bool inn] 28))) | (go_at_call 65; refine (HCMD.out _ HC2.out).mono ?_; rintro e w3 ⟨g, m, cap, L, rows', rfl, hL, hC3, hP3⟩; have c7 := HG0.out _ _ hC3))
  have hLt : ∃ y L2, L = y :: L2 := by
    cases L with
    | nil => simp [cmdPhs] at hL
    | cons y L2 => exact ⟨y, L2, rfl⟩
  obtain ⟨y, L2, rfl⟩ := hLt
  have hmc : 1 ≤ m ∧ m ≤ cap := by
    obtain ⟨a3, c3, e3, h33, -⟩ := hP3
    simp only [Value.slice.injEq] at e3
    obtain ⟨-, rfl, rfl⟩ := e3
    exact ⟨by rw [List.length_cons]; omega, h33⟩
  obtain ⟨R2, hC3b, hRs, hP3b⟩ := phs_tail hC3 hP3
  have HRS := Lib.hid hRs
  have HDR := Lib.hid (HDRV.out _ _ hC3b g (0 + 4) (m - 1) (cap - 1) L2 hP3b (by rw [← hL]; rfl))
  obtain ⟨m2, hm2⟩ : ∃ m2, m = m2 + 1 := ⟨m - 1, by omega⟩
  obtain ⟨cap2, hcap2⟩ : ∃ cap2, cap = cap2 + 1 := ⟨cap - 1, by omega⟩
  have hc20 : cap2 ≠ 0 := by
    have h1 := congrArg List.length hL
    rw [List.length_map, List.length_cons] at h1
    obtain ⟨a3, c3, e3, h33, -⟩ := hP3
    simp only [Value.slice.injEq] at e3
    obtain ⟨-, e4, rfl⟩ := e3
    rw [List.length_cons] at e4 h33
    omega
  subst hm2 hcap2
  clear hlen2
  clear hC3b hP3b hRs
  clear hC3 hP3 hL HCMD HDRV HFIND HST HC
  go_wp2_with (go_at_call 66; refine HDR.out.mono ?_; rintro e w4 ⟨oa, oc, rfl, hC4⟩; obtain ⟨d7, df7⟩ := HG7.out _ _ hC4; have hdc := HDC.out _ _ hC4 (List.mem_cons_of_mem _ (HRS.out _ (List.mem_append_right _ HDD.out))))
  have hC5 := HSET.out _ _ hC4
  go_ret2
  refine ⟨oa, oc, rfl, hC5.sub fun r hr => ?_⟩
  rcases List.mem_cons.1 hr with h | h
  · exact List.mem_cons.2 (.inl h)
  · exact List.mem_cons.2 (.inr (HRS.out _ (List.mem_append.2 (.inr h))))
end Go.Proofs.YtkjdhkpkcepilaaGreat
namespace Go.Proofs.YtkjdhkpkcepilaaGreat
open Go.RowKit
theorem one_many (o : Int) (m : Nat) (ho : o = 5 ∨ o = 53) : phsMany (cmdPhs (opOf o) 0 [] (m : Int)) = 8 + 8 * (m : Int) ∧ cmdPhs (opOf o) 0 [] (m : Int) = [⟨1, [o], 0, 0⟩] ++ (if 0 < (m : Int) then [⟨1, [], 0, (m : Int)⟩] else []) := by
  have e : cmdPhs (opOf o) 0 [] m = [⟨1, [o], 0, 0⟩] ++ if 0 < (m : Int) then [⟨1, [], 0, (m : Int)⟩] else [] := by
    rcases ho with rfl | rfl
    · have e1 : opOf 5 = ⟨5, 0, false, 0, 1, false⟩ := by kernel_rfl
      rw [e1]; rfl
    · have e1 : opOf 53 = ⟨53, 0, false, 0, 1, false⟩ := by kernel_rfl
      rw [e1]; rfl
  refine ⟨?_, e⟩
  rw [e]
  by_cases h0 : 0 < (m : Int)
  · rw [if_pos h0]
    show 0 + ((0 : Int) + ((1 : Int) + 0) * 8) + ((0 : Int) + ((0 : Int) + m) * 8) = _
    omega
  · rw [if_neg h0, show m = 0 by omega]
    rfl
theorem one_may (o : Int) (m : Nat) (hm : m ≤ 512) (ho : o = 5 ∨ o = 53) : cmdMay (opOf o) 0 [] (m : Int) = true := by
  rcases ho with rfl | rfl
  · have e1 : opOf 5 = ⟨5, 0, false, 0, 1, false⟩ := by kernel_rfl
    rw [e1]
    unfold cmdMay fitsB
    simp
    omega
  · have e1 : opOf 53 = ⟨53, 0, false, 0, 1, false⟩ := by kernel_rfl
    rw [e1]
    unfold cmdMay fitsB
    simp
    omega
theorem sfdp_may2 (k : Int) (hk : 0 ≤ k ∧ k < 4096) (m : Nat) (hm : m ≤ 512) : cmdMay (opOf 90) k [] (m : Int) = true := by
  have e1 : opOf 90 = ⟨90, 1, false, 8, 1, false⟩ := by kernel_rfl
  rw [e1]
  unfold cmdMay fitsB
  simp
  omega
theorem sfdp_many (k : Int) (m : Nat) : phsMany (cmdPhs (opOf 90) k [] (m : Int)) = 40 + 8 * (m : Int) := by
  have e1 : opOf 90 = ⟨90, 1, false, 8, 1, false⟩ := by kernel_rfl
  have e : cmdPhs (opOf 90) k [] m = [⟨1, [90], 0, 0⟩, ⟨1, [k / 65536, k / 256 % 256, k % 256], 0, 0⟩, ⟨0, [], 8, 0⟩] ++ if 0 < (m : Int) then [⟨1, [], 0, (m : Int)⟩] else [] := by
    rw [e1]
    unfold cmdPhs
    dsimp only
    rw [if_pos (by decide), if_neg (by decide), if_pos (by decide), if_neg (by simp)]
    rfl
  rw [e]
  by_cases h0 : 0 < (m : Int)
  · rw [if_pos h0]
    show 0 + ((0 : Int) + ((1 : Int) + 0) * 8) + ((0 : Int) + ((3 : Int) + 0) * 8) + (8 + 0) + ((0 : Int) + ((0 : Int) + m) * 8) = _
    omega
  · rw [if_neg h0, show m = 0 by omega]
    rfl
theorem quad_may (k : Int) (hk : 0 ≤ k ∧ k < 4096) (m : Nat) (hm : m ≤ 512) : cmdMay (opOf 107) k [] (m : Int) = true := by
  have e1 : opOf 107 = ⟨107, 1, false, 8, 4, false⟩ := by kernel_rfl
  rw [e1]
  unfold cmdMay fitsB
  simp
  omega
/-- A command that reads m bytes: what it tells, how many clocks it takes. -/
structure AnyR (c : Cor) (o tt : Int) (m : Nat) (out : List Int) (clk : Int) : Prop where
  len : out.length = m
  low : 0 ≤ clk
  top : clk ≤ 200
  many : phsMany (cmdPhs (opOf o) tt [] (m : Int)) = clk
  may : cmdMay (opOf o) tt [] (m : Int) = true
  op : opIs o = true
  ne : o ≠ 235
  all : ∀ t, At c t → ∃ d : Drv, Drv.phases ⟨t.select, [], 0, -1⟩ (cmdPhs (opOf o) tt [] (m : Int)) = (d, true) ∧ d.clocks = clk ∧ d.out = out ∧ At c d.s.deselect
/-- Whichever command that reads. -/
theorem any_read (c : Cor) (hg : c.goes = false) (hj : c.job = none) (o tt : Int) (m : Nat) (hm : m ≤ 15) (hb : (o = 159 ∨ o = 5 ∨ o = 53) ∧ tt = 0 ∨ (o = 3 ∨ o = 90) ∧ 0 ≤ tt ∧ tt < 4096 ∨ o = 107 ∧ c.quad = true ∧ 1 ≤ m ∧ 0 ≤ tt ∧ tt < 4096) :
    ∃ (out : List Int) (clk : Int), AnyR c o tt m out clk := by
  have hst : ∀ (o : Int) (ho : o = 5 ∨ o = 53) (x : Int) (hx : ∀ (t : St), At c t → ∀ i, (t.hd o 0).byteAt i = x), ∀ t, At c t → ∃ d : Drv, Drv.phases ⟨t.select, [], 0, -1⟩ (cmdPhs (opOf o) 0 [] (m : Int)) = (d, true) ∧ d.clocks = 8 + 8 * (m : Int) ∧ d.out = List.replicate m x ∧ At c d.s.deselect := by
    intro o ho x hx t ht
    rw [(one_many o m ho).2]
    obtain ⟨d, h1, h2, h3, h4⟩ := rd_all (c := c) t (t.hd o 0) [⟨1, [o], 0, 0⟩] _ (by simp) (hdB t (ht.goes.trans hg) (ht.job.trans hj) o (by omega)) (ht.job.trans hj) rfl rfl (by rcases ho with rfl | rfl <;> rfl) rfl (hd_end ht o 0 (by omega)) (fun i => byteAt_bd _ _) m
    refine ⟨d, h1, h2, ?_, h4⟩
    rw [h3]
    have : (fun (i : Nat) => (t.hd o 0).byteAt ((t.hd o 0).told + (i : Int))) = fun _ => x := funext fun i => hx t ht _
    rw [this, List.map_const', List.length_range]
  rcases hb with ⟨rfl | rfl | rfl, rfl⟩ | ⟨rfl | rfl, h1, h2⟩ | ⟨rfl, hq, hm1, h1, h2⟩
  · exact ⟨idL m, 8 + 8 * (m : Int), idL_len m, by omega, by omega, id_many m, id_may m (by omega), by decide, by decide, fun t ht => id_all ht hg hj m⟩
  · refine ⟨List.replicate m (first false c.en c.prot), 8 + 8 * (m : Int), List.length_replicate, by omega, by omega, (one_many 5 m (.inl rfl)).1, one_may 5 m (by omega) (.inl rfl), by decide, by decide, hst 5 (.inl rfl) _ fun t ht i => ?_⟩
    have hw : (t.hd 5 0).works = false := by
      unfold St.works
      rw [show (t.hd 5 0).job = none from ht.job.trans hj]
    show (t.hd 5 0).first = _
    unfold St.first
    rw [hw, show (t.hd 5 0).en = c.en from ht.en, show (t.hd 5 0).prot = c.prot from ht.prot]
  · refine ⟨List.replicate m (second c.quad false), 8 + 8 * (m : Int), List.length_replicate, by omega, by omega, (one_many 53 m (.inr rfl)).1, one_may 53 m (by omega) (.inr rfl), by decide, by decide, hst 53 (.inr rfl) _ fun t ht i => ?_⟩
    have hw : (t.hd 53 0).susp = false := by
      unfold St.susp
      rw [show (t.hd 53 0).job = none from ht.job.trans hj]
    show (t.hd 53 0).second = _
    unfold St.second
    rw [hw, show (t.hd 53 0).quad = c.quad from ht.quad]
  · refine ⟨(List.range m).map (fun (i : Nat) => byteOf c.a ((tt + (i : Int)) % 4096).toNat), 32 + 8 * (m : Int), by rw [List.length_map, List.length_range], by omega, by omega, rd3_many tt m, rd3_may tt ⟨h1, h2⟩ m (by omega), by decide, by decide, fun t ht => rd3_all ht hg hj tt ⟨h1, h2⟩ m⟩
  · exact ⟨sfdpB tt m, 40 + 8 * (m : Int), by unfold sfdpB; rw [List.length_map, List.length_range], by omega, by omega, sfdp_many tt m, sfdp_may2 tt ⟨h1, h2⟩ m (by omega), by decide, by decide, fun t ht => sfdp_all ht hg hj tt ⟨h1, h2⟩ m⟩
  · refine ⟨(List.range m).map (fun (i : Nat) => byteOf c.a ((tt + (i : Int)) % 4096).toNat), 40 + 2 * (m : Int), by rw [List.length_map, List.length_range], by omega, by omega, quad_many tt m hm1, quad_may tt ⟨h1, h2⟩ m (by omega), by decide, by decide, fun t ht => ?_⟩
    obtain ⟨d, e1, e2, e3, e4, -⟩ := read4_all ht hg hj hq tt ⟨h1, h2⟩ m hm1
    exact ⟨d, e1, e2, e3, e4⟩

set_option maxRecDepth 100000 in
/-- The way to leave, on a chip whose read goes on. -/
theorem leave_all {c : Cor} {t : St} (h : At c t) (hg : c.goes = true) (hj : c.job = none) (hq : c.quad = true) :
    ∃ d : Drv, Drv.phases ⟨t.select, [], 0, -1⟩ [leavePh] = (d, true) ∧ d.clocks = 8 ∧ d.out = [] ∧ At { c with goes := false } d.s.deselect := by
  have htg := h.goes.trans hg
  have htj := h.job.trans hj
  have htq := h.quad.trans hq
  obtain ⟨hcor, hsel⟩ := h
  obtain ⟨a, prot, quad, wipes, tabled, sel, en, goes, job, busy, op, stage, left, got, addr, mode, moded, data, told, now, beyond⟩ := t
  change goes = true at htg
  change job = none at htj
  change quad = true at htq
  subst htg
  subst htj
  subst htq
  subst hcor
  exact ⟨_, (Prod.ext rfl (by kernel_rfl) : _ = (_, true)), by kernel_rfl, by kernel_rfl, by kernel_rfl, by kernel_rfl⟩
/-- A controller with empty queues, whose way to leave was made, on which no read goes on. -/
def RegM (c : Cor) (b k : Nat) (n q : Int) (w0 w : World) (rows : List (Value × List Value)) : Prop :=
  ∃ (s : St) (N : Int) (gl fo fi : Nat), At c s ∧ Ctx (ChipP b s N) ((CtlM gl k b fo fi ⟨0, 0, 0, q, false, -1, false⟩).star (QQ fo fi [] [])) w0 w rows ∧ 0 ≤ N ∧ N ≤ n ∧ 0 ≤ q ∧ q ≤ n ∧ n ≤ 1048500
theorem RegM.up {c : Cor} {b k : Nat} {n q : Int} {w0 w : World} {rows : List (Value × List Value)} (h : RegM c b k n q w0 w rows) : Upd none' w0 w := by
  obtain ⟨s, N, gl, fo, fi, h1, h2, h3⟩ := h
  exact h2.upd
theorem RegM.rs {c : Cor} {b k : Nat} {n q : Int} {w0 w : World} {rows : List (Value × List Value)} (h : RegM c b k n q w0 w rows) {r : Value × List Value} (hr : r ∈ rows) : RS w r.1 r.2 := by
  obtain ⟨s, N, gl, fo, fi, h1, h2, h3⟩ := h
  exact h2.rs_mem hr
theorem regm_clocks {c : Cor} {b k : Nat} {n q : Int} {w0 w : World} {rows : List (Value × List Value)} (h : RegM c b k n q w0 w rows) :
    Calls Tryz.prog 31 #[.pointer (some ⟨k, 0, none⟩)] w fun e w' => e = .returned (.int .i64 q) ∧ w = w' := by
  obtain ⟨s, N, gl, fo, fi, hA, hC, -⟩ := h
  exact kM_clocks hC
theorem regq_any {c : Cor} {b k : Nat} {n q : Int} {w0 w : World} {rows : List (Value × List Value)} (h : RegQ false c b k n q w0 w rows) {o tt clk : Int} {m : Nat} {out : List Int} (hA : AnyR c o tt m out clk) (hn : n + 201 ≤ 1048500) :
    Calls Tryz.prog 36 #[.pointer (some ⟨k, 0, none⟩), .int .i64 o, .int .i64 tt, .slice none 0 0, .int .i64 (m : Int)] w fun e w' => ∃ oa oc, e = .returned (.tuple #[.slice oa m oc, .int .i64 0]) ∧ RegQ false c b k (n + 201) (q + clk) w0 w' ((.slice oa m oc, ints out) :: rows) := by
  obtain ⟨s, N, fo, fi, hAt, hC, hN0, hN, hq0, hqn, hnn⟩ := h
  obtain ⟨d, e1, e2, e3, e4⟩ := hA.all s hAt
  have hlo := hA.low
  have hto := hA.top
  refine (c_run (K := ⟨0, 0, 0, q, false, -1, false⟩) (qq_ok _ _ _ _) hC.nilrow hN0 hAt.sel (by dsimp only; omega) (by dsimp only; omega) rfl rfl o hA.op hA.ne tt none 0 [] List.mem_cons_self (m : Int) hA.may (by rw [hA.many]; omega) d e1).mono ?_
  rintro e w' ⟨oa, oc, rfl, hC2⟩
  rw [e3, hA.len] at hC2 ⊢
  refine ⟨oa, oc, rfl, d.s.deselect, N + d.clocks + 1, fo, fi, e4, ?_, by omega, by omega, by omega, by omega, by omega⟩
  have hKK : KS.driven ⟨0, 0, 0, q, false, -1, false⟩ d = ⟨0, 0, 0, q + clk, false, -1, false⟩ := by
    unfold KS.driven
    dsimp only
    rw [e2, if_neg (by decide)]
  rw [hKK] at hC2
  refine hC2.sub fun r hr => ?_
  rcases List.mem_cons.1 hr with h | h
  · exact List.mem_cons.2 (.inl h)
  · exact List.mem_cons.2 (.inr (List.mem_cons_of_mem _ h))
theorem regm_any {c : Cor} {b k : Nat} {n q : Int} {w0 w : World} {rows : List (Value × List Value)} (h : RegM c b k n q w0 w rows) {o tt clk : Int} {m : Nat} {out : List Int} (hA : AnyR c o tt m out clk) (hn : n + 201 ≤ 1048500) :
    Calls Tryz.prog 36 #[.pointer (some ⟨k, 0, none⟩), .int .i64 o, .int .i64 tt, .slice none 0 0, .int .i64 (m : Int)] w fun e w' => ∃ oa oc, e = .returned (.tuple #[.slice oa m oc, .int .i64 0]) ∧ RegM c b k (n + 201) (q + clk) w0 w' ((.slice oa m oc, ints out) :: rows) := by
  obtain ⟨s, N, gl, fo, fi, hAt, hC, hN0, hN, hq0, hqn, hnn⟩ := h
  obtain ⟨d, e1, e2, e3, e4⟩ := hA.all s hAt
  have hlo := hA.low
  have hto := hA.top
  refine (cM_run (K := ⟨0, 0, 0, q, false, -1, false⟩) (qq_ok _ _ _ _) hC.nilrow hN0 hAt.sel (by dsimp only; omega) (by dsimp only; omega) rfl rfl o hA.op hA.ne tt none 0 [] List.mem_cons_self (m : Int) hA.may (by rw [hA.many]; omega) d e1).mono ?_
  rintro e w' ⟨oa, oc, rfl, hC2⟩
  rw [e3, hA.len] at hC2 ⊢
  refine ⟨oa, oc, rfl, d.s.deselect, N + d.clocks + 1, gl, fo, fi, e4, ?_, by omega, by omega, by omega, by omega, by omega⟩
  have hKK : KS.driven ⟨0, 0, 0, q, false, -1, false⟩ d = ⟨0, 0, 0, q + clk, false, -1, false⟩ := by
    unfold KS.driven
    dsimp only
    rw [e2, if_neg (by decide)]
  rw [hKK] at hC2
  refine hC2.sub fun r hr => ?_
  rcases List.mem_cons.1 hr with h | h
  · exact List.mem_cons.2 (.inl h)
  · exact List.mem_cons.2 (.inr (List.mem_cons_of_mem _ h))
/-- Behind a read that goes on: eight clocks more. -/
theorem regq_leave {c : Cor} {b k : Nat} {n q : Int} {w0 w : World} {rows : List (Value × List Value)} (h : RegQ true c b k n q w0 w rows) (hg : c.goes = true) (hj : c.job = none) (hq : c.quad = true) {o tt clk : Int} {m : Nat} {out : List Int} (hA : AnyR { c with goes := false } o tt m out clk) (hn : n + 220 ≤ 1048500) :
    Calls Tryz.prog 36 #[.pointer (some ⟨k, 0, none⟩), .int .i64 o, .int .i64 tt, .slice none 0 0, .int .i64 (m : Int)] w fun e w' => ∃ oa oc, e = .returned (.tuple #[.slice oa m oc, .int .i64 0]) ∧ RegM { c with goes := false } b k (n + 220) (q + (8 + clk)) w0 w' ((.slice oa m oc, ints out) :: rows) := by
  obtain ⟨s, N, fo, fi, hAt, hC, hN0, hN, hq0, hqn, hnn⟩ := h
  obtain ⟨d1, l1, l2, l3, l4⟩ := leave_all hAt hg hj hq
  obtain ⟨d, e1, e2, e3, e4⟩ := hA.all _ l4
  have hlo := hA.low
  have hto := hA.top
  refine (c_run_leave (K := ⟨0, 0, 0, q, true, -1, false⟩) (qq_ok _ _ _ _) hC.nilrow hN0 hAt.sel (by dsimp only; omega) (by dsimp only; omega) rfl rfl rfl o hA.op hA.ne tt none 0 [] List.mem_cons_self (m : Int) hA.may d1 l1 l2 l4.sel (by rw [hA.many]; omega) d e1).mono ?_
  rintro e w' ⟨gl, oa, oc, rfl, hC2⟩
  rw [e3, hA.len] at hC2 ⊢
  refine ⟨oa, oc, rfl, d.s.deselect, N + d1.clocks + 1 + d.clocks + 1, gl, fo, fi, e4, ?_, by omega, by omega, by omega, by omega, by omega⟩
  have hKK : ({ KS.driven ⟨0, 0, 0, q, true, -1, false⟩ d1 with goes := false } : KS).driven d = ⟨0, 0, 0, q + (8 + clk), false, -1, false⟩ := by
    unfold KS.driven
    dsimp only
    have hm : (if (0 : Int) ≤ -1 then (-1 : Int) - 8 else -1) = -1 := by decide
    rw [e2, l2, hm, if_neg (show ¬ (0 : Int) ≤ -1 by decide), Int.add_assoc]
  rw [hKK] at hC2
  refine hC2.sub fun r hr => ?_
  rcases List.mem_cons.1 hr with h | h
  · exact List.mem_cons.2 (.inl h)
  · exact List.mem_cons.2 (.inr (List.mem_cons_of_mem _ h))
end Go.Proofs.YtkjdhkpkcepilaaGreat
namespace Go.Proofs.YtkjdhkpkcepilaaGreat
open Go.RowKit
/-- A command that reads m bytes of the cells. -/
structure CellR (c : Cor) (o tt : Int) (m : Nat) (clk : Int) : Prop where
  low : 0 ≤ clk
  top : clk ≤ 40 + 8 * (m : Int)
  many : phsMany (cmdPhs (opOf o) tt [] (m : Int)) = clk
  may : cmdMay (opOf o) tt [] (m : Int) = true
  op : opIs o = true
  ne : o ≠ 235
  all : ∀ t, At c t → ∃ d : Drv, Drv.phases ⟨t.select, [], 0, -1⟩ (cmdPhs (opOf o) tt [] (m : Int)) = (d, true) ∧ d.clocks = clk ∧ d.out = intsOf (fetched c.a tt m) ∧ At c d.s.deselect
theorem ints_fetched (a : ByteArray) (tt : Int) (m : Nat) : intsOf (fetched a tt m) = (List.range m).map (fun (i : Nat) => byteOf a ((tt + (i : Int)) % 4096).toNat) := by
  unfold intsOf fetched
  rw [List.map_map]
  rfl
theorem cell_read (c : Cor) (hg : c.goes = false) (hj : c.job = none) (hq : c.quad = true) (o tt : Int) (m : Nat) (hm1 : 1 ≤ m) (hm : m ≤ 512) (hb : o = 3 ∨ o = 107) (h1 : 0 ≤ tt) (h2 : tt < 4096) : ∃ clk, CellR c o tt m clk := by
  rcases hb with rfl | rfl
  · refine ⟨32 + 8 * (m : Int), by omega, by omega, rd3_many tt m, rd3_may tt ⟨h1, h2⟩ m (by omega), by decide, by decide, fun t ht => ?_⟩
    rw [ints_fetched]
    exact rd3_all ht hg hj tt ⟨h1, h2⟩ m
  · refine ⟨40 + 2 * (m : Int), by omega, by omega, quad_many tt m hm1, quad_may tt ⟨h1, h2⟩ m (by omega), by decide, by decide, fun t ht => ?_⟩
    obtain ⟨d, e1, e2, e3, e4, -⟩ := read4_all ht hg hj hq tt ⟨h1, h2⟩ m hm1
    rw [ints_fetched]
    exact ⟨d, e1, e2, e3, e4⟩
/-- A controller with empty queues on which a read goes on (or not), whose way to leave was made (or not). -/
def RegA (g : Bool) (c : Cor) (b k : Nat) (n q : Int) (w0 w : World) (rows : List (Value × List Value)) : Prop :=
  ∃ (s : St) (N : Int) (fo fi : Nat), At c s ∧ (Ctx (ChipP b s N) ((CtlC k b fo fi ⟨0, 0, 0, q, g, -1, false⟩).star (QQ fo fi [] [])) w0 w rows ∨ ∃ gl h, Ctx (ChipP b s N) ((CtlM gl k b fo fi ⟨0, 0, 0, q, g, -1, false⟩).star (QQ fo fi [] [])) w0 w (leaveRows h gl ++ rows)) ∧ 0 ≤ N ∧ N ≤ n ∧ 0 ≤ q ∧ q ≤ n ∧ n ≤ 1048500
theorem RegQ.asA {g : Bool} {c : Cor} {b k : Nat} {n q : Int} {w0 w : World} {rows : List (Value × List Value)} (h : RegQ g c b k n q w0 w rows) (hn : n ≤ 1048500) : RegA g c b k n q w0 w rows := by
  obtain ⟨s, N, fo, fi, h1, h2, h3, h4, h5, h6, h7⟩ := h
  exact ⟨s, N, fo, fi, h1, .inl h2, h3, h4, h5, h6, hn⟩
theorem RegA.up {g : Bool} {c : Cor} {b k : Nat} {n q : Int} {w0 w : World} {rows : List (Value × List Value)} (h : RegA g c b k n q w0 w rows) : Upd none' w0 w := by
  obtain ⟨s, N, fo, fi, h1, h2 | ⟨gl, hh, h2⟩, h3⟩ := h
  · exact h2.upd
  · exact h2.upd
theorem RegA.rs {g : Bool} {c : Cor} {b k : Nat} {n q : Int} {w0 w : World} {rows : List (Value × List Value)} (h : RegA g c b k n q w0 w rows) {r : Value × List Value} (hr : r ∈ rows) : RS w r.1 r.2 := by
  obtain ⟨s, N, fo, fi, h1, h2 | ⟨gl, hh, h2⟩, h3⟩ := h
  · exact h2.rs_mem hr
  · exact h2.rs_mem (List.mem_append_right _ hr)
theorem RegA.fr {g : Bool} {c : Cor} {b k : Nat} {n q : Int} {w0 w w' : World} {rows : List (Value × List Value)} (h : RegA g c b k n q w0 w rows) (u : Upd none' w w') : RegA g c b k n q w0 w' rows := by
  obtain ⟨s, N, fo, fi, h1, h2 | ⟨gl, hh, h2⟩, h3⟩ := h
  · exact ⟨s, N, fo, fi, h1, .inl (h2.frame u), h3⟩
  · exact ⟨s, N, fo, fi, h1, .inr ⟨gl, hh, h2.frame u⟩, h3⟩
theorem RegA.sub {g : Bool} {c : Cor} {b k : Nat} {n q : Int} {w0 w : World} {rows rows' : List (Value × List Value)} (h : RegA g c b k n q w0 w rows) (hs : ∀ r ∈ rows', r ∈ rows) : RegA g c b k n q w0 w rows' := by
  obtain ⟨s, N, fo, fi, h1, h2 | ⟨gl, hh, h2⟩, h3⟩ := h
  · exact ⟨s, N, fo, fi, h1, .inl (h2.sub hs), h3⟩
  · exact ⟨s, N, fo, fi, h1, .inr ⟨gl, hh, h2.sub (fun r hr => by
      rcases List.mem_append.1 hr with h | h
      · exact List.mem_append_left _ h
      · exact List.mem_append_right _ (hs r h))⟩, h3⟩
theorem RegA.lit {g : Bool} {c : Cor} {b k : Nat} {n q : Int} {w0 w : World} {rows : List (Value × List Value)} (h : RegA g c b k n q w0 w rows) (vs : List Value) (t : TypeId) (m : Nat) (hm : vs.length = m) (hb : m ≤ 1048576) : RegA g c b k n q w0 (w.alloc (.cells vs.toArray t)) ((.slice (some ⟨w.heap.size, 0, none⟩) m m, vs) :: rows) := by
  obtain ⟨s, N, fo, fi, h1, h2 | ⟨gl, hh, h2⟩, h3⟩ := h
  · exact ⟨s, N, fo, fi, h1, .inl (h2.lit vs t m hm hb), h3⟩
  · exact ⟨s, N, fo, fi, h1, .inr ⟨gl, hh, (h2.lit vs t m hm hb).sub (fun r hr => by
      rcases List.mem_append.1 hr with h | h
      · exact List.mem_cons_of_mem _ (List.mem_append_left _ h)
      · rcases List.mem_cons.1 h with h | h
        · exact List.mem_cons.2 (.inl h)
        · exact List.mem_cons_of_mem _ (List.mem_append_right _ h))⟩, h3⟩
theorem RegA.more {g : Bool} {c : Cor} {b k : Nat} {n n' q : Int} {w0 w : World} {rows : List (Value × List Value)} (h : RegA g c b k n q w0 w rows) (hn : n ≤ n') (hn2 : n' ≤ 1048500) : RegA g c b k n' q w0 w rows := by
  obtain ⟨s, N, fo, fi, h1, h2, h3, h4, h5, h6, h7⟩ := h
  exact ⟨s, N, fo, fi, h1, h2, h3, by omega, h5, by omega, hn2⟩
/-- A read that is told alone, whatever was before. -/
theorem rega_read {g : Bool} {c : Cor} {b k : Nat} {n q : Int} {w0 w : World} {rows : List (Value × List Value)} (h : RegA g c b k n q w0 w rows) (hg : c.goes = g) (hj : c.job = none) (hq : c.quad = true) {o tt clk : Int} {m : Nat} (hA : CellR { c with goes := false } o tt m clk) (hn : n + (60 + 8 * (m : Int)) ≤ 1048500) :
    Calls Tryz.prog 36 #[.pointer (some ⟨k, 0, none⟩), .int .i64 o, .int .i64 tt, .slice none 0 0, .int .i64 (m : Int)] w fun e w' => ∃ oa oc q', e = .returned (.tuple #[.slice oa m oc, .int .i64 0]) ∧ RegA false { c with goes := false } b k (n + (60 + 8 * (m : Int))) q' w0 w' ((.slice oa m oc, ints (intsOf (fetched c.a tt m))) :: rows) := by
  have hol : (intsOf (fetched c.a tt m)).length = m := by unfold intsOf; rw [List.length_map, fetched_len]
  have hlo := hA.low
  have hto := hA.top
  obtain ⟨s, N, fo, fi, hAt, hC, hN0, hN, hq0, hqn, hnn⟩ := h
  cases g with
  | false =>
    have hcc : ({ c with goes := false } : Cor) = c := by cases c; simp_all
    rw [hcc] at hA ⊢
    obtain ⟨d, e1, e2, e3, e4⟩ := hA.all s hAt
    have hKK : KS.driven ⟨0, 0, 0, q, false, -1, false⟩ d = ⟨0, 0, 0, q + clk, false, -1, false⟩ := by
      unfold KS.driven
      dsimp only
      rw [e2, if_neg (by decide)]
    rcases hC with hC | ⟨gl, hh, hC⟩
    · refine (c_run (K := ⟨0, 0, 0, q, false, -1, false⟩) (qq_ok _ _ _ _) hC.nilrow hN0 hAt.sel (by dsimp only; omega) (by dsimp only; omega) rfl rfl o hA.op hA.ne tt none 0 [] List.mem_cons_self (m : Int) hA.may (by rw [hA.many]; omega) d e1).mono ?_
      rintro e w' ⟨oa, oc, rfl, hC2⟩
      rw [e3, hol] at hC2 ⊢
      rw [hKK] at hC2
      refine ⟨oa, oc, q + clk, rfl, d.s.deselect, N + d.clocks + 1, fo, fi, e4, .inl (hC2.sub fun r hr => ?_), by omega, by omega, by omega, by omega, by omega⟩
      rcases List.mem_cons.1 hr with h | h
      · exact List.mem_cons.2 (.inl h)
      · exact List.mem_cons.2 (.inr (List.mem_cons_of_mem _ h))
    · refine (cM_run (K := ⟨0, 0, 0, q, false, -1, false⟩) (qq_ok _ _ _ _) hC.nilrow hN0 hAt.sel (by dsimp only; omega) (by dsimp only; omega) rfl rfl o hA.op hA.ne tt none 0 [] List.mem_cons_self (m : Int) hA.may (by rw [hA.many]; omega) d e1).mono ?_
      rintro e w' ⟨oa, oc, rfl, hC2⟩
      rw [e3, hol] at hC2 ⊢
      rw [hKK] at hC2
      refine ⟨oa, oc, q + clk, rfl, d.s.deselect, N + d.clocks + 1, fo, fi, e4, .inr ⟨gl, hh, hC2.sub fun r hr => ?_⟩, by omega, by omega, by omega, by omega, by omega⟩
      rcases List.mem_append.1 hr with h | h
      · exact List.mem_cons_of_mem _ (List.mem_cons_of_mem _ (List.mem_append_left _ h))
      · rcases List.mem_cons.1 h with h | h
        · exact List.mem_cons.2 (.inl h)
        · exact List.mem_cons_of_mem _ (List.mem_cons_of_mem _ (List.mem_append_right _ h))
  | true =>
    obtain ⟨d1, l1, l2, l3, l4⟩ := leave_all hAt hg hj hq
    obtain ⟨d, e1, e2, e3, e4⟩ := hA.all _ l4
    have hKK : ({ KS.driven ⟨0, 0, 0, q, true, -1, false⟩ d1 with goes := false } : KS).driven d = ⟨0, 0, 0, q + (8 + clk), false, -1, false⟩ := by
      unfold KS.driven
      dsimp only
      have hm : (if (0 : Int) ≤ -1 then (-1 : Int) - 8 else -1) = -1 := by decide
      rw [e2, l2, hm, if_neg (show ¬ (0 : Int) ≤ -1 by decide), Int.add_assoc]
    rcases hC with hC | ⟨gl, hh, hC⟩
    · refine (c_run_leave2 (K := ⟨0, 0, 0, q, true, -1, false⟩) (qq_ok _ _ _ _) hC.nilrow hN0 hAt.sel (by dsimp only; omega) (by dsimp only; omega) rfl rfl rfl o hA.op hA.ne tt none 0 [] List.mem_cons_self (m : Int) hA.may d1 l1 l2 l4.sel (by rw [hA.many]; omega) d e1).mono ?_
      rintro e w' ⟨hh, gl, oa, oc, rfl, hC2⟩
      rw [e3, hol] at hC2 ⊢
      rw [hKK] at hC2
      refine ⟨oa, oc, q + (8 + clk), rfl, d.s.deselect, N + d1.clocks + 1 + d.clocks + 1, fo, fi, e4, .inr ⟨gl, hh, hC2.sub fun r hr => ?_⟩, by omega, by omega, by omega, by omega, by omega⟩
      rcases List.mem_append.1 hr with h | h
      · exact List.mem_cons_of_mem _ (List.mem_append_left _ h)
      · rcases List.mem_cons.1 h with h | h
        · exact List.mem_cons.2 (.inl h)
        · exact List.mem_cons_of_mem _ (List.mem_append_right _ (List.mem_cons_of_mem _ h))
    · refine (cM_run_leave (h := hh) (K := ⟨0, 0, 0, q, true, -1, false⟩) (qq_ok _ _ _ _) hC.nilrow hN0 hAt.sel (by dsimp only; omega) (by dsimp only; omega) rfl rfl rfl o hA.op hA.ne tt none 0 [] (fun r hr => List.mem_cons_of_mem _ (List.mem_append_left _ hr)) List.mem_cons_self (m : Int) hA.may d1 l1 l2 l4.sel (by rw [hA.many]; omega) d e1).mono ?_
      rintro e w' ⟨oa, oc, rfl, hC2⟩
      rw [e3, hol] at hC2 ⊢
      rw [hKK] at hC2
      refine ⟨oa, oc, q + (8 + clk), rfl, d.s.deselect, N + d1.clocks + 1 + d.clocks + 1, fo, fi, e4, .inr ⟨gl, hh, hC2.sub fun r hr => ?_⟩, by omega, by omega, by omega, by omega, by omega⟩
      rcases List.mem_append.1 hr with h | h
      · exact List.mem_cons_of_mem _ (List.mem_cons_of_mem _ (List.mem_append_left _ h))
      · rcases List.mem_cons.1 h with h | h
        · exact List.mem_cons.2 (.inl h)
        · exact List.mem_cons_of_mem _ (List.mem_cons_of_mem _ (List.mem_append_right _ h))
/-- The read that may go on, whatever was before. -/
theorem rega_go {g : Bool} {c : Cor} {b k : Nat} {n q : Int} {w0 w : World} {rows : List (Value × List Value)} (h : RegA g c b k n q w0 w rows) (hg : c.goes = g) (hj : c.job = none) (hq : c.quad = true) (at_ : Int) (hk : 0 ≤ at_ ∧ at_ < 4096) (x : Int) (hx : 0 ≤ x ∧ x ≤ 255) (B : Bool) (hB : (x == 160) = B) (m : Nat) (hm : 1 ≤ m) (hm2 : m ≤ 512) (a : Option Addr) (cp : Nat) (hdd : (.slice a 1 cp, ints [x]) ∈ rows) (hn : n + (60 + 8 * (m : Int)) ≤ 1048500) :
    Calls Tryz.prog 36 #[.pointer (some ⟨k, 0, none⟩), .int .i64 235, .int .i64 at_, .slice a 1 cp, .int .i64 (m : Int)] w fun e w' => ∃ oa oc q', e = .returned (.tuple #[.slice oa m oc, .int .i64 0]) ∧ RegA B { c with goes := B } b k (n + (60 + 8 * (m : Int))) q' w0 w' ((.slice oa m oc, ints (intsOf (fetched c.a at_ m))) :: rows) := by
  have hB2 : decide (x = 160) = B := hB
  have hol : (intsOf (fetched c.a at_ m)).length = m := by unfold intsOf; rw [List.length_map, fetched_len]
  obtain ⟨s, N, fo, fi, hA, hC, hN0, hN, hq0, hqn, hnn⟩ := h
  have hsubM : ∀ {v : Value} {vs : List Value} {gl hh : Nat}, ∀ r ∈ leaveRows hh gl ++ ((v, vs) :: rows), r ∈ (v, vs) :: (leaveRows hh gl ++ rows) := fun r hr => by
    rcases List.mem_append.1 hr with h | h
    · exact List.mem_cons_of_mem _ (List.mem_append_left _ h)
    · rcases List.mem_cons.1 h with h | h
      · exact List.mem_cons.2 (.inl h)
      · exact List.mem_cons_of_mem _ (List.mem_append_right _ h)
  cases g with
  | false =>
    obtain ⟨d, e1, e2, e3, e4⟩ := goQ_all hA hg hj hq at_ hk x hx m hm
    rw [hB2] at e4
    have hKK : ({ KS.driven ⟨0, 0, 0, q, false, -1, false⟩ d with goes := B } : KS) = ⟨0, 0, 0, q + (20 + 2 * (m : Int)), B, -1, false⟩ := by
      unfold KS.driven
      dsimp only
      rw [e2, if_neg (by decide)]
    rcases hC with hC | ⟨gl, hh, hC⟩
    · refine (c_runq (K := ⟨0, 0, 0, q, false, -1, false⟩) (qq_ok _ _ _ _) hC hN0 hA.sel (by dsimp only; omega) (by dsimp only; omega) rfl rfl at_ a cp x hdd B hB (m : Int) (go_may at_ x hk hx m hm2) (by rw [go_many _ _ _ hm]; omega) d e1).mono ?_
      rintro e w' ⟨oa, oc, rfl, hC2⟩
      rw [e3, hol] at hC2 ⊢
      rw [hKK] at hC2
      exact ⟨oa, oc, q + (20 + 2 * (m : Int)), rfl, d.s.deselect, N + d.clocks + 1, fo, fi, e4, .inl hC2, by omega, by omega, by omega, by omega, hn⟩
    · refine (cM_runq (K := ⟨0, 0, 0, q, false, -1, false⟩) (qq_ok _ _ _ _) hC hN0 hA.sel (by dsimp only; omega) (by dsimp only; omega) rfl rfl at_ a cp x (List.mem_append_right _ hdd) B hB (m : Int) (go_may at_ x hk hx m hm2) (by rw [go_many _ _ _ hm]; omega) d e1).mono ?_
      rintro e w' ⟨oa, oc, rfl, hC2⟩
      rw [e3, hol] at hC2 ⊢
      rw [hKK] at hC2
      exact ⟨oa, oc, q + (20 + 2 * (m : Int)), rfl, d.s.deselect, N + d.clocks + 1, fo, fi, e4, .inr ⟨gl, hh, hC2.sub hsubM⟩, by omega, by omega, by omega, by omega, hn⟩
  | true =>
    obtain ⟨d, e1, e2, e3, e4⟩ := goG_all hA hg hj hq at_ hk x hx m hm
    rw [hB2] at e4
    have hKK : ({ KS.driven ⟨0, 0, 0, q, true, -1, false⟩ d with goes := B } : KS) = ⟨0, 0, 0, q + (12 + 2 * (m : Int)), B, -1, false⟩ := by
      unfold KS.driven
      dsimp only
      rw [e2, if_neg (by decide)]
    rcases hC with hC | ⟨gl, hh, hC⟩
    · refine (c_rung (K := ⟨0, 0, 0, q, true, -1, false⟩) (qq_ok _ _ _ _) hC hN0 hA.sel (by dsimp only; omega) (by dsimp only; omega) rfl rfl at_ a cp x hdd B hB (m : Int) (go_may at_ x hk hx m hm2) (by rw [go_many _ _ _ hm]; omega) d e1).mono ?_
      rintro e w' ⟨oa, oc, rfl, hC2⟩
      rw [e3, hol] at hC2 ⊢
      rw [hKK] at hC2
      exact ⟨oa, oc, q + (12 + 2 * (m : Int)), rfl, d.s.deselect, N + d.clocks + 1, fo, fi, e4, .inl hC2, by omega, by omega, by omega, by omega, hn⟩
    · refine (cM_rung (K := ⟨0, 0, 0, q, true, -1, false⟩) (qq_ok _ _ _ _) hC hN0 hA.sel (by dsimp only; omega) (by dsimp only; omega) rfl rfl at_ a cp x (List.mem_append_right _ hdd) B hB (m : Int) (go_may at_ x hk hx m hm2) (by rw [go_many _ _ _ hm]; omega) d e1).mono ?_
      rintro e w' ⟨oa, oc, rfl, hC2⟩
      rw [e3, hol] at hC2 ⊢
      rw [hKK] at hC2
      exact ⟨oa, oc, q + (12 + 2 * (m : Int)), rfl, d.s.deselect, N + d.clocks + 1, fo, fi, e4, .inr ⟨gl, hh, hC2.sub hsubM⟩, by omega, by omega, by omega, by omega, hn⟩
/-- The cells. -/
theorem reg_cells {c : Cor} {b k : Nat} {r0 r1 r2 L n q : Int} {xs ys : List Int} {w0 w : World} {rows : List (Value × List Value)} (h : Reg c b k r0 r1 r2 L xs ys n q w0 w rows) (fa : ByteArray) (ha : c.a = fa) :
    Calls Tryz.prog 24 #[.pointer (some ⟨b, 0, none⟩)] w fun e w' => e = .returned (.string fa) ∧ w = w' := by
  obtain ⟨s, N, fo, fi, hA, hC, -⟩ := h
  exact c_cells hC fa (hA.a.trans ha)
end Go.Proofs.YtkjdhkpkcepilaaGreat
