/- A controller whose power goes: commands that are cut; what it says from then on. -/
import Derived.Test.YtepnljeojlbliaaGreatTwo
namespace Go.Proofs.YtepnljeojlbliaaGreat
open Go.RowKit
set_option maxRecDepth 100000 in
set_option maxHeartbeats 8000000 in
theorem c_run_cut {Q : Own} {w0 w : World} {b : Nat} {s : St} {N : Int} {rows : List (Value × List Value)} {k fo fi : Nat} {K : KS} (hQ : Q.Ok) (hC : Ctx (ChipP b s N) ((CtlC k b fo fi K).star Q) w0 w rows) (hN : 0 ≤ N) (hsel : s.sel = false) (hkl : -9223372036854775808 ≤ K.left ∧ K.left ≤ 9223372036854775807) (hkc : 0 ≤ K.clocks ∧ K.clocks ≤ 1048576)
    (hlost : K.lost = false) (hgo : K.goes = false) (c : Int) (hc : opIs c = true) (hc2 : c ≠ 235) (at_ : Int) (a : Option Addr) (cp : Nat) (data : List Int) (hdd : (.slice a data.length cp, ints data) ∈ rows) (read : Int) (hmay : cmdMay (opOf c) at_ data read = true) (hroom : N + phsMany (cmdPhs (opOf c) at_ data read) ≤ 1048575) (d : Drv) (hd : Drv.phases ⟨s.select, [], 0, K.left⟩ (cmdPhs (opOf c) at_ data read) = (d, false)) :
    Calls Tryz.prog 50 #[.pointer (some ⟨k, 0, none⟩), .int .i64 c, .int .i64 at_, .slice a data.length cp, .int .i64 read] w fun e w' => e = .returned (.tuple #[.slice none 0 0, .int .i64 1101]) ∧ Ctx (ChipP b d.s (N + d.clocks + 1)) ((CtlC k b fo fi (K.driven d).gone).star Q) w0 w' rows := by
  have hcall := cmd_all c hc at_ data read hmay
  have hfind := tab_find c hc
  have hst := k_state hC
  rw [hlost] at hst
  have hcmd := fun w1 (h : Ctx (ChipP b s N) ((CtlC k b fo fi K).star Q) w0 w1 rows) => c_command ((ctlC_ok k b fo fi K).star hQ) h c hc at_ a cp data hdd read hmay
  have hdrv := fun w1 rows1 (h : Ctx (ChipP b s N) ((CtlC k b fo fi K).star Q) w0 w1 rows1) g m cap L (hP : PhsV rows1 (.slice (some ⟨g, 0, none⟩) m cap) L) (hL : L.map Prod.fst = cmdPhs (opOf c) at_ data read) => k_drive_cut hQ h hN hsel (some ⟨g, 0, none⟩) m cap L hP hkl hkc hlost (by rw [← map_all, hL]; exact hcall) (by rw [hL]; exact hroom) d (by rw [hL]; exact hd)
  have HG0 : Hid (∀ w1 rows1, Ctx (ChipP b s N) ((CtlC k b fo fi K).star Q) w0 w1 rows1 → w1.cell? ⟨k, 7, none⟩ = some (.bool false)) := Lib.hid (fun w1 rows1 h => by
    obtain ⟨-, -, e7, -⟩ := ctl_cells h
    rw [e7, hgo])
  have HC := Lib.hid hC
  obtain ⟨o, ho⟩ : ∃ o, opOf c = o := ⟨_, rfl⟩
  rw [ho] at hfind hcmd hdrv
  obtain ⟨by', ad, mo, du, da, inn⟩ := o
  unfold POp.cells at hfind hcmd
  dsimp only at hfind hcmd
  have HFIND := Lib.hid hfind
  have HCMD := Lib.hid hcmd
  have HDRV := Lib.hid hdrv
  have HST := Lib.hid hst
  have hcb : (c == 235) = false := by simpa using hc2
  clear hcall hfind hst hcmd hdrv hC hc ho hd hmay hroom hdd hlost hgo hkl hkc hsel
  go_enter Tryz.func50, Tryz.ntmps50
  go_upto_region 8 with (first | (go_at_call 124; refine HST.out.mono ?_; rintro e w1 ⟨rfl, rfl⟩) | (go_at_call 125; refine (HFIND.out _).mono ?_; rintro e w2 ⟨rfl, hU2⟩; have HC2 := Lib.hid ((HC.out.frame hU2).alloc (.cells #[.int .i64 by', .int .i64 ad, .bool mo, .int .i64 du, .int .i64 da, .bool inn] 52))) | (go_at_call 126; refine (HCMD.out _ HC2.out).mono ?_; rintro e w3 ⟨g, m, cap, L, rows', rfl, hL, hC3, hP3⟩; have c7 := HG0.out _ _ hC3))
  have HDR := Lib.hid (HDRV.out _ _ hC3 g m cap L hP3 hL)
  clear hC3 hP3 hL HCMD HDRV HFIND HST HC
  go_wp2_with (go_at_call 127; refine HDR.out.mono ?_; rintro e w4 ⟨rfl, hC4⟩)
  go_ret2
  exact ⟨rfl, hC4.sub fun r hr => List.mem_append.2 (.inr hr)⟩
theorem c_run_lost {P Q : Own} {w0 w : World} {rows : List (Value × List Value)} {k b fo fi : Nat} {K : KS} (h : Ctx P ((CtlC k b fo fi K).star Q) w0 w rows) (hlost : K.lost = true) (c at_ read : Int) (v : Value) :
    Calls Tryz.prog 50 #[.pointer (some ⟨k, 0, none⟩), .int .i64 c, .int .i64 at_, v, .int .i64 read] w fun e w' => e = .returned (.tuple #[.slice none 0 0, .int .i64 1101]) ∧ w = w' := by
  have hst := k_state h
  rw [hlost] at hst
  clear h
  go_enter Tryz.func50, Tryz.ntmps50
  go_wp2_with (go_at_call 124; refine hst.mono ?_; rintro e w1 ⟨rfl, rfl⟩)
  go_ret2
  exact ⟨rfl, rfl⟩
/-- A bound is told. -/
theorem c_cut {P Q : Own} {w0 w : World} {rows : List (Value × List Value)} {k b fo fi : Nat} {K : KS} (hQ : Q.Ok) (h : Ctx P ((CtlC k b fo fi K).star Q) w0 w rows) (x : Int) (hx : 0 ≤ x) :
    Calls Tryz.prog 54 #[.pointer (some ⟨k, 0, none⟩), .int .i64 x] w fun e w' => e = .returned (.int .i64 0) ∧ Ctx P ((CtlC k b fo fi { K with left := x }).star Q) w0 w' rows := by
  obtain ⟨-, -, -, c8, -, hf, -⟩ := ctl_cells h
  have f8 := hf 8
  have HS := Lib.hid (ctl_set (K' := { K with left := x }) hQ h 8 (.int .i64 x) rfl)
  clear h hf
  go_enter Tryz.func54, Tryz.ntmps54
  go_wp2
  go_ret
  exact ⟨rfl, HS.out⟩
theorem c_lost {P Q : Own} {w0 w : World} {rows : List (Value × List Value)} {k b fo fi : Nat} {K : KS} (h : Ctx P ((CtlC k b fo fi K).star Q) w0 w rows) (x : Bool) (hx : K.lost = x) :
    Calls Tryz.prog 58 #[.pointer (some ⟨k, 0, none⟩)] w fun e w' => e = .returned (.bool x) ∧ w = w' := by
  obtain ⟨-, -, -, -, c9, -⟩ := ctl_cells h
  rw [hx] at c9
  clear h hx
  go_enter Tryz.func58, Tryz.ntmps58
  go_wp2
  go_ret
  exact ⟨rfl, rfl⟩
end Go.Proofs.YtepnljeojlbliaaGreat
