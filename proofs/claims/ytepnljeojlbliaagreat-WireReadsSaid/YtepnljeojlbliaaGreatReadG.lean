/- The read that goes on: the command, with its mode bits; as it goes on. · On a chip at rest: in plain. (The first part is printed by gen_ctlq.py.) -/
import Derived.Test.YtepnljeojlbliaaGreatCtlR
namespace Go.Proofs.YtepnljeojlbliaaGreat
open Go.RowKit
set_option maxRecDepth 100000 in
set_option maxHeartbeats 8000000 in
theorem c_runq {Q : Own} {w0 w : World} {b : Nat} {s : St} {N : Int} {rows : List (Value × List Value)} {k fo fi : Nat} {K : KS} (hQ : Q.Ok) (hC : Ctx (ChipP b s N) ((CtlC k b fo fi K).star Q) w0 w rows) (hN : 0 ≤ N) (hsel : s.sel = false) (hkl : -9223372036854775808 ≤ K.left ∧ K.left ≤ 9223372036854775807) (hkc : 0 ≤ K.clocks ∧ K.clocks ≤ 1048576)
    (hlost : K.lost = false) (hgo : K.goes = false) (at_ : Int) (a : Option Addr) (cp : Nat) (x : Int) (hdd : (.slice a 1 cp, ints [x]) ∈ rows) (B : Bool) (hB : (x == 160) = B) (read : Int) (hmay : cmdMay (opOf 235) at_ [x] read = true) (hroom : N + phsMany (cmdPhs (opOf 235) at_ [x] read) ≤ 1048575) (d : Drv) (hd : Drv.phases ⟨s.select, [], 0, K.left⟩ (cmdPhs (opOf 235) at_ [x] read) = (d, true)) :
    Calls Tryz.prog 50 #[.pointer (some ⟨k, 0, none⟩), .int .i64 235, .int .i64 at_, .slice a 1 cp, .int .i64 read] w fun e w' => ∃ oa oc, e = .returned (.tuple #[.slice oa d.out.length oc, .int .i64 0]) ∧ Ctx (ChipP b d.s.deselect (N + d.clocks + 1)) ((CtlC k b fo fi { K.driven d with goes := B }).star Q) w0 w' ((.slice oa d.out.length oc, ints d.out) :: rows) := by
  have hcall := cmd_all 235 (by decide) at_ [x] read hmay
  have hfind := tab_find 235 (by decide)
  have hst := k_state hC
  rw [hlost] at hst
  have hcmd := fun w1 (h : Ctx (ChipP b s N) ((CtlC k b fo fi K).star Q) w0 w1 rows) => c_command ((ctlC_ok k b fo fi K).star hQ) h 235 (by decide) at_ a cp [x] hdd read hmay
  have hdrv := fun w1 rows1 (h : Ctx (ChipP b s N) ((CtlC k b fo fi K).star Q) w0 w1 rows1) g m cap L (hP : PhsV rows1 (.slice (some ⟨g, 0, none⟩) m cap) L) (hL : L.map Prod.fst = cmdPhs (opOf 235) at_ [x] read) => k_drive hQ h hN hsel (some ⟨g, 0, none⟩) m cap L hP hkl hkc hlost (by rw [← map_all, hL]; exact hcall) (by rw [hL]; exact hroom) d (by rw [hL]; exact hd)
  have HSET : Hid (∀ w1 rows1, Ctx (ChipP b d.s.deselect (N + d.clocks + 1)) ((CtlC k b fo fi (K.driven d)).star Q) w0 w1 rows1 → Ctx (ChipP b d.s.deselect (N + d.clocks + 1)) ((CtlC k b fo fi { K.driven d with goes := B }).star Q) w0 (w1.setCell ⟨k, 7, none⟩ (.bool B)) rows1) := Lib.hid (fun w1 rows1 h => ctl_set hQ h 7 (.bool B) rfl)
  obtain ⟨gx, ox, ea, -, -⟩ := (hC.rs_mem hdd).cells (Nat.lt_succ_self 0)
  subst ea
  have HDC : Hid (∀ w1 rows1, Ctx (ChipP b d.s.deselect (N + d.clocks + 1)) ((CtlC k b fo fi (K.driven d)).star Q) w0 w1 rows1 → (.slice (some ⟨gx, ox, none⟩) 1 cp, ints [x]) ∈ rows1 → w1.cell? ⟨gx, ox, none⟩ = some (.int .i64 x)) := Lib.hid (fun w1 rows1 h hm => by
    obtain ⟨g2, o2, e2, -, hc2⟩ := (h.rs_mem hm).cells (Nat.lt_succ_self 0)
    simp only [Option.some.injEq, Addr.mk.injEq, and_true] at e2
    obtain ⟨rfl, rfl⟩ := e2
    have := hc2 0 (Nat.lt_succ_self 0)
    rw [ints_at _ _ (Nat.lt_succ_self 0)] at this
    exact this)
  have HDD := Lib.hid hdd
  have HG7 : Hid (∀ w1 rows1, Ctx (ChipP b d.s.deselect (N + d.clocks + 1)) ((CtlC k b fo fi (K.driven d)).star Q) w0 w1 rows1 → w1.cell? ⟨k, 7, none⟩ = some (.bool false) ∧ w1.frozen? ⟨k, 7, none⟩ = false) := Lib.hid (fun w1 rows1 h => by
    obtain ⟨-, -, e7, -, -, ef, -⟩ := ctl_cells h
    refine ⟨?_, ef 7⟩
    rw [e7]
    unfold KS.driven
    rw [hgo])
  have HG0 : Hid (∀ w1 rows1, Ctx (ChipP b s N) ((CtlC k b fo fi K).star Q) w0 w1 rows1 → w1.cell? ⟨k, 7, none⟩ = some (.bool false)) := Lib.hid (fun w1 rows1 h => by
    obtain ⟨-, -, e7, -⟩ := ctl_cells h
    rw [e7, hgo])
  have HC := Lib.hid hC
  obtain ⟨o, ho⟩ : ∃ o, opOf 235 = o := ⟨_, rfl⟩
  rw [ho] at hfind hcmd hdrv
  obtain ⟨by', ad, mo, du, da, inn⟩ := o
  unfold POp.cells at hfind hcmd
  dsimp only at hfind hcmd
  have HFIND := Lib.hid hfind
  have HCMD := Lib.hid hcmd
  have HDRV := Lib.hid hdrv
  have HST := Lib.hid hst
  clear hcall hfind hst hcmd hdrv hC ho hd hmay hroom hdd hlost hgo hkl hkc hsel
  go_enter Tryz.func50, Tryz.ntmps50
  go_upto_region 8 with (first | (go_at_call 124; refine HST.out.mono ?_; rintro e w1 ⟨rfl, rfl⟩) | (go_at_call 125; refine (HFIND.out _).mono ?_; rintro e w2 ⟨rfl, hU2⟩; have HC2 := Lib.hid ((HC.out.frame hU2).alloc (.cells #[.int .i64 by', .int .i64 ad, .bool mo, .int .i64 du, .int .i64 da, .bool inn] 52))) | (go_at_call 126; refine (HCMD.out _ HC2.out).mono ?_; rintro e w3 ⟨g, m, cap, L, rows', rfl, hL, hC3, hP3⟩; have c7 := HG0.out _ _ hC3))
  have HDR := Lib.hid (HDRV.out _ _ hC3 g m cap L hP3 hL)
  clear hC3 hP3 hL HCMD HDRV HFIND HST HC
  go_wp2_with (go_at_call 127; refine HDR.out.mono ?_; rintro e w4 ⟨oa, oc, rfl, hC4⟩; obtain ⟨d7, df7⟩ := HG7.out _ _ hC4; have hdc := HDC.out _ _ hC4 (List.mem_cons_of_mem _ (List.mem_append_right _ HDD.out)))
  have hC5 := HSET.out _ _ hC4
  go_ret2
  refine ⟨oa, oc, rfl, hC5.sub fun r hr => ?_⟩
  rcases List.mem_cons.1 hr with h | h
  · exact List.mem_cons.2 (.inl h)
  · exact List.mem_cons.2 (.inr (List.mem_append.2 (.inr h)))
set_option maxRecDepth 100000 in
set_option maxHeartbeats 8000000 in
theorem c_rung {Q : Own} {w0 w : World} {b : Nat} {s : St} {N : Int} {rows : List (Value × List Value)} {k fo fi : Nat} {K : KS} (hQ : Q.Ok) (hC : Ctx (ChipP b s N) ((CtlC k b fo fi K).star Q) w0 w rows) (hN : 0 ≤ N) (hsel : s.sel = false) (hkl : -9223372036854775808 ≤ K.left ∧ K.left ≤ 9223372036854775807) (hkc : 0 ≤ K.clocks ∧ K.clocks ≤ 1048576)
    (hlost : K.lost = false) (hgo : K.goes = true) (at_ : Int) (a : Option Addr) (cp : Nat) (x : Int) (hdd : (.slice a 1 cp, ints [x]) ∈ rows) (B : Bool) (hB : (x == 160) = B) (read : Int) (hmay : cmdMay (opOf 235) at_ [x] read = true) (hroom : N + phsMany (cmdPhs (opOf 235) at_ [x] read) ≤ 1048575) (d : Drv) (hd : Drv.phases ⟨s.select, [], 0, K.left⟩ (cmdPhs (opOf 235) at_ [x] read).tail = (d, true)) :
    Calls Tryz.prog 50 #[.pointer (some ⟨k, 0, none⟩), .int .i64 235, .int .i64 at_, .slice a 1 cp, .int .i64 read] w fun e w' => ∃ oa oc, e = .returned (.tuple #[.slice oa d.out.length oc, .int .i64 0]) ∧ Ctx (ChipP b d.s.deselect (N + d.clocks + 1)) ((CtlC k b fo fi { K.driven d with goes := B }).star Q) w0 w' ((.slice oa d.out.length oc, ints d.out) :: rows) := by
  have hcall := cmd_all 235 (by decide) at_ [x] read hmay
  have hfind := tab_find 235 (by decide)
  have hst := k_state hC
  rw [hlost] at hst
  have hcmd := fun w1 (h : Ctx (ChipP b s N) ((CtlC k b fo fi K).star Q) w0 w1 rows) => c_command ((ctlC_ok k b fo fi K).star hQ) h 235 (by decide) at_ a cp [x] hdd read hmay
  have hcall2 : (cmdPhs (opOf 235) at_ [x] read).tail.all Ph.may = true := by
    rw [List.all_eq_true] at hcall ⊢
    exact fun p hp => hcall p (List.mem_of_mem_tail hp)
  have hroom2 : N + phsMany (cmdPhs (opOf 235) at_ [x] read).tail ≤ 1048575 := by
    have hx : cmdPhs (opOf 235) at_ [x] read = ⟨1, [(opOf 235).byte], 0, 0⟩ :: (cmdPhs (opOf 235) at_ [x] read).tail := rfl
    rw [hx, phsMany_cons] at hroom
    have : (0 : Int) ≤ Ph.many ⟨1, [(opOf 235).byte], 0, 0⟩ := by rw [many1]; show (0 : Int) ≤ (1 + 0) * 8; decide
    omega
  have hdrv := fun w1 rows1 (h : Ctx (ChipP b s N) ((CtlC k b fo fi K).star Q) w0 w1 rows1) g o m cap L (hP : PhsV rows1 (.slice (some ⟨g, o, none⟩) m cap) L) (hL : L.map Prod.fst = (cmdPhs (opOf 235) at_ [x] read).tail) => k_drive hQ h hN hsel (some ⟨g, o, none⟩) m cap L hP hkl hkc hlost (by rw [← map_all, hL]; exact hcall2) (by rw [hL]; exact hroom2) d (by rw [hL]; exact hd)
  have HSET : Hid (∀ w1 rows1, Ctx (ChipP b d.s.deselect (N + d.clocks + 1)) ((CtlC k b fo fi (K.driven d)).star Q) w0 w1 rows1 → Ctx (ChipP b d.s.deselect (N + d.clocks + 1)) ((CtlC k b fo fi { K.driven d with goes := B }).star Q) w0 (w1.setCell ⟨k, 7, none⟩ (.bool B)) rows1) := Lib.hid (fun w1 rows1 h => ctl_set hQ h 7 (.bool B) rfl)
  obtain ⟨gx, ox, ea, -, -⟩ := (hC.rs_mem hdd).cells (Nat.lt_succ_self 0)
  subst ea
  have HDC : Hid (∀ w1 rows1, Ctx (ChipP b d.s.deselect (N + d.clocks + 1)) ((CtlC k b fo fi (K.driven d)).star Q) w0 w1 rows1 → (.slice (some ⟨gx, ox, none⟩) 1 cp, ints [x]) ∈ rows1 → w1.cell? ⟨gx, ox, none⟩ = some (.int .i64 x)) := Lib.hid (fun w1 rows1 h hm => by
    obtain ⟨g2, o2, e2, -, hc2⟩ := (h.rs_mem hm).cells (Nat.lt_succ_self 0)
    simp only [Option.some.injEq, Addr.mk.injEq, and_true] at e2
    obtain ⟨rfl, rfl⟩ := e2
    have := hc2 0 (Nat.lt_succ_self 0)
    rw [ints_at _ _ (Nat.lt_succ_self 0)] at this
    exact this)
  have HDD := Lib.hid hdd
  have HG7 : Hid (∀ w1 rows1, Ctx (ChipP b d.s.deselect (N + d.clocks + 1)) ((CtlC k b fo fi (K.driven d)).star Q) w0 w1 rows1 → w1.cell? ⟨k, 7, none⟩ = some (.bool true) ∧ w1.frozen? ⟨k, 7, none⟩ = false) := Lib.hid (fun w1 rows1 h => by
    obtain ⟨-, -, e7, -, -, ef, -⟩ := ctl_cells h
    refine ⟨?_, ef 7⟩
    rw [e7]
    unfold KS.driven
    rw [hgo])
  have HG0 : Hid (∀ w1 rows1, Ctx (ChipP b s N) ((CtlC k b fo fi K).star Q) w0 w1 rows1 → w1.cell? ⟨k, 7, none⟩ = some (.bool true)) := Lib.hid (fun w1 rows1 h => by
    obtain ⟨-, -, e7, -⟩ := ctl_cells h
    rw [e7, hgo])
  have HC := Lib.hid hC
  have hlen2 : 2 ≤ (cmdPhs (opOf 235) at_ [x] read).length := by
    have e1 : opOf 235 = ⟨235, 4, true, 4, 4, false⟩ := by kernel_rfl
    rw [e1]
    simp [cmdPhs]
  obtain ⟨o, ho⟩ : ∃ o, opOf 235 = o := ⟨_, rfl⟩
  rw [ho] at hfind hcmd hdrv hlen2
  obtain ⟨by', ad, mo, du, da, inn⟩ := o
  unfold POp.cells at hfind hcmd
  dsimp only at hfind hcmd
  have HFIND := Lib.hid hfind
  have HCMD := Lib.hid hcmd
  have HDRV := Lib.hid hdrv
  have HST := Lib.hid hst
  clear hcall hcall2 hroom2 hfind hst hcmd hdrv hC ho hd hmay hroom hdd hlost hgo hkl hkc hsel
  go_enter Tryz.func50, Tryz.ntmps50
  go_upto_region 8 with (first | (go_at_call 124; refine HST.out.mono ?_; rintro e w1 ⟨rfl, rfl⟩) | (go_at_call 125; refine (HFIND.out _).mono ?_; rintro e w2 ⟨rfl, hU2⟩; have HC2 := Lib.hid ((HC.out.frame hU2).alloc (.cells #[.int .i64 by', .int .i64 ad, .bool mo, .int .i64 du, .int .i64 da, .bool inn] 52))) | (go_at_call 126; refine (HCMD.out _ HC2.out).mono ?_; rintro e w3 ⟨g, m, cap, L, rows', rfl, hL, hC3, hP3⟩; have c7 := HG0.out _ _ hC3))
  have hLt : ∃ y L2, L = y :: L2 := by
    cases L with
    | nil => simp [cmdPhs] at hL
    | cons y L2 => exact ⟨y, L2, rfl⟩
  obtain ⟨y, L2, rfl⟩ := hLt
  have hmc : 1 ≤ m ∧ m ≤ cap := by
    obtain ⟨a3, c3, e3, h33, -⟩ := hP3
    simp only [Value.slice.injEq] at e3
    obtain ⟨-, rfl, rfl⟩ := e3
    exact ⟨by rw [List.length_cons]; omega, h33⟩
  obtain ⟨R2, hC3b, hRs, hP3b⟩ := phs_tail hC3 hP3
  have HRS := Lib.hid hRs
  have HDR := Lib.hid (HDRV.out _ _ hC3b g (0 + 4) (m - 1) (cap - 1) L2 hP3b (by rw [← hL]; rfl))
  obtain ⟨m2, hm2⟩ : ∃ m2, m = m2 + 1 := ⟨m - 1, by omega⟩
  obtain ⟨cap2, hcap2⟩ : ∃ cap2, cap = cap2 + 1 := ⟨cap - 1, by omega⟩
  have hc20 : cap2 ≠ 0 := by
    have h1 := congrArg List.length hL
    rw [List.length_map, List.length_cons] at h1
    obtain ⟨a3, c3, e3, h33, -⟩ := hP3
    simp only [Value.slice.injEq] at e3
    obtain ⟨-, e4, rfl⟩ := e3
    rw [List.length_cons] at e4 h33
    omega
  subst hm2 hcap2
  clear hlen2
  clear hC3b hP3b hRs
  clear hC3 hP3 hL HCMD HDRV HFIND HST HC
  go_wp2_with (go_at_call 127; refine HDR.out.mono ?_; rintro e w4 ⟨oa, oc, rfl, hC4⟩; obtain ⟨d7, df7⟩ := HG7.out _ _ hC4; have hdc := HDC.out _ _ hC4 (List.mem_cons_of_mem _ (HRS.out _ (List.mem_append_right _ HDD.out))))
  have hC5 := HSET.out _ _ hC4
  go_ret2
  refine ⟨oa, oc, rfl, hC5.sub fun r hr => ?_⟩
  rcases List.mem_cons.1 hr with h | h
  · exact List.mem_cons.2 (.inl h)
  · exact List.mem_cons.2 (.inr (HRS.out _ (List.mem_append.2 (.inr h))))
end Go.Proofs.YtepnljeojlbliaaGreat
namespace Go.Proofs.YtepnljeojlbliaaGreat
open Go.RowKit
/-- Nibbles, as a number. -/
def nibN (ys : List Int) : Int := ys.foldl (fun g y => g * 16 + y % 16) 0
def outs4 (bs : List Int) : List Int := bs.flatMap fun b => outsL b 4
/-- A chip that tells from an address on, on four lanes, with mode bits. -/
def St.hdG (s : St) (A x : Int) : St := { s with sel := true, op := opOf 235, stage := 6, left := 0, got := 0, addr := A, mode := x, moded := true, data := [], told := 0, now := 0, beyond := false }
def adr4 (k : Int) : Int := nibN (outs4 [k / 65536, k / 256 % 256, k % 256]) % 4096
theorem adr4_eq (k : Int) (hk : 0 ≤ k ∧ k < 4096) : adr4 k = k := by
  show (((((((0 * 16 + (k / 65536) / 16 % 16 % 16) * 16 + (k / 65536) % 16 % 16) * 16 + (k / 256 % 256) / 16 % 16 % 16) * 16 + (k / 256 % 256) % 16 % 16) * 16 + (k % 256) / 16 % 16 % 16) * 16 + (k % 256) % 16 % 16)) % 4096 = k
  omega
theorem mod4_eq (x : Int) (hx : 0 ≤ x ∧ x ≤ 255) : nibN (outs4 [x]) = x := by
  show (0 * 16 + x / 16 % 16 % 16) * 16 + x % 16 % 16 = x
  omega
set_option maxRecDepth 100000 in
theorem hdQ (s : St) (hg : s.goes = false) (hj : s.job = none) (hq : s.quad = true) (k x : Int) : runC s.select (wordL [235] ++ (outs4 [k / 65536, k / 256 % 256, k % 256] ++ (outs4 [x] ++ List.replicate 4 15))) = (s.hdG (adr4 k) (nibN (outs4 [x])), List.replicate 20 15) := by
  obtain ⟨a, prot, quad, wipes, tabled, sel, en, goes, job, busy, op, stage, left, got, addr, mode, moded, data, told, now, beyond⟩ := s
  change goes = false at hg
  change job = none at hj
  change quad = true at hq
  subst hg
  subst hj
  subst hq
  kernel_rfl
set_option maxRecDepth 100000 in
theorem hdG (s : St) (hg : s.goes = true) (hj : s.job = none) (hq : s.quad = true) (k x : Int) : runC s.select (outs4 [k / 65536, k / 256 % 256, k % 256] ++ (outs4 [x] ++ List.replicate 4 15)) = (s.hdG (adr4 k) (nibN (outs4 [x])), List.replicate 12 15) := by
  obtain ⟨a, prot, quad, wipes, tabled, sel, en, goes, job, busy, op, stage, left, got, addr, mode, moded, data, told, now, beyond⟩ := s
  change goes = true at hg
  change job = none at hj
  change quad = true at hq
  subst hg
  subst hj
  subst hq
  kernel_rfl
/-- A read on four lanes behind phases that bring a chip to where it tells. -/
theorem rd4_all {c : Cor} (t u : St) (P : List Ph) (os : List Int) (hP : ∀ p ∈ P, p.read = 0) (hrun : runC t.select (phsIns P) = (u, os)) (huj : u.job = none) (hus : u.sel = true) (h6 : u.stage = 6) (hd1 : u.op.data = 4) (hl : u.left = 0) (hend : ∀ v, Tel u v → At c v.deselect) (hbd : ∀ i, 0 ≤ u.byteAt i ∧ u.byteAt i ≤ 255) (m : Nat) :
    ∃ d : Drv, Drv.phases ⟨t.select, [], 0, -1⟩ (P ++ [⟨4, [], 0, (m : Int)⟩]) = (d, true) ∧ d.clocks = ((phsIns P).length : Int) + 2 * (m : Int) ∧ d.out = (List.range m).map (fun (i : Nat) => u.byteAt (u.told + (i : Int))) ∧ At c d.s.deselect := by
  have hf := phases_free (P ++ [⟨4, [], 0, (m : Int)⟩]) ⟨t.select, [], 0, -1⟩ (show (-1 : Int) < 0 by decide)
  dsimp only at hf
  have hol : os.length = (phsIns P).length := by
    have := runC_len t.select (phsIns P)
    rw [hrun] at this
    exact this
  have hins : phsIns (P ++ [⟨4, [], 0, (m : Int)⟩]) = phsIns P ++ List.replicate (2 * m) 15 := by
    rw [phsIns_app]
    congr 1
    unfold phsIns
    rw [List.flatMap_cons, List.flatMap_nil, ins_read4, List.append_nil]
  rw [phsOuts_no P hP, hins, runC_app, hrun] at hf
  dsimp only at hf
  have htells := tells4 m (s := u) huj hus h6 hd1 hl
  have htel := runC_tel (List.replicate (2 * m) 15) (s := u) huj hus h6
  rw [htells, ← hol, List.drop_append_of_le_length (Nat.le_refl _), List.drop_of_length_le (Nat.le_refl _), List.nil_append, List.nil_append] at hf
  refine ⟨_, hf, ?_, ?_, hend _ htel⟩
  · dsimp only
    rw [List.length_append, List.length_replicate]
    omega
  · dsimp only
    rw [phsOuts, phsOuts, says_nil, List.append_nil]
    show groups 4 ((m : Int)).toNat _ = _
    rw [Int.toNat_natCast]
    exact groups_nibs m _ (fun i => hbd _)
theorem hdG_end {c : Cor} {t : St} (h : At c t) (A x : Int) : ∀ v, Tel (t.hdG A x) v → At { c with goes := decide (x = 160) } v.deselect := by
  intro v hv
  obtain ⟨hcor, -⟩ := h
  unfold Tel at hv
  obtain ⟨va, vprot, vquad, vwipes, vtabled, vsel, ven, vgoes, vjob, vbusy, vop, vstage, vleft, vgot, vaddr, vmode, vmoded, vdata, vtold, vnow, vbeyond⟩ := v
  rw [hv, ← hcor]
  exact ⟨by kernel_rfl, by kernel_rfl⟩
theorem byteAt_G {t : St} {A x : Int} (i : Int) : (t.hdG A x).byteAt i = byteOf t.a ((A + i) % 4096).toNat := by
  unfold St.byteAt
  rw [show (t.hdG A x).op = opOf 235 from rfl, if_neg (by decide), if_neg (by decide), if_neg (by decide), if_neg (by decide)]
  rfl
theorem ins_bytes4 (bs : List Int) : Ph.ins ⟨4, bs, 0, 0⟩ = outs4 bs := by
  unfold Ph.ins Ph.says
  show bs.flatMap (fun b => outsL b 4) ++ List.replicate 0 15 ++ List.replicate _ 15 = _
  rw [show ((8 : Int) / 4).toNat * (0 : Int).toNat = 0 from rfl, List.replicate_zero, List.append_nil, List.append_nil]
  rfl
theorem go_phs (k x : Int) (m : Nat) (hm : 1 ≤ m) : cmdPhs (opOf 235) k [x] m = ⟨1, [235], 0, 0⟩ :: ([⟨4, [k / 65536, k / 256 % 256, k % 256], 0, 0⟩, ⟨4, [x], 0, 0⟩, ⟨0, [], 4, 0⟩] ++ [⟨4, [], 0, (m : Int)⟩]) := by
  have e : opOf 235 = ⟨235, 4, true, 4, 4, false⟩ := by kernel_rfl
  rw [e]
  unfold cmdPhs
  dsimp only
  rw [if_pos (by decide), if_pos rfl, if_pos (by decide), if_neg (by simp), if_pos (by omega)]
  rfl
theorem go_ins (k x : Int) : phsIns [⟨4, [k / 65536, k / 256 % 256, k % 256], 0, 0⟩, ⟨4, [x], 0, 0⟩, ⟨0, [], 4, 0⟩] = outs4 [k / 65536, k / 256 % 256, k % 256] ++ (outs4 [x] ++ List.replicate 4 15) := by
  unfold phsIns
  rw [List.flatMap_cons, List.flatMap_cons, List.flatMap_cons, List.flatMap_nil, ins_bytes4, ins_bytes4, show ((4 : Int)) = ((4 : Nat) : Int) from rfl, ins_waits, List.append_nil]
theorem goQ_all {c : Cor} {t : St} (h : At c t) (hg : c.goes = false) (hj : c.job = none) (hq : c.quad = true) (k : Int) (hk : 0 ≤ k ∧ k < 4096) (x : Int) (hx : 0 ≤ x ∧ x ≤ 255) (m : Nat) (hm : 1 ≤ m) :
    ∃ d : Drv, Drv.phases ⟨t.select, [], 0, -1⟩ (cmdPhs (opOf 235) k [x] m) = (d, true) ∧ d.clocks = 20 + 2 * (m : Int) ∧ d.out = intsOf (fetched c.a k m) ∧ At { c with goes := decide (x = 160) } d.s.deselect := by
  rw [go_phs k x m hm]
  have hins : phsIns (⟨1, [235], 0, 0⟩ :: [⟨4, [k / 65536, k / 256 % 256, k % 256], 0, 0⟩, ⟨4, [x], 0, 0⟩, ⟨0, [], 4, 0⟩]) = wordL [235] ++ (outs4 [k / 65536, k / 256 % 256, k % 256] ++ (outs4 [x] ++ List.replicate 4 15)) := by
    rw [show (⟨1, [235], 0, 0⟩ :: [⟨4, [k / 65536, k / 256 % 256, k % 256], 0, 0⟩, ⟨4, [x], 0, 0⟩, ⟨0, [], 4, 0⟩] : List Ph) = [⟨1, [235], 0, 0⟩] ++ [⟨4, [k / 65536, k / 256 % 256, k % 256], 0, 0⟩, ⟨4, [x], 0, 0⟩, ⟨0, [], 4, 0⟩] from rfl, phsIns_app, go_ins]
    congr 1
  obtain ⟨d, h1, h2, h3, h4⟩ := rd4_all (c := { c with goes := decide (x = 160) }) t (t.hdG (adr4 k) (nibN (outs4 [x]))) (⟨1, [235], 0, 0⟩ :: [⟨4, [k / 65536, k / 256 % 256, k % 256], 0, 0⟩, ⟨4, [x], 0, 0⟩, ⟨0, [], 4, 0⟩]) _ (by simp) (by rw [hins]; exact hdQ t (h.goes.trans hg) (h.job.trans hj) (h.quad.trans hq) k x) (h.job.trans hj) rfl rfl rfl rfl (by rw [mod4_eq x hx]; exact hdG_end h _ x) (fun i => byteAt_bd _ _) m
  refine ⟨d, h1, ?_, ?_, h4⟩
  · rw [h2, hins]
    rfl
  · rw [h3]
    unfold intsOf fetched
    rw [List.map_map]
    apply List.map_congr_left
    intro i _
    rw [byteAt_G, ← h.a, adr4_eq k hk]
    show byteOf t.a ((k + (0 + (i : Int))) % 4096).toNat = _
    rw [Int.zero_add]
    rfl
theorem goG_all {c : Cor} {t : St} (h : At c t) (hg : c.goes = true) (hj : c.job = none) (hq : c.quad = true) (k : Int) (hk : 0 ≤ k ∧ k < 4096) (x : Int) (hx : 0 ≤ x ∧ x ≤ 255) (m : Nat) (hm : 1 ≤ m) :
    ∃ d : Drv, Drv.phases ⟨t.select, [], 0, -1⟩ (cmdPhs (opOf 235) k [x] m).tail = (d, true) ∧ d.clocks = 12 + 2 * (m : Int) ∧ d.out = intsOf (fetched c.a k m) ∧ At { c with goes := decide (x = 160) } d.s.deselect := by
  rw [go_phs k x m hm, List.tail_cons]
  obtain ⟨d, h1, h2, h3, h4⟩ := rd4_all (c := { c with goes := decide (x = 160) }) t (t.hdG (adr4 k) (nibN (outs4 [x]))) [⟨4, [k / 65536, k / 256 % 256, k % 256], 0, 0⟩, ⟨4, [x], 0, 0⟩, ⟨0, [], 4, 0⟩] _ (by simp) (by rw [go_ins]; exact hdG t (h.goes.trans hg) (h.job.trans hj) (h.quad.trans hq) k x) (h.job.trans hj) rfl rfl rfl rfl (by rw [mod4_eq x hx]; exact hdG_end h _ x) (fun i => byteAt_bd _ _) m
  refine ⟨d, h1, ?_, ?_, h4⟩
  · rw [h2, go_ins]
    rfl
  · rw [h3]
    unfold intsOf fetched
    rw [List.map_map]
    apply List.map_congr_left
    intro i _
    rw [byteAt_G, ← h.a, adr4_eq k hk]
    show byteOf t.a ((k + (0 + (i : Int))) % 4096).toNat = _
    rw [Int.zero_add]
    rfl
/-- A controller with empty queues; does a read go on? -/
def RegQ (g : Bool) (c : Cor) (b k : Nat) (n q : Int) (w0 w : World) (rows : List (Value × List Value)) : Prop :=
  ∃ (s : St) (N : Int) (fo fi : Nat), At c s ∧ Ctx (ChipP b s N) ((CtlC k b fo fi ⟨0, 0, 0, q, g, -1, false⟩).star (QQ fo fi [] [])) w0 w rows ∧ 0 ≤ N ∧ N ≤ n ∧ 0 ≤ q ∧ q ≤ n ∧ n ≤ 1048575
theorem Reg.asQ {c : Cor} {b k : Nat} {n q : Int} {w0 w : World} {rows : List (Value × List Value)} (h : Reg c b k 0 0 0 (-1) [] [] n q w0 w rows) : RegQ false c b k n q w0 w rows := by
  obtain ⟨s, N, fo, fi, h1, h2, h3, h4, h5, h6, h7, h8⟩ := h
  exact ⟨s, N, fo, fi, h1, h2, h3, h4, h5, h6, h7⟩
theorem RegQ.rowsub {g : Bool} {c : Cor} {b k : Nat} {n q : Int} {w0 w : World} {rows rows' : List (Value × List Value)} (h : RegQ g c b k n q w0 w rows) (hs : ∀ r ∈ rows', r ∈ rows) : RegQ g c b k n q w0 w rows' := by
  obtain ⟨s, N, fo, fi, h1, h2, h3⟩ := h
  exact ⟨s, N, fo, fi, h1, h2.sub hs, h3⟩
theorem RegQ.fr {g : Bool} {c : Cor} {b k : Nat} {n q : Int} {w0 w w' : World} {rows : List (Value × List Value)} (h : RegQ g c b k n q w0 w rows) (u : Upd none' w w') : RegQ g c b k n q w0 w' rows := by
  obtain ⟨s, N, fo, fi, h1, h2, h3⟩ := h
  exact ⟨s, N, fo, fi, h1, h2.frame u, h3⟩
theorem RegQ.up {g : Bool} {c : Cor} {b k : Nat} {n q : Int} {w0 w : World} {rows : List (Value × List Value)} (h : RegQ g c b k n q w0 w rows) : Upd none' w0 w := by
  obtain ⟨s, N, fo, fi, h1, h2, h3⟩ := h
  exact h2.upd
theorem RegQ.rs {g : Bool} {c : Cor} {b k : Nat} {n q : Int} {w0 w : World} {rows : List (Value × List Value)} (h : RegQ g c b k n q w0 w rows) {r : Value × List Value} (hr : r ∈ rows) : RS w r.1 r.2 := by
  obtain ⟨s, N, fo, fi, h1, h2, h3⟩ := h
  exact h2.rs_mem hr
theorem RegQ.lit {g : Bool} {c : Cor} {b k : Nat} {n q : Int} {w0 w : World} {rows : List (Value × List Value)} (h : RegQ g c b k n q w0 w rows) (vs : List Value) (t : TypeId) (m : Nat) (hm : vs.length = m) (hb : m ≤ 1048576) : RegQ g c b k n q w0 (w.alloc (.cells vs.toArray t)) ((.slice (some ⟨w.heap.size, 0, none⟩) m m, vs) :: rows) := by
  obtain ⟨s, N, fo, fi, h1, h2, h3⟩ := h
  exact ⟨s, N, fo, fi, h1, h2.lit vs t m hm hb, h3⟩
theorem regq_clocks {g : Bool} {c : Cor} {b k : Nat} {n q : Int} {w0 w : World} {rows : List (Value × List Value)} (h : RegQ g c b k n q w0 w rows) :
    Calls Tryz.prog 57 #[.pointer (some ⟨k, 0, none⟩)] w fun e w' => e = .returned (.int .i64 q) ∧ w = w' := by
  obtain ⟨s, N, fo, fi, hA, hC, -⟩ := h
  exact k_clocks hC
theorem go_may (k x : Int) (hk : 0 ≤ k ∧ k < 4096) (hx : 0 ≤ x ∧ x ≤ 255) (m : Nat) (hm : m ≤ 512) : cmdMay (opOf 235) k [x] (m : Int) = true := by
  have e : opOf 235 = ⟨235, 4, true, 4, 4, false⟩ := by kernel_rfl
  rw [e]
  unfold cmdMay fitsB
  simp [byteB]
  omega
theorem go_many (k x : Int) (m : Nat) (hm : 1 ≤ m) : phsMany (cmdPhs (opOf 235) k [x] m) = 20 + 2 * (m : Int) := by
  rw [go_phs k x m hm]
  show 0 + ((0 : Int) + ((1 : Int) + 0) * 8) + ((0 : Int) + ((3 : Int) + 0) * 2) + ((0 : Int) + ((1 : Int) + 0) * 2) + (4 + 0) + ((0 : Int) + ((0 : Int) + m) * 2) = _
  omega
/-- The read that goes on, or begins. -/
theorem regq_go {g : Bool} {c : Cor} {b k : Nat} {n q : Int} {w0 w : World} {rows : List (Value × List Value)} (h : RegQ g c b k n q w0 w rows) (hg : c.goes = g) (hj : c.job = none) (hq : c.quad = true) (at_ : Int) (hk : 0 ≤ at_ ∧ at_ < 4096) (x : Int) (hx : 0 ≤ x ∧ x ≤ 255) (B : Bool) (hB : (x == 160) = B) (m : Nat) (hm : 1 ≤ m) (hm2 : m ≤ 512) (a : Option Addr) (cp : Nat) (hdd : (.slice a 1 cp, ints [x]) ∈ rows) (hn : n + (21 + 2 * (m : Int)) ≤ 1048575) :
    Calls Tryz.prog 50 #[.pointer (some ⟨k, 0, none⟩), .int .i64 235, .int .i64 at_, .slice a 1 cp, .int .i64 (m : Int)] w fun e w' => ∃ oa oc, e = .returned (.tuple #[.slice oa m oc, .int .i64 0]) ∧ RegQ B { c with goes := B } b k (n + (21 + 2 * (m : Int))) (q + ((if g then 12 else 20) + 2 * (m : Int))) w0 w' ((.slice oa m oc, ints (intsOf (fetched c.a at_ m))) :: rows) := by
  have hB2 : decide (x = 160) = B := hB
  obtain ⟨s, N, fo, fi, hA, hC, hN0, hN, hq0, hqn, hnn⟩ := h
  have hol : (intsOf (fetched c.a at_ m)).length = m := by unfold intsOf; rw [List.length_map, fetched_len]
  cases g with
  | false =>
    obtain ⟨d, e1, e2, e3, e4⟩ := goQ_all hA hg hj hq at_ hk x hx m hm
    rw [hB2] at e4
    refine (c_runq (K := ⟨0, 0, 0, q, false, -1, false⟩) (qq_ok _ _ _ _) hC hN0 hA.sel (by dsimp only; omega) (by dsimp only; omega) rfl rfl at_ a cp x hdd B hB (m : Int) (go_may at_ x hk hx m hm2) (by rw [go_many _ _ _ hm]; omega) d e1).mono ?_
    rintro e w' ⟨oa, oc, rfl, hC2⟩
    rw [e3, hol] at hC2 ⊢
    refine ⟨oa, oc, rfl, d.s.deselect, N + d.clocks + 1, fo, fi, e4, ?_, by omega, by omega, ?_, ?_, hn⟩
    · have hKK : ({ KS.driven ⟨0, 0, 0, q, false, -1, false⟩ d with goes := B } : KS) = ⟨0, 0, 0, q + (20 + 2 * (m : Int)), B, -1, false⟩ := by
        unfold KS.driven
        dsimp only
        rw [e2, if_neg (by decide)]
      rw [hKK] at hC2
      exact hC2
    · show 0 ≤ q + (20 + 2 * (m : Int)); omega
    · show q + (20 + 2 * (m : Int)) ≤ _; omega
  | true =>
    obtain ⟨d, e1, e2, e3, e4⟩ := goG_all hA hg hj hq at_ hk x hx m hm
    rw [hB2] at e4
    refine (c_rung (K := ⟨0, 0, 0, q, true, -1, false⟩) (qq_ok _ _ _ _) hC hN0 hA.sel (by dsimp only; omega) (by dsimp only; omega) rfl rfl at_ a cp x hdd B hB (m : Int) (go_may at_ x hk hx m hm2) (by rw [go_many _ _ _ hm]; omega) d e1).mono ?_
    rintro e w' ⟨oa, oc, rfl, hC2⟩
    rw [e3, hol] at hC2 ⊢
    refine ⟨oa, oc, rfl, d.s.deselect, N + d.clocks + 1, fo, fi, e4, ?_, by omega, by omega, ?_, ?_, hn⟩
    · have hKK : ({ KS.driven ⟨0, 0, 0, q, true, -1, false⟩ d with goes := B } : KS) = ⟨0, 0, 0, q + (12 + 2 * (m : Int)), B, -1, false⟩ := by
        unfold KS.driven
        dsimp only
        rw [e2, if_neg (by decide)]
      rw [hKK] at hC2
      exact hC2
    · show 0 ≤ q + (12 + 2 * (m : Int)); omega
    · show q + (12 + 2 * (m : Int)) ≤ _; omega
theorem reg_en {c : Cor} {b k : Nat} {r0 r1 r2 n q : Int} {xs ys : List Int} {w0 w : World} {rows : List (Value × List Value)} (h : Reg c b k r0 r1 r2 (-1) xs ys n q w0 w rows) (hg : c.goes = false) (hj : c.job = none) (hn : n + 9 ≤ 1048575) :
    Calls Tryz.prog 50 #[.pointer (some ⟨k, 0, none⟩), .int .i64 6, .int .i64 0, .slice none 0 0, .int .i64 0] w fun e w' => ∃ oa oc, e = .returned (.tuple #[.slice oa 0 oc, .int .i64 0]) ∧ Reg { c with en := true } b k r0 r1 r2 (-1) xs ys (n + 9) (q + 8) w0 w' rows := by
  refine (reg_run h.nil 6 (by decide) (by decide) 0 none 0 [] List.mem_cons_self 0 (by kernel_rfl) { c with en := true } [] 8 (by kernel_rfl) (by omega) (-1) (.inl ⟨rfl, rfl⟩) (fun t ht => en_all ht hg hj)).mono ?_
  rintro e w' ⟨oa, oc, rfl, h2⟩
  refine ⟨oa, oc, rfl, ?_⟩
  rw [show n + 9 = n + 8 + 1 by omega]
  exact h2.rowsub fun r hr => List.mem_cons_of_mem _ (List.mem_cons_of_mem _ hr)
theorem reg_put {c : Cor} {b k : Nat} {r0 r1 r2 n q : Int} {xs ys : List Int} {w0 w : World} {rows : List (Value × List Value)} (h : Reg c b k r0 r1 r2 (-1) xs ys n q w0 w rows) (hg : c.goes = false) (hj : c.job = none) (he : c.en = true) (hn : n + 25 ≤ 1048575) :
    Calls Tryz.prog 50 #[.pointer (some ⟨k, 0, none⟩), .int .i64 1, .int .i64 0, .slice (some ⟨w.heap.size, 0, none⟩) 2 2, .int .i64 0] (w.alloc (.cells #[.int .i64 0, .int .i64 2] 3)) fun e w' => ∃ oa oc, e = .returned (.tuple #[.slice oa 0 oc, .int .i64 0]) ∧ Reg { c with prot := false, quad := true, en := false } b k r0 r1 r2 (-1) xs ys (n + 25) (q + 24) w0 w' rows := by
  have hl : Reg c b k r0 r1 r2 (-1) xs ys n q w0 (w.alloc (.cells #[.int .i64 0, .int .i64 2] 3)) ((.slice (some ⟨w.heap.size, 0, none⟩) 2 2, ints [0, 2]) :: rows) := by
    obtain ⟨s, N, fo, fi, h1, h2, h3⟩ := h
    exact ⟨s, N, fo, fi, h1, h2.lit (ints [0, 2]) 3 2 rfl (by decide), h3⟩
  refine (reg_run hl 1 (by decide) (by decide) 0 _ 2 [0, 2] List.mem_cons_self 0 (by kernel_rfl) { c with prot := false, quad := true, en := false } [] 24 (by kernel_rfl) (by omega) (-1) (.inl ⟨rfl, rfl⟩) (fun t ht => put_all ht hg hj he)).mono ?_
  rintro e w' ⟨oa, oc, rfl, h2⟩
  refine ⟨oa, oc, rfl, ?_⟩
  rw [show n + 25 = n + 24 + 1 by omega]
  exact h2.rowsub fun r hr => List.mem_cons_of_mem _ (List.mem_cons_of_mem _ hr)
end Go.Proofs.YtepnljeojlbliaaGreat
