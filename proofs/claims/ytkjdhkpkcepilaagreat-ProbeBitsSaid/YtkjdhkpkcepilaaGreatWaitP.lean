/- A chip at work, asked; wait.Busy, wait.Wait. · Commands that begin a program, an erase. -/
import Derived.Test.YtkjdhkpkcepilaaGreatReady
import Derived.Test.YtkjdhkpkcepilaaGreatPure
import Derived.Test.YtkjdhkpkcepilaaGreatPureG
namespace Go.Proofs.YtkjdhkpkcepilaaGreat
open Go.RowKit
/-- So many clocks go by. -/
def Cor.pass (c : Cor) (n : Int) : Cor := match c.job with
  | none => c
  | some j => if j.susp then c else if j.left ≤ n then { c with a := j.cells c.a all255, job := none, en := false } else { c with job := some { j with left := j.left - n } }
def Cor.works (c : Cor) : Bool := match c.job with
  | none => false
  | some j => !j.susp
def Cor.first (c : Cor) : Int := Go.Proofs.YtkjdhkpkcepilaaGreat.first c.works c.en c.prot
theorem cor_pass {c : Cor} {j : Job} (hj : c.job = some j) (hs : j.susp = false) (n : Int) : c.pass n = if j.left ≤ n then { c with a := j.cells c.a all255, job := none, en := false } else { c with job := some { j with left := j.left - n } } := by
  unfold Cor.pass
  rw [hj]
  dsimp only
  rw [hs, if_neg (by decide)]
set_option maxRecDepth 100000 in
theorem ask_rest {c : Cor} {t : St} (h : At c t) (hg : c.goes = false) (hj : c.job = none) :
    ∃ d : Drv, Drv.phases ⟨t.select, [], 0, -1⟩ (cmdPhs (opOf 5) 0 [] 1) = (d, true) ∧ d.clocks = 16 ∧ d.out = [c.first] ∧ At c d.s.deselect := by
  have htg := h.goes.trans hg
  have htj := h.job.trans hj
  obtain ⟨hcor, hsel⟩ := h
  obtain ⟨a, prot, quad, wipes, tabled, sel, en, goes, job, busy, op, stage, left, got, addr, mode, moded, data, told, now, beyond⟩ := t
  change goes = false at htg
  change job = none at htj
  subst htg
  subst htj
  subst hcor
  refine ⟨_, (Prod.ext rfl (by kernel_rfl) : _ = (_, true)), by kernel_rfl, ?_, by kernel_rfl, by kernel_rfl⟩
  cases en <;> cases prot <;> kernel_rfl
set_option maxRecDepth 100000 in
theorem ask_susp {c : Cor} {t : St} (h : At c t) (hg : c.goes = false) (j : Job) (hj : c.job = some j) (hs : j.susp = true) :
    ∃ d : Drv, Drv.phases ⟨t.select, [], 0, -1⟩ (cmdPhs (opOf 5) 0 [] 1) = (d, true) ∧ d.clocks = 16 ∧ d.out = [c.first] ∧ At c d.s.deselect := by
  have htg := h.goes.trans hg
  have htj := h.job.trans hj
  obtain ⟨hcor, hsel⟩ := h
  obtain ⟨a, prot, quad, wipes, tabled, sel, en, goes, job, busy, op, stage, left, got, addr, mode, moded, data, told, now, beyond⟩ := t
  obtain ⟨js, jp, jd, jl, ju⟩ := j
  change goes = false at htg
  change job = _ at htj
  change ju = true at hs
  subst hs
  subst htg
  subst htj
  subst hcor
  refine ⟨_, (Prod.ext rfl (by kernel_rfl) : _ = (_, true)), by kernel_rfl, ?_, by kernel_rfl, by kernel_rfl⟩
  cases en <;> cases prot <;> kernel_rfl
set_option maxRecDepth 100000 in
theorem ask_near {c : Cor} {t : St} (h : At c t) (hg : c.goes = false) (j : Job) (hj : c.job = some j) (hs : j.susp = false) (h1 : 1 ≤ j.left) (h16 : j.left ≤ 16) :
    ∃ d : Drv, Drv.phases ⟨t.select, [], 0, -1⟩ (cmdPhs (opOf 5) 0 [] 1) = (d, true) ∧ d.clocks = 16 ∧ d.out = [(c.pass 9).first] ∧ At (c.pass 16) d.s.deselect := by
  have htg := h.goes.trans hg
  have htj := h.job.trans hj
  obtain ⟨hcor, hsel⟩ := h
  obtain ⟨a, prot, quad, wipes, tabled, sel, en, goes, job, busy, op, stage, left, got, addr, mode, moded, data, told, now, beyond⟩ := t
  obtain ⟨js, jp, jd, jl, ju⟩ := j
  change goes = false at htg
  change job = _ at htj
  change ju = false at hs
  subst hs
  subst htg
  subst htj
  subst hcor
  dsimp only at h1 h16
  rcases (show jl = 1 ∨ jl = 2 ∨ jl = 3 ∨ jl = 4 ∨ jl = 5 ∨ jl = 6 ∨ jl = 7 ∨ jl = 8 ∨ jl = 9 ∨ jl = 10 ∨ jl = 11 ∨ jl = 12 ∨ jl = 13 ∨ jl = 14 ∨ jl = 15 ∨ jl = 16 by omega) with rfl | rfl | rfl | rfl | rfl | rfl | rfl | rfl | rfl | rfl | rfl | rfl | rfl | rfl | rfl | rfl
  all_goals
    refine ⟨_, (Prod.ext rfl (by kernel_rfl) : _ = (_, true)), by kernel_rfl, ?_, by kernel_rfl, by kernel_rfl⟩
    cases en <;> cases prot <;> kernel_rfl
set_option maxRecDepth 100000 in
theorem ask_far {c : Cor} {t : St} (h : At c t) (hg : c.goes = false) (j : Job) (hj : c.job = some j) (hs : j.susp = false) (h16 : 16 < j.left) :
    ∃ d : Drv, Drv.phases ⟨t.select, [], 0, -1⟩ (cmdPhs (opOf 5) 0 [] 1) = (d, true) ∧ d.clocks = 16 ∧ d.out = [(c.pass 9).first] ∧ At (c.pass 16) d.s.deselect := by
  rw [cor_pass hj hs, cor_pass hj hs, if_neg (by omega), if_neg (by omega)]
  have htg := h.goes.trans hg
  have htj := h.job.trans hj
  have hf := phases_free (cmdPhs (opOf 5) 0 [] 1) ⟨t.select, [], 0, -1⟩ (show (-1 : Int) < 0 by decide)
  dsimp only at hf
  have hins : phsIns (cmdPhs (opOf 5) 0 [] 1) = byteBits 5 ++ List.replicate 8 15 := by kernel_rfl
  have hsj : t.select.job = some j := by
    unfold St.select
    dsimp only
    rw [htg, if_neg (by decide)]
    exact htj
  have hss : t.select.sel = true := by
    unfold St.select
    dsimp only
    rw [htg, if_neg (by decide)]
  have hb := runC_busy (byteBits 5 ++ List.replicate 8 15) t.select j hsj hs (by show ((16 : Nat) : Int) < j.left; exact h16) hss
  rw [hins, hb] at hf
  obtain ⟨hcor, hsel⟩ := h
  obtain ⟨a, prot, quad, wipes, tabled, sel, en, goes, job, busy, op, stage, left, got, addr, mode, moded, data, told, now, beyond⟩ := t
  obtain ⟨js, jp, jd, jl, ju⟩ := j
  change goes = false at htg
  change job = _ at htj
  change ju = false at hs
  subst hs
  subst htg
  subst htj
  subst hcor
  refine ⟨_, hf, by kernel_rfl, ?_, by kernel_rfl, by kernel_rfl⟩
  cases en <;> cases prot <;> kernel_rfl
theorem cpass_none {c : Cor} (hj : c.job = none) (n : Int) : c.pass n = c := by
  unfold Cor.pass
  rw [hj]
theorem cpass_susp {c : Cor} {j : Job} (hj : c.job = some j) (hs : j.susp = true) (n : Int) : c.pass n = c := by
  unfold Cor.pass
  rw [hj]
  dsimp only
  rw [if_pos hs]
theorem cpass_zero {c : Cor} (h : ∀ j, c.job = some j → 1 ≤ j.left) : c.pass 0 = c := by
  unfold Cor.pass
  cases hj : c.job with
  | none => rfl
  | some j =>
    dsimp only
    split
    · rfl
    · rw [if_neg (by have := h j hj; omega), Int.sub_zero]
      obtain ⟨a, prot, quad, en, goes, job, busy, wipes⟩ := c
      subst hj
      rfl
def Cor.Ok (c : Cor) : Prop := c.goes = false ∧ ∀ j, c.job = some j → 1 ≤ j.left
theorem cpass_goes (c : Cor) (n : Int) : (c.pass n).goes = c.goes := by
  unfold Cor.pass
  repeat' split
  all_goals rfl
theorem cpass_quad (c : Cor) (n : Int) : (c.pass n).quad = c.quad := by
  unfold Cor.pass
  repeat' split
  all_goals rfl
theorem Cor.Ok.pass {c : Cor} (h : c.Ok) (n : Int) : (c.pass n).Ok := by
  refine ⟨by rw [cpass_goes]; exact h.1, fun j hj => ?_⟩
  unfold Cor.pass at hj
  split at hj
  · exact h.2 j hj
  · rename_i k hk
    split at hj
    · exact h.2 j hj
    · split at hj
      · cases hj
      · simp only [Option.some.injEq] at hj
        subst hj
        dsimp only
        omega
theorem cpass_pass (c : Cor) (m n : Int) (_ : 0 ≤ m) (hn : 0 ≤ n) : (c.pass m).pass n = c.pass (m + n) := by
  cases hj : c.job with
  | none => rw [cpass_none hj, cpass_none hj, cpass_none hj]
  | some j =>
    cases hs : j.susp with
    | true => rw [cpass_susp hj hs, cpass_susp hj hs, cpass_susp hj hs]
    | false =>
      rw [cor_pass hj hs m]
      by_cases h1 : j.left ≤ m
      · rw [if_pos h1, cpass_none rfl, cor_pass hj hs, if_pos (by omega)]
      · rw [if_neg h1, cor_pass (j := { j with left := j.left - m }) rfl hs, cor_pass hj hs]
        by_cases h2 : j.left ≤ m + n
        · rw [if_pos h2, if_pos (by dsimp only; omega)]
          rfl
        · rw [if_neg h2, if_neg (by dsimp only; omega)]
          dsimp only
          rw [show j.left - m - n = j.left - (m + n) by omega]
theorem ask_all {c : Cor} {t : St} (h : At c t) (hc : c.Ok) :
    ∃ d : Drv, Drv.phases ⟨t.select, [], 0, -1⟩ (cmdPhs (opOf 5) 0 [] 1) = (d, true) ∧ d.clocks = 16 ∧ d.out = [(c.pass 9).first] ∧ At (c.pass 16) d.s.deselect := by
  cases hj : c.job with
  | none =>
    rw [cpass_none hj, cpass_none hj]
    exact ask_rest h hc.1 hj
  | some j =>
    cases hs : j.susp with
    | true =>
      rw [cpass_susp hj hs, cpass_susp hj hs]
      exact ask_susp h hc.1 j hj hs
    | false =>
      have h1 := hc.2 j hj
      by_cases h16 : j.left ≤ 16
      · exact ask_near h hc.1 j hj hs h1 h16
      · exact ask_far h hc.1 j hj hs (by omega)
theorem first_busy (w e p : Bool) : bits .and .i64 (Go.Proofs.YtkjdhkpkcepilaaGreat.first w e p) 1 = if w then 1 else 0 := by cases w <;> cases e <;> cases p <;> decide
set_option maxRecDepth 100000 in
set_option maxHeartbeats 2000000 in
theorem rdy_ask {Q : Own} {c : Cor} {b k fo fi : Nat} {n q : Int} {w0 w : World} {rows : List (Value × List Value)} (h : Rdy Q c b k fo fi n q w0 w rows) (hc : c.Ok) (hn : n + 17 ≤ 1048575) (x : Bool) (hx : (c.pass 9).works = x) :
    Calls Tryz.prog 119 #[.pointer (some ⟨k, 0, none⟩)] w fun e w' => e = .returned (.tuple #[.bool x, .int .i64 0]) ∧ Rdy Q (c.pass 16) b k fo fi (n + 17) (q + 16) w0 w' rows := by
  have hr := rdy_run h.nil 5 (by decide) (by decide) 0 none 0 [] List.mem_cons_self 1 (by kernel_rfl) (c.pass 16) [(c.pass 9).first] 16 (by kernel_rfl) (by omega) (fun t ht => ask_all ht hc)
  have hf : bits .and .i64 (c.pass 9).first 1 = if x then 1 else 0 := by
    unfold Cor.first
    rw [first_busy, hx]
  generalize (c.pass 9).first = y at *
  rw [show n + 17 = n + 16 + 1 by omega]
  have HR := Lib.hid hr
  clear hr h hx hc hn
  go_enter Tryz.func119, Tryz.ntmps119
  go_upto_region 2 with (go_at_call 36; refine HR.out.mono ?_; rintro e w2 ⟨oa, oc, rfl, hR2⟩)
  obtain ⟨gx, ox, e1, hgx, hcc⟩ := (hR2.rs List.mem_cons_self).cells (Nat.lt_succ_self 0)
  subst e1
  have hcell := hcc 0 (Nat.lt_succ_self 0)
  rw [ints_at _ _ (Nat.lt_succ_self 0)] at hcell
  simp only [List.getD_cons_zero, Nat.add_zero] at hcell
  have HR2 := Lib.hid hR2
  clear hR2 hcc hgx HR
  cases x
  all_goals
    simp only [if_true, if_false, Bool.false_eq_true] at hf
    go_wp2
    go_ret2
    exact ⟨rfl, HR2.out.rowsub fun r hr => List.mem_cons_of_mem _ (List.mem_cons_of_mem _ hr)⟩
set_option maxRecDepth 100000 in
set_option maxHeartbeats 2000000 in
/-- It waits as often as it must. -/
theorem rdy_wait {Q : Own} {c : Cor} {b k fo fi : Nat} {n q : Int} {w0 w : World} {rows : List (Value × List Value)} (h : Rdy Q c b k fo fi n q w0 w rows) (hc : c.Ok) (i : Nat) (hb : ∀ r, r < i → ((c.pass (16 * (r : Int))).pass 9).works = true) (he : ((c.pass (16 * (i : Int))).pass 9).works = false) (most : Int) (hm : (i : Int) < most) (hmm : most ≤ 1024) (hn : n + 17 * ((i : Int) + 1) ≤ 1048575) :
    Calls Tryz.prog 95 #[.pointer (some ⟨k, 0, none⟩), .int .i64 most] w fun e w' => e = .returned (.tuple #[.int .i64 ((i : Int) + 1), .int .i64 0]) ∧ Rdy Q (c.pass (16 * ((i : Int) + 1))) b k fo fi (n + 17 * ((i : Int) + 1)) (q + 16 * ((i : Int) + 1)) w0 w' rows := by
  have HB := Lib.hid (And.intro hb he)
  have HC := Lib.hid hc
  have hst : Rdy Q (c.pass (16 * ((0 : Nat) : Int))) b k fo fi (n + 17 * ((0 : Nat) : Int)) (q + 16 * ((0 : Nat) : Int)) w0 w rows := by
    rw [show 16 * ((0 : Nat) : Int) = 0 from rfl, show 17 * ((0 : Nat) : Int) = 0 from rfl, Int.add_zero, Int.add_zero, cpass_zero hc.2]
    exact h
  have HST := Lib.hid hst
  clear hb he h hst hc
  go_enter Tryz.func95, Tryz.ntmps95
  go_wp2
  go_loopw [6] (fun iv wr => ∃ r : Nat, r ≤ i ∧ iv = .int .i64 ((r : Int) + 1) ∧ Hid (Rdy Q (c.pass (16 * (r : Int))) b k fo fi (n + 17 * (r : Int)) (q + 16 * (r : Int)) w0 wr rows)) (fun iv _ => i + 1 - (intOf iv).toNat)
  case atStart => exact ⟨0, by omega, rfl, HST⟩
  case round =>
    obtain ⟨r, hr, rfl, hR⟩ := hrel
    by_cases hlt : r < i
    · have hask := rdy_ask hR.out (HC.out.pass _) (by omega) true (HB.out.1 r hlt)
      rw [cpass_pass _ _ _ (by omega) (by decide), show 16 * (r : Int) + 16 = 16 * ((r + 1 : Nat) : Int) by omega, show n + 17 * (r : Int) + 17 = n + 17 * ((r + 1 : Nat) : Int) by omega, show q + 16 * (r : Int) + 16 = q + 16 * ((r + 1 : Nat) : Int) by omega] at hask
      have HA := Lib.hid hask
      clear hask hR
      go_wp2_with (go_at_call 119; refine HA.out.mono ?_; rintro e w2 ⟨rfl, hR2⟩)
      refine ⟨?rel, ?measure⟩
      case rel => exact ⟨r + 1, by omega, by go_num, Lib.hid hR2⟩
      case measure => simp [intOf]; omega
    · obtain rfl : r = i := by omega
      have hask := rdy_ask hR.out (HC.out.pass _) (by omega) false HB.out.2
      rw [cpass_pass _ _ _ (by omega) (by decide), show 16 * (r : Int) + 16 = 16 * ((r : Int) + 1) by omega, show n + 17 * (r : Int) + 17 = n + 17 * ((r : Int) + 1) by omega, show q + 16 * (r : Int) + 16 = q + 16 * ((r : Int) + 1) by omega] at hask
      have HA := Lib.hid hask
      clear hask hR
      go_wp2_with (go_at_call 119; refine HA.out.mono ?_; rintro e w2 ⟨rfl, hR2⟩)
      go_ret2
      exact ⟨rfl, hR2⟩
set_option maxRecDepth 100000 in
set_option maxHeartbeats 2000000 in
/-- It waits too often. -/
theorem rdy_wait_no {Q : Own} {c : Cor} {b k fo fi : Nat} {n q : Int} {w0 w : World} {rows : List (Value × List Value)} (h : Rdy Q c b k fo fi n q w0 w rows) (hc : c.Ok) (i : Nat) (hb : ∀ r, r < i → ((c.pass (16 * (r : Int))).pass 9).works = true) (hmm : i ≤ 1024) (hn : n + 17 * (i : Int) ≤ 1048575) :
    Calls Tryz.prog 95 #[.pointer (some ⟨k, 0, none⟩), .int .i64 (i : Int)] w fun e w' => e = .returned (.tuple #[.int .i64 0, .int .i64 1400]) ∧ Rdy Q (c.pass (16 * (i : Int))) b k fo fi (n + 17 * (i : Int)) (q + 16 * (i : Int)) w0 w' rows := by
  have HB := Lib.hid hb
  have HC := Lib.hid hc
  have hst : Rdy Q (c.pass (16 * ((0 : Nat) : Int))) b k fo fi (n + 17 * ((0 : Nat) : Int)) (q + 16 * ((0 : Nat) : Int)) w0 w rows := by
    rw [show 16 * ((0 : Nat) : Int) = 0 from rfl, show 17 * ((0 : Nat) : Int) = 0 from rfl, Int.add_zero, Int.add_zero, cpass_zero hc.2]
    exact h
  have HST := Lib.hid hst
  clear hb h hst hc
  go_enter Tryz.func95, Tryz.ntmps95
  go_wp2
  go_loopw [6] (fun iv wr => ∃ r : Nat, r ≤ i ∧ iv = .int .i64 ((r : Int) + 1) ∧ Hid (Rdy Q (c.pass (16 * (r : Int))) b k fo fi (n + 17 * (r : Int)) (q + 16 * (r : Int)) w0 wr rows)) (fun iv _ => i + 1 - (intOf iv).toNat)
  case atStart => exact ⟨0, by omega, rfl, HST⟩
  case round =>
    obtain ⟨r, hr, rfl, hR⟩ := hrel
    by_cases hlt : r < i
    · have hask := rdy_ask hR.out (HC.out.pass _) (by omega) true (HB.out r hlt)
      rw [cpass_pass _ _ _ (by omega) (by decide), show 16 * (r : Int) + 16 = 16 * ((r + 1 : Nat) : Int) by omega, show n + 17 * (r : Int) + 17 = n + 17 * ((r + 1 : Nat) : Int) by omega, show q + 16 * (r : Int) + 16 = q + 16 * ((r + 1 : Nat) : Int) by omega] at hask
      have HA := Lib.hid hask
      clear hask hR
      go_wp2_with (go_at_call 119; refine HA.out.mono ?_; rintro e w2 ⟨rfl, hR2⟩)
      refine ⟨?rel, ?measure⟩
      case rel => exact ⟨r + 1, by omega, by go_num, Lib.hid hR2⟩
      case measure => simp [intOf]; omega
    · obtain rfl : r = i := by omega
      go_wp2
      go_ret2
      exact ⟨rfl, hR.out⟩
theorem wait_nil (most : Int) (w : World) : Calls Tryz.prog 95 #[.pointer none, .int .i64 most] w fun e w' => e = .returned (.tuple #[.int .i64 0, .int .i64 1]) ∧ w = w' := by
  go_enter Tryz.func95, Tryz.ntmps95
  go_wp2
  go_ret2
  exact ⟨rfl, rfl⟩
end Go.Proofs.YtkjdhkpkcepilaaGreat
namespace Go.Proofs.YtkjdhkpkcepilaaGreat
open Go.RowKit
def Cor.starts (c : Cor) (addr : Int) (j : Job) : Cor :=
  if !c.en then c
  else if c.prot ∧ addr < 2048 then { c with en := false }
  else { c with busy := c.busy.tail, wipes := fun k => if (k : Int) = j.sector then c.wipes k + 1 else c.wipes k, job := some { j with left := match c.busy with
    | [] => 8
    | d :: _ => d } }
theorem starts_at {s : St} {c : Cor} (h : At c s) (j : Job) : At (c.starts s.addr j) (s.starts j) := by
  obtain ⟨hcor, hsel⟩ := h
  subst hcor
  unfold Cor.starts St.starts
  show At (if !s.en then _ else if s.prot ∧ s.addr < 2048 then _ else _) _
  split
  · exact ⟨rfl, hsel⟩
  · split
    · exact ⟨rfl, hsel⟩
    · exact ⟨rfl, hsel⟩
theorem not_works {s : St} (hg : s.goes = false) (hj : s.job = none) : s.select.works = false ∧ s.select.sel = true := by
  rw [select_eq, hg]
  refine ⟨?_, rfl⟩
  show s.works = false
  unfold St.works
  rw [hj]
theorem erase_phs (k : Int) : cmdPhs (opOf 32) k [] 0 = [⟨1, [32], 0, 0⟩, ⟨1, [k / 65536, k / 256 % 256, k % 256], 0, 0⟩] := by
  have e : opOf 32 = ⟨32, 1, false, 0, 0, false⟩ := by kernel_rfl
  rw [e]
  rfl
theorem erase_all {c : Cor} {t : St} (h : At c t) (hg : c.goes = false) (hj : c.job = none) (k : Int) (hk : 0 ≤ k ∧ k < 4096) :
    ∃ d : Drv, Drv.phases ⟨t.select, [], 0, -1⟩ (cmdPhs (opOf 32) k [] 0) = (d, true) ∧ d.clocks = 32 ∧ d.out = [] ∧ At (c.starts k ⟨k / 512, 0, ⟨#[]⟩, 0, false⟩) d.s.deselect := by
  have htg := h.goes.trans hg
  have htj := h.job.trans hj
  obtain ⟨hw, hs⟩ := not_works htg htj
  have hf := phases_free (cmdPhs (opOf 32) k [] 0) ⟨t.select, [], 0, -1⟩ (show (-1 : Int) < 0 by decide)
  dsimp only at hf
  have hins : phsIns (cmdPhs (opOf 32) k [] 0) = wordL [32, 0, k / 256, k % 256] := by
    rw [erase_phs]
    unfold phsIns
    rw [List.flatMap_cons, List.flatMap_cons, List.flatMap_nil, ins_bytes1, ins_bytes1, List.append_nil, show k / 65536 = 0 by omega, show k / 256 % 256 = k / 256 by omega, ← wordL_app]
    rfl
  rw [hins, runC_still _ _ hw hs] at hf
  refine ⟨_, hf, ?_, ?_, ?_⟩
  · rfl
  · rw [erase_phs]
    rfl
  · dsimp only
    rw [er_head t htg htj k, addrOf_eq k hk, er_off]
    refine starts_at (s := { (t.er k) with sel := false }) ⟨?_, rfl⟩ _
    exact h.cor
theorem prog_phs (k : Int) (bs : List Int) (hb : bs ≠ []) : cmdPhs (opOf 2) k bs 0 = [⟨1, [2], 0, 0⟩, ⟨1, [k / 65536, k / 256 % 256, k % 256], 0, 0⟩, ⟨1, bs, 0, 0⟩] := by
  have e : opOf 2 = ⟨2, 1, false, 0, 1, true⟩ := by kernel_rfl
  rw [e]
  unfold cmdPhs
  dsimp only
  rw [if_pos (by decide), if_neg (by decide), if_neg (by decide), if_pos ⟨rfl, hb⟩, if_neg (by decide)]
  rfl
theorem prog_many (k : Int) (bs : List Int) (hb : bs ≠ []) : phsMany (cmdPhs (opOf 2) k bs 0) = 32 + 8 * (bs.length : Int) := by
  rw [prog_phs k bs hb, phsMany_cons, phsMany_cons, phsMany_cons, many1, many1, many1]
  show ((1 : Int) + 0) * 8 + (((3 : Int) + 0) * 8 + (((bs.length : Int) + 0) * 8 + 0)) = _
  omega
theorem prog_all {c : Cor} {t : St} (h : At c t) (hg : c.goes = false) (hj : c.job = none) (k : Int) (hk : 0 ≤ k ∧ k < 4096) (bs : List Int) (hne : bs ≠ []) (hb : ∀ x ∈ bs, 0 ≤ x ∧ x ≤ 255) :
    ∃ d : Drv, Drv.phases ⟨t.select, [], 0, -1⟩ (cmdPhs (opOf 2) k bs 0) = (d, true) ∧ d.clocks = 32 + 8 * (bs.length : Int) ∧ d.out = [] ∧ At (c.starts k ⟨-1, k - k % 32, ⟨(pageOf k bs).toArray⟩, 0, false⟩) d.s.deselect := by
  have htg := h.goes.trans hg
  have htj := h.job.trans hj
  obtain ⟨hw, hs⟩ := not_works htg htj
  have hf := phases_free (cmdPhs (opOf 2) k bs 0) ⟨t.select, [], 0, -1⟩ (show (-1 : Int) < 0 by decide)
  dsimp only at hf
  have hins : phsIns (cmdPhs (opOf 2) k bs 0) = wordL [2, 0, k / 256, k % 256] ++ wordL bs := by
    rw [prog_phs k bs hne]
    unfold phsIns
    rw [List.flatMap_cons, List.flatMap_cons, List.flatMap_cons, List.flatMap_nil, ins_bytes1, ins_bytes1, ins_bytes1, List.append_nil, show k / 65536 = 0 by omega, show k / 256 % 256 = k / 256 by omega, ← List.append_assoc, ← wordL_app]
    rfl
  rw [hins, runC_still _ _ hw hs, runI_app, inn_head t htg htj k] at hf
  dsimp only at hf
  refine ⟨_, hf, ?_, ?_, ?_⟩
  · dsimp only
    rw [List.length_append, wordL_len, wordL_len]
    show (0 : Int) + ((8 * 4 + 8 * bs.length : Nat) : Int) = _
    omega
  · dsimp only
    rw [prog_phs k bs hne]
    rfl
  · dsimp only
    rw [inn_word _ _ _ _ hb, List.nil_append, addrOf_eq k hk]
    cases bs with
    | nil => exact absurd rfl hne
    | cons x xs =>
      rw [inn_off]
      refine starts_at (s := { (t.inn k (x :: xs)) with sel := false }) ⟨?_, rfl⟩ _
      exact h.cor
theorem rdy_erase {Q : Own} {c : Cor} {b k fo fi : Nat} {n q : Int} {w0 w : World} {rows : List (Value × List Value)} (h : Rdy Q c b k fo fi n q w0 w rows) (hg : c.goes = false) (hj : c.job = none) (at_ : Int) (hk : 0 ≤ at_ ∧ at_ < 4096) (hn : n + 33 ≤ 1048575) :
    Calls Tryz.prog 36 #[.pointer (some ⟨k, 0, none⟩), .int .i64 32, .int .i64 at_, .slice none 0 0, .int .i64 0] w fun e w' => ∃ oa oc, e = .returned (.tuple #[.slice oa 0 oc, .int .i64 0]) ∧ Rdy Q (c.starts at_ ⟨at_ / 512, 0, ⟨#[]⟩, 0, false⟩) b k fo fi (n + 33) (q + 32) w0 w' rows := by
  have hmay : cmdMay (opOf 32) at_ [] 0 = true := by
    have e : opOf 32 = ⟨32, 1, false, 0, 0, false⟩ := by kernel_rfl
    rw [e]
    unfold cmdMay fitsB
    simp
    omega
  refine (rdy_run h.nil 32 (by decide) (by decide) at_ none 0 [] List.mem_cons_self 0 hmay _ [] 32 (by rw [erase_phs]; rfl) (by omega) (fun t ht => erase_all ht hg hj at_ hk)).mono ?_
  rintro e w' ⟨oa, oc, rfl, h2⟩
  refine ⟨oa, oc, rfl, ?_⟩
  rw [show n + 33 = n + 32 + 1 by omega]
  exact h2.rowsub fun r hr => List.mem_cons_of_mem _ (List.mem_cons_of_mem _ hr)
theorem rdy_prog {Q : Own} {c : Cor} {b k fo fi : Nat} {n q : Int} {w0 w : World} {rows : List (Value × List Value)} (h : Rdy Q c b k fo fi n q w0 w rows) (hg : c.goes = false) (hj : c.job = none) (at_ : Int) (hk : 0 ≤ at_ ∧ at_ < 4096) (a : Option Addr) (cp : Nat) (bs : List Int) (hdd : (.slice a bs.length cp, ints bs) ∈ rows) (hne : bs ≠ []) (hb : ∀ x ∈ bs, 0 ≤ x ∧ x ≤ 255) (hl : bs.length ≤ 512) (hn : n + (33 + 8 * (bs.length : Int)) ≤ 1048575) :
    Calls Tryz.prog 36 #[.pointer (some ⟨k, 0, none⟩), .int .i64 2, .int .i64 at_, .slice a bs.length cp, .int .i64 0] w fun e w' => ∃ oa oc, e = .returned (.tuple #[.slice oa 0 oc, .int .i64 0]) ∧ Rdy Q (c.starts at_ ⟨-1, at_ - at_ % 32, ⟨(pageOf at_ bs).toArray⟩, 0, false⟩) b k fo fi (n + (33 + 8 * (bs.length : Int))) (q + (32 + 8 * (bs.length : Int))) w0 w' rows := by
  have hby : bs.all byteB = true := by
    rw [List.all_eq_true]
    intro x hx
    have := hb x hx
    simp [byteB]
    omega
  have hmay : cmdMay (opOf 2) at_ bs 0 = true := by
    have e : opOf 2 = ⟨2, 1, false, 0, 1, true⟩ := by kernel_rfl
    rw [e]
    unfold cmdMay fitsB
    rw [hby]
    simp
    omega
  refine (rdy_run h 2 (by decide) (by decide) at_ a cp bs hdd 0 hmay _ [] (32 + 8 * (bs.length : Int)) (prog_many at_ bs hne) (by omega) (fun t ht => prog_all ht hg hj at_ hk bs hne hb)).mono ?_
  rintro e w' ⟨oa, oc, rfl, h2⟩
  refine ⟨oa, oc, rfl, ?_⟩
  rw [show n + (33 + 8 * (bs.length : Int)) = n + (32 + 8 * (bs.length : Int)) + 1 by omega]
  exact h2.rowsub fun r hr => List.mem_cons_of_mem _ hr
theorem works_pass {c : Cor} {j : Job} (hj : c.job = some j) (hs : j.susp = false) (n : Int) : (c.pass n).works = decide (n < j.left) := by
  rw [cor_pass hj hs]
  by_cases h : j.left ≤ n
  · rw [if_pos h]
    exact (decide_eq_false (by omega)).symm
  · rw [if_neg h, decide_eq_true (show n < j.left by omega)]
    show (!j.susp) = true
    rw [hs]
    rfl
theorem busy_asks {c : Cor} {j : Job} (_ : c.Ok) (hj : c.job = some j) (hs : j.susp = false) (r : Nat) : ((c.pass (16 * (r : Int))).pass 9).works = decide (16 * (r : Int) + 9 < j.left) := by
  rw [cpass_pass _ _ _ (by omega) (by decide), works_pass hj hs]
end Go.Proofs.YtkjdhkpkcepilaaGreat
