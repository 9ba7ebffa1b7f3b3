/- probe.Probe, Quad, Protect, of a controller at rest. -/
import Derived.Test.YtkjdhkpkcepilaaGreatProbeP
namespace Go.Proofs.YtkjdhkpkcepilaaGreat
open Go.RowKit
/-- The chip's number, so many bytes of it. -/
theorem rdy_id {Q : Own} {c : Cor} {b k fo fi : Nat} {n q : Int} {w0 w : World} {rows : List (Value × List Value)} (h : Rdy Q c b k fo fi n q w0 w rows) (hg : c.goes = false) (hj : c.job = none) (m : Nat) (hm : m ≤ 512) (hn : n + (9 + 8 * (m : Int)) ≤ 1048575) :
    Calls Tryz.prog 36 #[.pointer (some ⟨k, 0, none⟩), .int .i64 159, .int .i64 0, .slice none 0 0, .int .i64 (m : Int)] w fun e w' => ∃ oa oc, e = .returned (.tuple #[.slice oa m oc, .int .i64 0]) ∧ Rdy Q c b k fo fi (n + (9 + 8 * (m : Int))) (q + (8 + 8 * (m : Int))) w0 w' ((.slice oa m oc, ints (idL m)) :: rows) := by
  have e1 : opOf 159 = ⟨159, 0, false, 0, 1, false⟩ := by kernel_rfl
  have hmany : phsMany (cmdPhs (opOf 159) 0 [] (m : Int)) = 8 + 8 * (m : Int) := by
    have e : cmdPhs (opOf 159) 0 [] m = [⟨1, [159], 0, 0⟩] ++ if 0 < (m : Int) then [⟨1, [], 0, (m : Int)⟩] else [] := by rw [e1]; rfl
    rw [e]
    by_cases h0 : 0 < (m : Int)
    · rw [if_pos h0]
      show 0 + ((0 : Int) + ((1 : Int) + 0) * 8) + ((0 : Int) + ((0 : Int) + m) * 8) = _
      omega
    · rw [if_neg h0, show m = 0 by omega]
      rfl
  have hmay : cmdMay (opOf 159) 0 [] (m : Int) = true := by
    rw [e1]
    unfold cmdMay fitsB
    simp
    omega
  have hr := rdy_run h.nil 159 (by decide) (by decide) 0 none 0 [] List.mem_cons_self (m : Int) hmay c (idL m) (8 + 8 * (m : Int)) hmany (by omega) (fun t ht => id_all ht hg hj m)
  rw [show (idL m).length = m from by unfold idL; rw [List.length_map, List.length_range]] at hr
  refine hr.mono ?_
  rintro e w' ⟨oa, oc, rfl, h2⟩
  refine ⟨oa, oc, rfl, ?_⟩
  rw [show n + (9 + 8 * (m : Int)) = n + (8 + 8 * (m : Int)) + 1 by omega]
  refine h2.rowsub fun r hr => ?_
  rcases List.mem_cons.1 hr with h | h
  · exact List.mem_cons.2 (.inl h)
  · exact List.mem_cons.2 (.inr (List.mem_cons_of_mem _ h))
/-- What the chip is like. -/
theorem rdy_sfdp {Q : Own} {c : Cor} {b k fo fi : Nat} {n q : Int} {w0 w : World} {rows : List (Value × List Value)} (h : Rdy Q c b k fo fi n q w0 w rows) (hg : c.goes = false) (hj : c.job = none) (hn : n + 297 ≤ 1048575) :
    Calls Tryz.prog 36 #[.pointer (some ⟨k, 0, none⟩), .int .i64 90, .int .i64 0, .slice none 0 0, .int .i64 32] w fun e w' => ∃ oa oc, e = .returned (.tuple #[.slice oa 32 oc, .int .i64 0]) ∧ Rdy Q c b k fo fi (n + 297) (q + 296) w0 w' ((.slice oa 32 oc, ints (intsOf sfdpTab.data.toList)) :: rows) := by
  have hr := rdy_run h.nil 90 (by decide) (by decide) 0 none 0 [] List.mem_cons_self 32 (by kernel_rfl) c (intsOf sfdpTab.data.toList) 296 (by kernel_rfl) (by omega) (fun t ht => by
    obtain ⟨d, h1, h2, h3, h4⟩ := sfdp_all ht hg hj 0 (by decide) 32
    exact ⟨d, h1, h2, by rw [h3, sfdpB_all]; rfl, h4⟩)
  refine hr.mono ?_
  rintro e w' ⟨oa, oc, rfl, h2⟩
  refine ⟨oa, oc, rfl, ?_⟩
  rw [show n + 297 = n + 296 + 1 by omega]
  refine h2.rowsub fun r hr => ?_
  rcases List.mem_cons.1 hr with h | h
  · exact List.mem_cons.2 (.inl h)
  · exact List.mem_cons.2 (.inr (List.mem_cons_of_mem _ h))
theorem probe_nil (w : World) : Calls Tryz.prog 37 #[.pointer none] w fun e w' => e = .returned (.tuple #[.int .i64 0, .int .i64 0, .int .i64 0, .int .i64 1]) ∧ w = w' := by
  go_enter Tryz.func37, Tryz.ntmps37
  go_wp2
  refine bodyPost_ret (results_tmp4 rfl _ _ _) rfl ?_
  exact ⟨rfl, rfl⟩
set_option maxRecDepth 100000 in
set_option maxHeartbeats 4000000 in
/-- It is the chip that one knows. -/
theorem rdy_probe {Q : Own} {c : Cor} {b k fo fi : Nat} {n q : Int} {w0 w : World} {rows : List (Value × List Value)} (h : Rdy Q c b k fo fi n q w0 w rows) (hg : c.goes = false) (hj : c.job = none) (hn : n + 330 ≤ 1048575) :
    Calls Tryz.prog 37 #[.pointer (some ⟨k, 0, none⟩)] w fun e w' => e = .returned (.tuple #[.int .i64 4096, .int .i64 512, .int .i64 32, .int .i64 0]) ∧ Rdy Q c b k fo fi (n + 330) (q + 328) w0 w' rows := by
  have hid := fun (w1 : World) (u : Upd none' w w1) => rdy_id (h.fr u) hg hj 3 (by decide) (by omega)
  have HI := Lib.hid hid
  have HG := Lib.hid (And.intro hg hj)
  clear hid h hg hj
  go_enter Tryz.func37, Tryz.ntmps37
  go_upto_region 4 with (first | (go_at_call 36; refine (HI.out _ hU1).mono ?_; rintro e w2 ⟨oa, oc, rfl, hR2⟩) | (go_at_call 68; refine (probe_id _).mono ?_; rintro e w1 ⟨rfl, hrs1, hU1⟩))
  have HR2 := Lib.hid hR2
  clear hR2 hrs1 hU1 HI
  go_upto_region 6 with fail
  go_upto_region 8 with (first | (go_at_call 69; refine (slices_equal _ _ _ [239, 64, 12] (by decide) ((HR2.out.fr hU3).rs List.mem_cons_self) hrs3).mono ?_; rintro e w4 ⟨rfl, hU4⟩) | (go_at_call 68; refine (probe_id _).mono ?_; rintro e w3 ⟨rfl, hrs3, hU3⟩))
  have HS := Lib.hid (rdy_sfdp ((HR2.out.fr hU3).fr hU4) HG.out.1 HG.out.2 (by omega))
  clear hrs3 hU3 hU4 HR2
  go_upto_region 11 with (go_at_call 36; refine HS.out.mono ?_; rintro e w5 ⟨oa5, oc5, rfl, hR5⟩)
  have HT := Lib.hid (probe_text w5 oa5 32 oc5 sfdpTab.data.toList rfl (by decide) (by decide) (hR5.rs List.mem_cons_self))
  have HGET : Hid (∀ w, Calls Tryz.prog 70 #[.string ⟨sfdpTab.data.toList.toArray⟩] w fun e w' => e = .returned (.tuple #[.int .i64 4096, .int .i64 512, .int .i64 32, .int .i64 0]) ∧ Upd none' w w') := Lib.hid sfdp_get
  have HR5 := Lib.hid hR5
  clear hR5 HS
  go_wp2_with (first | (go_at_call 70; refine (HGET.out _).mono ?_; rintro e w7 ⟨rfl, hU7⟩) | (go_at_call 71; refine HT.out.mono ?_; rintro e w6 ⟨rfl, hU6⟩))
  refine bodyPost_ret (results_tmp4 rfl _ _ _) rfl ?_
  refine ⟨rfl, ?_⟩
  have hfin := (HR5.out.fr hU6).fr hU7
  rw [show q + 328 = q + (8 + 8 * ((3 : Nat) : Int)) + 296 by omega, show n + 330 = n + (9 + 8 * ((3 : Nat) : Int)) + 297 by omega]
  exact hfin.rowsub fun r hr => List.mem_cons_of_mem _ (List.mem_cons_of_mem _ hr)
/-- A status is asked for. -/
theorem rdy_stat {Q : Own} {c : Cor} {b k fo fi : Nat} {n q : Int} {w0 w : World} {rows : List (Value × List Value)} (h : Rdy Q c b k fo fi n q w0 w rows) (hg : c.goes = false) (hj : c.job = none) (o x : Int) (hx : o = 5 ∧ x = first false c.en c.prot ∨ o = 53 ∧ x = second c.quad false) (hn : n + 17 ≤ 1048575) :
    Calls Tryz.prog 106 #[.pointer (some ⟨k, 0, none⟩), .int .i64 o] w fun e w' => e = .returned (.tuple #[.int .i64 x, .int .i64 0]) ∧ Rdy Q c b k fo fi (n + 17) (q + 16) w0 w' rows := by
  have hr : Calls Tryz.prog 36 #[.pointer (some ⟨k, 0, none⟩), .int .i64 o, .int .i64 0, .slice none 0 0, .int .i64 1] w fun e w' => ∃ oa oc, e = .returned (.tuple #[.slice oa 1 oc, .int .i64 0]) ∧ Rdy Q c b k fo fi (n + 17) (q + 16) w0 w' ((.slice oa 1 oc, ints [x]) :: rows) := by
    have hsub : ∀ {w' : World} {oa : Option Addr} {oc : Nat}, Rdy Q c b k fo fi (n + 16 + 1) (q + 16) w0 w' ((.slice oa 1 oc, ints [x]) :: (.slice none 0 0, ints []) :: rows) → Rdy Q c b k fo fi (n + 17) (q + 16) w0 w' ((.slice oa 1 oc, ints [x]) :: rows) := by
      intro w' oa oc h2
      rw [show n + 17 = n + 16 + 1 by omega]
      refine h2.rowsub fun r hr => ?_
      rcases List.mem_cons.1 hr with h | h
      · exact List.mem_cons.2 (.inl h)
      · exact List.mem_cons.2 (.inr (List.mem_cons_of_mem _ h))
    rcases hx with ⟨rfl, rfl⟩ | ⟨rfl, rfl⟩
    · have hr := rdy_run h.nil 5 (by decide) (by decide) 0 none 0 [] List.mem_cons_self 1 (by kernel_rfl) c [first false c.en c.prot] 16 (by kernel_rfl) (by omega) (fun t ht => by
        obtain ⟨d, h1, h2, h3, h4⟩ := ask_rest ht hg hj
        refine ⟨d, h1, h2, ?_, h4⟩
        rw [h3]
        unfold Cor.first Cor.works
        rw [hj])
      refine hr.mono ?_
      rintro e w' ⟨oa, oc, rfl, h2⟩
      exact ⟨oa, oc, rfl, hsub h2⟩
    · have hr := rdy_run h.nil 53 (by decide) (by decide) 0 none 0 [] List.mem_cons_self 1 (by kernel_rfl) c [second c.quad false] 16 (by kernel_rfl) (by omega) (fun t ht => st2_all ht hg hj)
      refine hr.mono ?_
      rintro e w' ⟨oa, oc, rfl, h2⟩
      exact ⟨oa, oc, rfl, hsub h2⟩
  have HR := Lib.hid hr
  clear hr h hg hj hx
  go_enter Tryz.func106, Tryz.ntmps106
  go_upto_region 2 with (go_at_call 36; refine HR.out.mono ?_; rintro e w2 ⟨oa, oc, rfl, hR2⟩)
  obtain ⟨gx, ox, e1, hgx, hcc⟩ := (hR2.rs List.mem_cons_self).cells (Nat.lt_succ_self 0)
  subst e1
  have hcell := hcc 0 (Nat.lt_succ_self 0)
  rw [ints_at _ _ (Nat.lt_succ_self 0)] at hcell
  simp only [List.getD_cons_zero, Nat.add_zero] at hcell
  have HR2 := Lib.hid hR2
  clear hR2 hcc hgx HR
  go_wp2
  go_ret2
  exact ⟨rfl, HR2.out.rowsub fun r hr => List.mem_cons_of_mem _ hr⟩
/-- Both statuses are put. -/
theorem rdy_puts {Q : Own} {c : Cor} {b k fo fi : Nat} {n q : Int} {w0 w : World} {rows : List (Value × List Value)} (h : Rdy Q c b k fo fi n q w0 w rows) (hg : c.goes = false) (hj : c.job = none) (he : c.en = true) (p r : Bool) (x y : Int) (hx : x = if p then 4 else 0) (hy : y = if r then 2 else 0) (a : Option Addr) (cp : Nat) (hdd : (.slice a 2 cp, ints [x, y]) ∈ rows) (hn : n + 25 ≤ 1048575) :
    Calls Tryz.prog 36 #[.pointer (some ⟨k, 0, none⟩), .int .i64 1, .int .i64 0, .slice a 2 cp, .int .i64 0] w fun e w' => ∃ oa oc, e = .returned (.tuple #[.slice oa 0 oc, .int .i64 0]) ∧ Rdy Q { c with prot := p, quad := r, en := false } b k fo fi (n + 25) (q + 24) w0 w' rows := by
  subst hx hy
  have hmay : cmdMay (opOf 1) 0 [if p then 4 else 0, if r then 2 else 0] 0 = true := by cases p <;> cases r <;> kernel_rfl
  have hmany : phsMany (cmdPhs (opOf 1) 0 [if p then 4 else 0, if r then 2 else 0] 0) = 24 := by cases p <;> cases r <;> kernel_rfl
  refine (rdy_run h 1 (by decide) (by decide) 0 a cp [if p then 4 else 0, if r then 2 else 0] hdd 0 hmay { c with prot := p, quad := r, en := false } [] 24 hmany (by omega) (fun t ht => puts_all ht hg hj he p r)).mono ?_
  rintro e w' ⟨oa, oc, rfl, h2⟩
  refine ⟨oa, oc, rfl, ?_⟩
  rw [show n + 25 = n + 24 + 1 by omega]
  exact h2.rowsub fun r hr => List.mem_cons_of_mem _ hr
theorem quad_nil (w : World) : Calls Tryz.prog 38 #[.pointer none] w fun e w' => e = .returned (.int .i64 1) ∧ w = w' := by
  go_enter Tryz.func38, Tryz.ntmps38
  go_wp2
  go_ret
  exact ⟨rfl, rfl⟩
theorem protect_nil (w : World) : Calls Tryz.prog 39 #[.pointer none] w fun e w' => e = .returned (.int .i64 1) ∧ w = w' := by
  go_enter Tryz.func39, Tryz.ntmps39
  go_wp2
  go_ret
  exact ⟨rfl, rfl⟩
set_option maxRecDepth 100000 in
set_option maxHeartbeats 4000000 in
theorem sets_quad {Q : Own} {c : Cor} {b k fo fi : Nat} {n q : Int} {w0 w : World} {rows : List (Value × List Value)} (h : Rdy Q c b k fo fi n q w0 w rows) (hg : c.goes = false) (hj : c.job = none) (he : c.en = false) (hn : n + 68 ≤ 1048575) :
    Calls Tryz.prog 72 #[.pointer (some ⟨k, 0, none⟩), .int .i64 53, .int .i64 2, .int .i64 5, .int .i64 4] w fun e w' => e = .returned (.int .i64 0) ∧ Rdy Q { c with quad := true } b k fo fi (n + 68) (q + if c.quad then 16 else 64) w0 w' rows := by
  cases hq : c.quad with
  | true =>
    have hs := rdy_stat h hg hj 53 2 (.inr ⟨rfl, by rw [hq]; rfl⟩) (by omega)
    have hc : { c with quad := true } = c := by
      obtain ⟨a, prot, quad, en, goes, job, busy, wipes⟩ := c
      dsimp only at hq
      subst hq
      rfl
    have HS := Lib.hid hs
    have HC := Lib.hid hc
    clear hs hc h hg hj he hq
    go_enter Tryz.func72, Tryz.ntmps72
    go_wp2_with (go_at_call 106; refine HS.out.mono ?_; rintro e w2 ⟨rfl, hR2⟩)
    go_ret
    refine ⟨rfl, ?_⟩
    rw [HC.out]
    exact hR2.most (by omega) hn
  | false =>
    cases hp : c.prot
    all_goals
      have hs := rdy_stat h hg hj 53 0 (.inr ⟨rfl, by rw [hq]; rfl⟩) (by omega)
      have HS := Lib.hid hs
      have HG := Lib.hid (And.intro hg (And.intro hj (And.intro he hp)))
      clear hs h hg hj he hp hq
      go_enter Tryz.func72, Tryz.ntmps72
      go_upto_region 4 with (go_at_call 106; refine HS.out.mono ?_; rintro e w2 ⟨rfl, hR2⟩)
    · have HT := Lib.hid (rdy_stat hR2 HG.out.1 HG.out.2.1 5 0 (.inl ⟨rfl, by rw [HG.out.2.2.1, HG.out.2.2.2]; rfl⟩) (by omega))
      clear hR2 HS
      go_upto_region 7 with (go_at_call 106; refine HT.out.mono ?_; rintro e w3 ⟨rfl, hR3⟩)
      have HE := Lib.hid (rdy_en hR3 HG.out.1 HG.out.2.1 (by omega))
      clear hR3 HT
      go_upto_region 10 with (go_at_call 36; refine HE.out.mono ?_; rintro e w4 ⟨oa4, oc4, rfl, hR4⟩)
      have hR5 := (hR4.lit (ints [2, 0]) 3 2 rfl (by decide)).lit (ints [0, 2]) 3 2 rfl (by decide)
      have hsz1 : ∀ (W : World) (c : Array Value) (t : TypeId), (W.alloc (.cells c t)).heap.size = W.heap.size + 1 := fun W c t => by simp
      simp only [hsz1] at hR5
      have HP := Lib.hid (rdy_puts hR5 HG.out.1 HG.out.2.1 rfl false true 0 2 rfl rfl _ _ List.mem_cons_self (by omega))
      clear hR4 hR5 HE hsz1
      go_wp2_with (go_at_call 36; refine HP.out.mono ?_; rintro e w6 ⟨oa6, oc6, rfl, hR6⟩)
      go_ret
      refine ⟨rfl, ?_⟩
      have := hR6.most (m := n + 68) (by omega) hn
      rw [show q + (64 : Int) = q + 16 + 16 + 8 + 24 by omega, HG.out.2.2.1]
      exact this.rowsub fun r hr => List.mem_cons_of_mem _ (List.mem_cons_of_mem _ hr)
    · have HT := Lib.hid (rdy_stat hR2 HG.out.1 HG.out.2.1 5 4 (.inl ⟨rfl, by rw [HG.out.2.2.1, HG.out.2.2.2]; rfl⟩) (by omega))
      clear hR2 HS
      go_upto_region 7 with (go_at_call 106; refine HT.out.mono ?_; rintro e w3 ⟨rfl, hR3⟩)
      have HE := Lib.hid (rdy_en hR3 HG.out.1 HG.out.2.1 (by omega))
      clear hR3 HT
      go_upto_region 10 with (go_at_call 36; refine HE.out.mono ?_; rintro e w4 ⟨oa4, oc4, rfl, hR4⟩)
      have hR5 := (hR4.lit (ints [2, 4]) 3 2 rfl (by decide)).lit (ints [4, 2]) 3 2 rfl (by decide)
      have hsz1 : ∀ (W : World) (c : Array Value) (t : TypeId), (W.alloc (.cells c t)).heap.size = W.heap.size + 1 := fun W c t => by simp
      simp only [hsz1] at hR5
      have HP := Lib.hid (rdy_puts hR5 HG.out.1 HG.out.2.1 rfl true true 4 2 rfl rfl _ _ List.mem_cons_self (by omega))
      clear hR4 hR5 HE hsz1
      go_wp2_with (go_at_call 36; refine HP.out.mono ?_; rintro e w6 ⟨oa6, oc6, rfl, hR6⟩)
      go_ret
      refine ⟨rfl, ?_⟩
      have := hR6.most (m := n + 68) (by omega) hn
      rw [show q + (64 : Int) = q + 16 + 16 + 8 + 24 by omega, HG.out.2.2.1]
      exact this.rowsub fun r hr => List.mem_cons_of_mem _ (List.mem_cons_of_mem _ hr)
set_option maxRecDepth 100000 in
set_option maxHeartbeats 4000000 in
theorem sets_protect {Q : Own} {c : Cor} {b k fo fi : Nat} {n q : Int} {w0 w : World} {rows : List (Value × List Value)} (h : Rdy Q c b k fo fi n q w0 w rows) (hg : c.goes = false) (hj : c.job = none) (he : c.en = false) (hn : n + 68 ≤ 1048575) :
    Calls Tryz.prog 72 #[.pointer (some ⟨k, 0, none⟩), .int .i64 5, .int .i64 4, .int .i64 53, .int .i64 2] w fun e w' => e = .returned (.int .i64 0) ∧ Rdy Q { c with prot := true } b k fo fi (n + 68) (q + if c.prot then 16 else 64) w0 w' rows := by
  cases hp : c.prot with
  | true =>
    have hs := rdy_stat h hg hj 5 4 (.inl ⟨rfl, by rw [he, hp]; rfl⟩) (by omega)
    have hc : { c with prot := true } = c := by
      obtain ⟨a, prot, quad, en, goes, job, busy, wipes⟩ := c
      dsimp only at hp
      subst hp
      rfl
    have HS := Lib.hid hs
    have HC := Lib.hid hc
    clear hs hc h hg hj he hp
    go_enter Tryz.func72, Tryz.ntmps72
    go_wp2_with (go_at_call 106; refine HS.out.mono ?_; rintro e w2 ⟨rfl, hR2⟩)
    go_ret
    refine ⟨rfl, ?_⟩
    rw [HC.out]
    exact hR2.most (by omega) hn
  | false =>
    cases hq : c.quad
    all_goals
      have hs := rdy_stat h hg hj 5 0 (.inl ⟨rfl, by rw [he, hp]; rfl⟩) (by omega)
      have HS := Lib.hid hs
      have HG := Lib.hid (And.intro hg (And.intro hj (And.intro he hq)))
      clear hs h hg hj he hp hq
      go_enter Tryz.func72, Tryz.ntmps72
      go_upto_region 4 with (go_at_call 106; refine HS.out.mono ?_; rintro e w2 ⟨rfl, hR2⟩)
    · have HT := Lib.hid (rdy_stat hR2 HG.out.1 HG.out.2.1 53 0 (.inr ⟨rfl, by rw [HG.out.2.2.2]; rfl⟩) (by omega))
      clear hR2 HS
      go_upto_region 7 with (go_at_call 106; refine HT.out.mono ?_; rintro e w3 ⟨rfl, hR3⟩)
      have HE := Lib.hid (rdy_en hR3 HG.out.1 HG.out.2.1 (by omega))
      clear hR3 HT
      go_upto_region 10 with (go_at_call 36; refine HE.out.mono ?_; rintro e w4 ⟨oa4, oc4, rfl, hR4⟩)
      have hR5 := hR4.lit (ints [4, 0]) 3 2 rfl (by decide)
      have HP := Lib.hid (rdy_puts hR5 HG.out.1 HG.out.2.1 rfl true false 4 0 rfl rfl _ _ List.mem_cons_self (by omega))
      clear hR4 hR5 HE
      go_wp2_with (go_at_call 36; refine HP.out.mono ?_; rintro e w6 ⟨oa6, oc6, rfl, hR6⟩)
      go_ret
      refine ⟨rfl, ?_⟩
      have := hR6.most (m := n + 68) (by omega) hn
      rw [show q + (64 : Int) = q + 16 + 16 + 8 + 24 by omega, HG.out.2.2.1]
      exact this.rowsub fun r hr => List.mem_cons_of_mem _ hr
    · have HT := Lib.hid (rdy_stat hR2 HG.out.1 HG.out.2.1 53 2 (.inr ⟨rfl, by rw [HG.out.2.2.2]; rfl⟩) (by omega))
      clear hR2 HS
      go_upto_region 7 with (go_at_call 106; refine HT.out.mono ?_; rintro e w3 ⟨rfl, hR3⟩)
      have HE := Lib.hid (rdy_en hR3 HG.out.1 HG.out.2.1 (by omega))
      clear hR3 HT
      go_upto_region 10 with (go_at_call 36; refine HE.out.mono ?_; rintro e w4 ⟨oa4, oc4, rfl, hR4⟩)
      have hR5 := hR4.lit (ints [4, 2]) 3 2 rfl (by decide)
      have HP := Lib.hid (rdy_puts hR5 HG.out.1 HG.out.2.1 rfl true true 4 2 rfl rfl _ _ List.mem_cons_self (by omega))
      clear hR4 hR5 HE
      go_wp2_with (go_at_call 36; refine HP.out.mono ?_; rintro e w6 ⟨oa6, oc6, rfl, hR6⟩)
      go_ret
      refine ⟨rfl, ?_⟩
      have := hR6.most (m := n + 68) (by omega) hn
      rw [show q + (64 : Int) = q + 16 + 16 + 8 + 24 by omega, HG.out.2.2.1]
      exact this.rowsub fun r hr => List.mem_cons_of_mem _ hr
/-- The bit is set, and stays so. -/
theorem rdy_quad {Q : Own} {c : Cor} {b k fo fi : Nat} {n q : Int} {w0 w : World} {rows : List (Value × List Value)} (h : Rdy Q c b k fo fi n q w0 w rows) (hg : c.goes = false) (hj : c.job = none) (he : c.en = false) (hn : n + 68 ≤ 1048575) :
    Calls Tryz.prog 38 #[.pointer (some ⟨k, 0, none⟩)] w fun e w' => e = .returned (.int .i64 0) ∧ Rdy Q { c with quad := true } b k fo fi (n + 68) (q + if c.quad then 16 else 64) w0 w' rows := by
  have hs := sets_quad h hg hj he hn
  obtain ⟨z, hz⟩ : ∃ z : Int, (if c.quad = true then (16 : Int) else 64) = z := ⟨_, rfl⟩
  rw [hz] at hs ⊢
  have HS := Lib.hid hs
  clear hs hz h hg hj he
  go_enter Tryz.func38, Tryz.ntmps38
  go_wp2_with (go_at_call 72; refine HS.out.mono ?_; rintro e w2 ⟨rfl, hR2⟩)
  go_ret
  exact ⟨rfl, hR2⟩
/-- The bit is set, and stays so. -/
theorem rdy_protect {Q : Own} {c : Cor} {b k fo fi : Nat} {n q : Int} {w0 w : World} {rows : List (Value × List Value)} (h : Rdy Q c b k fo fi n q w0 w rows) (hg : c.goes = false) (hj : c.job = none) (he : c.en = false) (hn : n + 68 ≤ 1048575) :
    Calls Tryz.prog 39 #[.pointer (some ⟨k, 0, none⟩)] w fun e w' => e = .returned (.int .i64 0) ∧ Rdy Q { c with prot := true } b k fo fi (n + 68) (q + if c.prot then 16 else 64) w0 w' rows := by
  have hs := sets_protect h hg hj he hn
  obtain ⟨z, hz⟩ : ∃ z : Int, (if c.prot = true then (16 : Int) else 64) = z := ⟨_, rfl⟩
  rw [hz] at hs ⊢
  have HS := Lib.hid hs
  clear hs hz h hg hj he
  go_enter Tryz.func39, Tryz.ntmps39
  go_wp2_with (go_at_call 72; refine HS.out.mono ?_; rintro e w2 ⟨rfl, hR2⟩)
  go_ret
  exact ⟨rfl, hR2⟩
/-- What the chip's status is. -/
theorem rdy_status {Q : Own} {c : Cor} {b k fo fi : Nat} {n q : Int} {w0 w : World} {rows : List (Value × List Value)} (h : Rdy Q c b k fo fi n q w0 w rows) (hj : c.job = none) (x y : Int) (hx : first false c.en c.prot = x) (hy : second c.quad false = y) :
    Calls Tryz.prog 40 #[.pointer (some ⟨b, 0, none⟩)] w fun e w' => e = .returned (.tuple #[.int .i64 x, .int .i64 y]) ∧ Rdy Q c b k fo fi n q w0 w' rows := by
  obtain ⟨s, N, K, hQ, hA, hC, h4⟩ := h
  have hjs := hA.job.trans hj
  refine (c_status hC x y ?_ ?_).mono ?_
  · rw [← hx]
    unfold St.first St.works
    rw [hjs, hA.en, hA.prot]
  · rw [← hy]
    unfold St.second St.susp
    rw [hjs, hA.quad]
  · rintro e w' ⟨rfl, hC2⟩
    exact ⟨rfl, s, N, K, hQ, hA, hC2, h4⟩
end Go.Proofs.YtkjdhkpkcepilaaGreat
