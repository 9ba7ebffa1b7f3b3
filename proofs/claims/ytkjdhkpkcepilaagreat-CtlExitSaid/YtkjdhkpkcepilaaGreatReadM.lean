/- Any command that reads; behind a read that goes on. -/
import Derived.Test.YtkjdhkpkcepilaaGreatCtlV
import Derived.Test.YtkjdhkpkcepilaaGreatCtlR
namespace Go.Proofs.YtkjdhkpkcepilaaGreat
open Go.RowKit
theorem one_many (o : Int) (m : Nat) (ho : o = 5 ∨ o = 53) : phsMany (cmdPhs (opOf o) 0 [] (m : Int)) = 8 + 8 * (m : Int) ∧ cmdPhs (opOf o) 0 [] (m : Int) = [⟨1, [o], 0, 0⟩] ++ (if 0 < (m : Int) then [⟨1, [], 0, (m : Int)⟩] else []) := by
  have e : cmdPhs (opOf o) 0 [] m = [⟨1, [o], 0, 0⟩] ++ if 0 < (m : Int) then [⟨1, [], 0, (m : Int)⟩] else [] := by
    rcases ho with rfl | rfl
    · have e1 : opOf 5 = ⟨5, 0, false, 0, 1, false⟩ := by kernel_rfl
      rw [e1]; rfl
    · have e1 : opOf 53 = ⟨53, 0, false, 0, 1, false⟩ := by kernel_rfl
      rw [e1]; rfl
  refine ⟨?_, e⟩
  rw [e]
  by_cases h0 : 0 < (m : Int)
  · rw [if_pos h0]
    show 0 + ((0 : Int) + ((1 : Int) + 0) * 8) + ((0 : Int) + ((0 : Int) + m) * 8) = _
    omega
  · rw [if_neg h0, show m = 0 by omega]
    rfl
theorem one_may (o : Int) (m : Nat) (hm : m ≤ 512) (ho : o = 5 ∨ o = 53) : cmdMay (opOf o) 0 [] (m : Int) = true := by
  rcases ho with rfl | rfl
  · have e1 : opOf 5 = ⟨5, 0, false, 0, 1, false⟩ := by kernel_rfl
    rw [e1]
    unfold cmdMay fitsB
    simp
    omega
  · have e1 : opOf 53 = ⟨53, 0, false, 0, 1, false⟩ := by kernel_rfl
    rw [e1]
    unfold cmdMay fitsB
    simp
    omega
theorem sfdp_may2 (k : Int) (hk : 0 ≤ k ∧ k < 4096) (m : Nat) (hm : m ≤ 512) : cmdMay (opOf 90) k [] (m : Int) = true := by
  have e1 : opOf 90 = ⟨90, 1, false, 8, 1, false⟩ := by kernel_rfl
  rw [e1]
  unfold cmdMay fitsB
  simp
  omega
theorem sfdp_many (k : Int) (m : Nat) : phsMany (cmdPhs (opOf 90) k [] (m : Int)) = 40 + 8 * (m : Int) := by
  have e1 : opOf 90 = ⟨90, 1, false, 8, 1, false⟩ := by kernel_rfl
  have e : cmdPhs (opOf 90) k [] m = [⟨1, [90], 0, 0⟩, ⟨1, [k / 65536, k / 256 % 256, k % 256], 0, 0⟩, ⟨0, [], 8, 0⟩] ++ if 0 < (m : Int) then [⟨1, [], 0, (m : Int)⟩] else [] := by
    rw [e1]
    unfold cmdPhs
    dsimp only
    rw [if_pos (by decide), if_neg (by decide), if_pos (by decide), if_neg (by simp)]
    rfl
  rw [e]
  by_cases h0 : 0 < (m : Int)
  · rw [if_pos h0]
    show 0 + ((0 : Int) + ((1 : Int) + 0) * 8) + ((0 : Int) + ((3 : Int) + 0) * 8) + (8 + 0) + ((0 : Int) + ((0 : Int) + m) * 8) = _
    omega
  · rw [if_neg h0, show m = 0 by omega]
    rfl
theorem quad_may (k : Int) (hk : 0 ≤ k ∧ k < 4096) (m : Nat) (hm : m ≤ 512) : cmdMay (opOf 107) k [] (m : Int) = true := by
  have e1 : opOf 107 = ⟨107, 1, false, 8, 4, false⟩ := by kernel_rfl
  rw [e1]
  unfold cmdMay fitsB
  simp
  omega
/-- A command that reads m bytes: what it tells, how many clocks it takes. -/
structure AnyR (c : Cor) (o tt : Int) (m : Nat) (out : List Int) (clk : Int) : Prop where
  len : out.length = m
  low : 0 ≤ clk
  top : clk ≤ 200
  many : phsMany (cmdPhs (opOf o) tt [] (m : Int)) = clk
  may : cmdMay (opOf o) tt [] (m : Int) = true
  op : opIs o = true
  ne : o ≠ 235
  all : ∀ t, At c t → ∃ d : Drv, Drv.phases ⟨t.select, [], 0, -1⟩ (cmdPhs (opOf o) tt [] (m : Int)) = (d, true) ∧ d.clocks = clk ∧ d.out = out ∧ At c d.s.deselect
/-- Whichever command that reads. -/
theorem any_read (c : Cor) (hg : c.goes = false) (hj : c.job = none) (o tt : Int) (m : Nat) (hm : m ≤ 15) (hb : (o = 159 ∨ o = 5 ∨ o = 53) ∧ tt = 0 ∨ (o = 3 ∨ o = 90) ∧ 0 ≤ tt ∧ tt < 4096 ∨ o = 107 ∧ c.quad = true ∧ 1 ≤ m ∧ 0 ≤ tt ∧ tt < 4096) :
    ∃ (out : List Int) (clk : Int), AnyR c o tt m out clk := by
  have hst : ∀ (o : Int) (ho : o = 5 ∨ o = 53) (x : Int) (hx : ∀ (t : St), At c t → ∀ i, (t.hd o 0).byteAt i = x), ∀ t, At c t → ∃ d : Drv, Drv.phases ⟨t.select, [], 0, -1⟩ (cmdPhs (opOf o) 0 [] (m : Int)) = (d, true) ∧ d.clocks = 8 + 8 * (m : Int) ∧ d.out = List.replicate m x ∧ At c d.s.deselect := by
    intro o ho x hx t ht
    rw [(one_many o m ho).2]
    obtain ⟨d, h1, h2, h3, h4⟩ := rd_all (c := c) t (t.hd o 0) [⟨1, [o], 0, 0⟩] _ (by simp) (hdB t (ht.goes.trans hg) (ht.job.trans hj) o (by omega)) (ht.job.trans hj) rfl rfl (by rcases ho with rfl | rfl <;> rfl) rfl (hd_end ht o 0 (by omega)) (fun i => byteAt_bd _ _) m
    refine ⟨d, h1, h2, ?_, h4⟩
    rw [h3]
    have : (fun (i : Nat) => (t.hd o 0).byteAt ((t.hd o 0).told + (i : Int))) = fun _ => x := funext fun i => hx t ht _
    rw [this, List.map_const', List.length_range]
  rcases hb with ⟨rfl | rfl | rfl, rfl⟩ | ⟨rfl | rfl, h1, h2⟩ | ⟨rfl, hq, hm1, h1, h2⟩
  · exact ⟨idL m, 8 + 8 * (m : Int), idL_len m, by omega, by omega, id_many m, id_may m (by omega), by decide, by decide, fun t ht => id_all ht hg hj m⟩
  · refine ⟨List.replicate m (first false c.en c.prot), 8 + 8 * (m : Int), List.length_replicate, by omega, by omega, (one_many 5 m (.inl rfl)).1, one_may 5 m (by omega) (.inl rfl), by decide, by decide, hst 5 (.inl rfl) _ fun t ht i => ?_⟩
    have hw : (t.hd 5 0).works = false := by
      unfold St.works
      rw [show (t.hd 5 0).job = none from ht.job.trans hj]
    show (t.hd 5 0).first = _
    unfold St.first
    rw [hw, show (t.hd 5 0).en = c.en from ht.en, show (t.hd 5 0).prot = c.prot from ht.prot]
  · refine ⟨List.replicate m (second c.quad false), 8 + 8 * (m : Int), List.length_replicate, by omega, by omega, (one_many 53 m (.inr rfl)).1, one_may 53 m (by omega) (.inr rfl), by decide, by decide, hst 53 (.inr rfl) _ fun t ht i => ?_⟩
    have hw : (t.hd 53 0).susp = false := by
      unfold St.susp
      rw [show (t.hd 53 0).job = none from ht.job.trans hj]
    show (t.hd 53 0).second = _
    unfold St.second
    rw [hw, show (t.hd 53 0).quad = c.quad from ht.quad]
  · refine ⟨(List.range m).map (fun (i : Nat) => byteOf c.a ((tt + (i : Int)) % 4096).toNat), 32 + 8 * (m : Int), by rw [List.length_map, List.length_range], by omega, by omega, rd3_many tt m, rd3_may tt ⟨h1, h2⟩ m (by omega), by decide, by decide, fun t ht => rd3_all ht hg hj tt ⟨h1, h2⟩ m⟩
  · exact ⟨sfdpB tt m, 40 + 8 * (m : Int), by unfold sfdpB; rw [List.length_map, List.length_range], by omega, by omega, sfdp_many tt m, sfdp_may2 tt ⟨h1, h2⟩ m (by omega), by decide, by decide, fun t ht => sfdp_all ht hg hj tt ⟨h1, h2⟩ m⟩
  · refine ⟨(List.range m).map (fun (i : Nat) => byteOf c.a ((tt + (i : Int)) % 4096).toNat), 40 + 2 * (m : Int), by rw [List.length_map, List.length_range], by omega, by omega, quad_many tt m hm1, quad_may tt ⟨h1, h2⟩ m (by omega), by decide, by decide, fun t ht => ?_⟩
    obtain ⟨d, e1, e2, e3, e4, -⟩ := read4_all ht hg hj hq tt ⟨h1, h2⟩ m hm1
    exact ⟨d, e1, e2, e3, e4⟩

set_option maxRecDepth 100000 in
/-- The way to leave, on a chip whose read goes on. -/
theorem leave_all {c : Cor} {t : St} (h : At c t) (hg : c.goes = true) (hj : c.job = none) (hq : c.quad = true) :
    ∃ d : Drv, Drv.phases ⟨t.select, [], 0, -1⟩ [leavePh] = (d, true) ∧ d.clocks = 8 ∧ d.out = [] ∧ At { c with goes := false } d.s.deselect := by
  have htg := h.goes.trans hg
  have htj := h.job.trans hj
  have htq := h.quad.trans hq
  obtain ⟨hcor, hsel⟩ := h
  obtain ⟨a, prot, quad, wipes, tabled, sel, en, goes, job, busy, op, stage, left, got, addr, mode, moded, data, told, now, beyond⟩ := t
  change goes = true at htg
  change job = none at htj
  change quad = true at htq
  subst htg
  subst htj
  subst htq
  subst hcor
  exact ⟨_, (Prod.ext rfl (by kernel_rfl) : _ = (_, true)), by kernel_rfl, by kernel_rfl, by kernel_rfl, by kernel_rfl⟩
/-- A controller with empty queues, whose way to leave was made, on which no read goes on. -/
def RegM (c : Cor) (b k : Nat) (n q : Int) (w0 w : World) (rows : List (Value × List Value)) : Prop :=
  ∃ (s : St) (N : Int) (gl fo fi : Nat), At c s ∧ Ctx (ChipP b s N) ((CtlM gl k b fo fi ⟨0, 0, 0, q, false, -1, false⟩).star (QQ fo fi [] [])) w0 w rows ∧ 0 ≤ N ∧ N ≤ n ∧ 0 ≤ q ∧ q ≤ n ∧ n ≤ 1048500
theorem RegM.up {c : Cor} {b k : Nat} {n q : Int} {w0 w : World} {rows : List (Value × List Value)} (h : RegM c b k n q w0 w rows) : Upd none' w0 w := by
  obtain ⟨s, N, gl, fo, fi, h1, h2, h3⟩ := h
  exact h2.upd
theorem RegM.rs {c : Cor} {b k : Nat} {n q : Int} {w0 w : World} {rows : List (Value × List Value)} (h : RegM c b k n q w0 w rows) {r : Value × List Value} (hr : r ∈ rows) : RS w r.1 r.2 := by
  obtain ⟨s, N, gl, fo, fi, h1, h2, h3⟩ := h
  exact h2.rs_mem hr
theorem regm_clocks {c : Cor} {b k : Nat} {n q : Int} {w0 w : World} {rows : List (Value × List Value)} (h : RegM c b k n q w0 w rows) :
    Calls Tryz.prog 31 #[.pointer (some ⟨k, 0, none⟩)] w fun e w' => e = .returned (.int .i64 q) ∧ w = w' := by
  obtain ⟨s, N, gl, fo, fi, hA, hC, -⟩ := h
  exact kM_clocks hC
theorem regq_any {c : Cor} {b k : Nat} {n q : Int} {w0 w : World} {rows : List (Value × List Value)} (h : RegQ false c b k n q w0 w rows) {o tt clk : Int} {m : Nat} {out : List Int} (hA : AnyR c o tt m out clk) (hn : n + 201 ≤ 1048500) :
    Calls Tryz.prog 36 #[.pointer (some ⟨k, 0, none⟩), .int .i64 o, .int .i64 tt, .slice none 0 0, .int .i64 (m : Int)] w fun e w' => ∃ oa oc, e = .returned (.tuple #[.slice oa m oc, .int .i64 0]) ∧ RegQ false c b k (n + 201) (q + clk) w0 w' ((.slice oa m oc, ints out) :: rows) := by
  obtain ⟨s, N, fo, fi, hAt, hC, hN0, hN, hq0, hqn, hnn⟩ := h
  obtain ⟨d, e1, e2, e3, e4⟩ := hA.all s hAt
  have hlo := hA.low
  have hto := hA.top
  refine (c_run (K := ⟨0, 0, 0, q, false, -1, false⟩) (qq_ok _ _ _ _) hC.nilrow hN0 hAt.sel (by dsimp only; omega) (by dsimp only; omega) rfl rfl o hA.op hA.ne tt none 0 [] List.mem_cons_self (m : Int) hA.may (by rw [hA.many]; omega) d e1).mono ?_
  rintro e w' ⟨oa, oc, rfl, hC2⟩
  rw [e3, hA.len] at hC2 ⊢
  refine ⟨oa, oc, rfl, d.s.deselect, N + d.clocks + 1, fo, fi, e4, ?_, by omega, by omega, by omega, by omega, by omega⟩
  have hKK : KS.driven ⟨0, 0, 0, q, false, -1, false⟩ d = ⟨0, 0, 0, q + clk, false, -1, false⟩ := by
    unfold KS.driven
    dsimp only
    rw [e2, if_neg (by decide)]
  rw [hKK] at hC2
  refine hC2.sub fun r hr => ?_
  rcases List.mem_cons.1 hr with h | h
  · exact List.mem_cons.2 (.inl h)
  · exact List.mem_cons.2 (.inr (List.mem_cons_of_mem _ h))
theorem regm_any {c : Cor} {b k : Nat} {n q : Int} {w0 w : World} {rows : List (Value × List Value)} (h : RegM c b k n q w0 w rows) {o tt clk : Int} {m : Nat} {out : List Int} (hA : AnyR c o tt m out clk) (hn : n + 201 ≤ 1048500) :
    Calls Tryz.prog 36 #[.pointer (some ⟨k, 0, none⟩), .int .i64 o, .int .i64 tt, .slice none 0 0, .int .i64 (m : Int)] w fun e w' => ∃ oa oc, e = .returned (.tuple #[.slice oa m oc, .int .i64 0]) ∧ RegM c b k (n + 201) (q + clk) w0 w' ((.slice oa m oc, ints out) :: rows) := by
  obtain ⟨s, N, gl, fo, fi, hAt, hC, hN0, hN, hq0, hqn, hnn⟩ := h
  obtain ⟨d, e1, e2, e3, e4⟩ := hA.all s hAt
  have hlo := hA.low
  have hto := hA.top
  refine (cM_run (K := ⟨0, 0, 0, q, false, -1, false⟩) (qq_ok _ _ _ _) hC.nilrow hN0 hAt.sel (by dsimp only; omega) (by dsimp only; omega) rfl rfl o hA.op hA.ne tt none 0 [] List.mem_cons_self (m : Int) hA.may (by rw [hA.many]; omega) d e1).mono ?_
  rintro e w' ⟨oa, oc, rfl, hC2⟩
  rw [e3, hA.len] at hC2 ⊢
  refine ⟨oa, oc, rfl, d.s.deselect, N + d.clocks + 1, gl, fo, fi, e4, ?_, by omega, by omega, by omega, by omega, by omega⟩
  have hKK : KS.driven ⟨0, 0, 0, q, false, -1, false⟩ d = ⟨0, 0, 0, q + clk, false, -1, false⟩ := by
    unfold KS.driven
    dsimp only
    rw [e2, if_neg (by decide)]
  rw [hKK] at hC2
  refine hC2.sub fun r hr => ?_
  rcases List.mem_cons.1 hr with h | h
  · exact List.mem_cons.2 (.inl h)
  · exact List.mem_cons.2 (.inr (List.mem_cons_of_mem _ h))
/-- Behind a read that goes on: eight clocks more. -/
theorem regq_leave {c : Cor} {b k : Nat} {n q : Int} {w0 w : World} {rows : List (Value × List Value)} (h : RegQ true c b k n q w0 w rows) (hg : c.goes = true) (hj : c.job = none) (hq : c.quad = true) {o tt clk : Int} {m : Nat} {out : List Int} (hA : AnyR { c with goes := false } o tt m out clk) (hn : n + 220 ≤ 1048500) :
    Calls Tryz.prog 36 #[.pointer (some ⟨k, 0, none⟩), .int .i64 o, .int .i64 tt, .slice none 0 0, .int .i64 (m : Int)] w fun e w' => ∃ oa oc, e = .returned (.tuple #[.slice oa m oc, .int .i64 0]) ∧ RegM { c with goes := false } b k (n + 220) (q + (8 + clk)) w0 w' ((.slice oa m oc, ints out) :: rows) := by
  obtain ⟨s, N, fo, fi, hAt, hC, hN0, hN, hq0, hqn, hnn⟩ := h
  obtain ⟨d1, l1, l2, l3, l4⟩ := leave_all hAt hg hj hq
  obtain ⟨d, e1, e2, e3, e4⟩ := hA.all _ l4
  have hlo := hA.low
  have hto := hA.top
  refine (c_run_leave (K := ⟨0, 0, 0, q, true, -1, false⟩) (qq_ok _ _ _ _) hC.nilrow hN0 hAt.sel (by dsimp only; omega) (by dsimp only; omega) rfl rfl rfl o hA.op hA.ne tt none 0 [] List.mem_cons_self (m : Int) hA.may d1 l1 l2 l4.sel (by rw [hA.many]; omega) d e1).mono ?_
  rintro e w' ⟨gl, oa, oc, rfl, hC2⟩
  rw [e3, hA.len] at hC2 ⊢
  refine ⟨oa, oc, rfl, d.s.deselect, N + d1.clocks + 1 + d.clocks + 1, gl, fo, fi, e4, ?_, by omega, by omega, by omega, by omega, by omega⟩
  have hKK : ({ KS.driven ⟨0, 0, 0, q, true, -1, false⟩ d1 with goes := false } : KS).driven d = ⟨0, 0, 0, q + (8 + clk), false, -1, false⟩ := by
    unfold KS.driven
    dsimp only
    have hm : (if (0 : Int) ≤ -1 then (-1 : Int) - 8 else -1) = -1 := by decide
    rw [e2, l2, hm, if_neg (show ¬ (0 : Int) ≤ -1 by decide), Int.add_assoc]
  rw [hKK] at hC2
  refine hC2.sub fun r hr => ?_
  rcases List.mem_cons.1 hr with h | h
  · exact List.mem_cons.2 (.inl h)
  · exact List.mem_cons.2 (.inr (List.mem_cons_of_mem _ h))
end Go.Proofs.YtkjdhkpkcepilaaGreat
