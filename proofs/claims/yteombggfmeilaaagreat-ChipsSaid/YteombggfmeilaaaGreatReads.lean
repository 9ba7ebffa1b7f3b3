/- Commands that read on one lane, of a chip at rest: in plain. · Status bytes that are put. -/
import Derived.Test.YteombggfmeilaaaGreatFetchP
namespace Go.Proofs.YteombggfmeilaaaGreat
open Go.RowKit
theorem phsOuts_no (P : List Ph) : (∀ p ∈ P, p.read = 0) → ∀ (Q : List Ph) (ys : List Int), phsOuts (P ++ Q) ys = phsOuts Q (ys.drop (phsIns P).length) := by
  induction P with
  | nil => intro _ Q ys; rfl
  | cons p ps ih =>
    intro h Q ys
    rw [List.cons_append, phsOuts, h p List.mem_cons_self, ih (fun q hq => h q (List.mem_cons_of_mem _ hq))]
    show [] ++ _ = _
    rw [List.nil_append, List.drop_drop]
    unfold phsIns
    rw [List.flatMap_cons, List.length_append]
theorem phsIns_app (P Q : List Ph) : phsIns (P ++ Q) = phsIns P ++ phsIns Q := by
  unfold phsIns
  rw [List.flatMap_append]
/-- A read on one lane behind phases that bring a chip to where it tells. -/
theorem rd_all {c : Cor} (t u : St) (P : List Ph) (os : List Int) (hP : ∀ p ∈ P, p.read = 0) (hrun : runC t.select (phsIns P) = (u, os)) (huj : u.job = none) (hus : u.sel = true) (h6 : u.stage = 6) (hd1 : u.op.data = 1) (hl : u.left = 0) (hend : ∀ v, Tel u v → At c v.deselect) (hbd : ∀ i, 0 ≤ u.byteAt i ∧ u.byteAt i ≤ 255) (m : Nat) :
    ∃ d : Drv, Drv.phases ⟨t.select, [], 0, -1⟩ (P ++ if 0 < (m : Int) then [⟨1, [], 0, (m : Int)⟩] else []) = (d, true) ∧ d.clocks = ((phsIns P).length : Int) + 8 * (m : Int) ∧ d.out = (List.range m).map (fun (i : Nat) => u.byteAt (u.told + (i : Int))) ∧ At c d.s.deselect := by
  have hf := phases_free (P ++ if 0 < (m : Int) then [⟨1, [], 0, (m : Int)⟩] else []) ⟨t.select, [], 0, -1⟩ (show (-1 : Int) < 0 by decide)
  dsimp only at hf
  have hol : os.length = (phsIns P).length := by
    have := runC_len t.select (phsIns P)
    rw [hrun] at this
    exact this
  have hins : phsIns (P ++ if 0 < (m : Int) then [⟨1, [], 0, (m : Int)⟩] else []) = phsIns P ++ List.replicate (8 * m) 15 := by
    rw [phsIns_app]
    congr 1
    by_cases h : 0 < (m : Int)
    · rw [if_pos h]
      unfold phsIns
      rw [List.flatMap_cons, List.flatMap_nil, ins_read1, List.append_nil]
    · rw [if_neg h, show m = 0 by omega]
      rfl
  rw [phsOuts_no P hP, hins, runC_app, hrun] at hf
  dsimp only at hf
  have htells := tells m (s := u) huj hus h6 hd1 hl
  have htel := runC_tel (List.replicate (8 * m) 15) (s := u) huj hus h6
  rw [htells, ← hol, List.drop_append_of_le_length (Nat.le_refl _), List.drop_of_length_le (Nat.le_refl _), List.nil_append, List.nil_append] at hf
  refine ⟨_, hf, ?_, ?_, hend _ htel⟩
  · dsimp only
    rw [List.length_append, List.length_replicate]
    omega
  · dsimp only
    by_cases h : 0 < (m : Int)
    · rw [if_pos h, phsOuts, phsOuts, says_nil, List.append_nil]
      show groups 1 ((m : Int)).toNat _ = _
      rw [Int.toNat_natCast]
      exact groups_tell m _ (fun i => hbd _)
    · rw [if_neg h, show m = 0 by omega]
      rfl
theorem hd_end {c : Cor} {t : St} (h : At c t) (o A : Int) (ho : o = 3 ∨ o = 5 ∨ o = 53 ∨ o = 90 ∨ o = 159) : ∀ v, Tel (t.hd o A) v → At c v.deselect := by
  intro v hv
  obtain ⟨hcor, -⟩ := h
  unfold Tel at hv
  obtain ⟨va, vprot, vquad, vwipes, vtabled, vsel, ven, vgoes, vjob, vbusy, vop, vstage, vleft, vgot, vaddr, vmode, vmoded, vdata, vtold, vnow, vbeyond⟩ := v
  rw [hv, ← hcor]
  rcases ho with rfl | rfl | rfl | rfl | rfl
  all_goals exact ⟨by kernel_rfl, by kernel_rfl⟩
theorem hdB (s : St) (hg : s.goes = false) (hj : s.job = none) (o : Int) (ho : o = 5 ∨ o = 53 ∨ o = 159) : runC s.select (phsIns [⟨1, [o], 0, 0⟩]) = (s.hd o 0, List.replicate 8 15) := by
  obtain ⟨a, prot, quad, wipes, tabled, sel, en, goes, job, busy, op, stage, left, got, addr, mode, moded, data, told, now, beyond⟩ := s
  change goes = false at hg
  change job = none at hj
  subst hg
  subst hj
  rcases ho with rfl | rfl | rfl
  all_goals kernel_rfl
theorem byteAt_159 {t : St} (hop : t.op = opOf 159) (i : Int) : t.byteAt i = ([239, 64, 12] : List Int).getD (i % 3).toNat 0 := by
  unfold St.byteAt
  rw [hop, if_pos (by decide)]
def idL (m : Nat) : List Int := (List.range m).map fun (i : Nat) => ([239, 64, 12] : List Int).getD (i % 3) 0
/-- So many bytes of the chip's number. -/
theorem id_all {c : Cor} {t : St} (h : At c t) (hg : c.goes = false) (hj : c.job = none) (m : Nat) :
    ∃ d : Drv, Drv.phases ⟨t.select, [], 0, -1⟩ (cmdPhs (opOf 159) 0 [] m) = (d, true) ∧ d.clocks = 8 + 8 * (m : Int) ∧ d.out = idL m ∧ At c d.s.deselect := by
  have htg := h.goes.trans hg
  have htj := h.job.trans hj
  have e : cmdPhs (opOf 159) 0 [] m = [⟨1, [159], 0, 0⟩] ++ if 0 < (m : Int) then [⟨1, [], 0, (m : Int)⟩] else [] := by
    have e1 : opOf 159 = ⟨159, 0, false, 0, 1, false⟩ := by kernel_rfl
    rw [e1]
    rfl
  rw [e]
  obtain ⟨d, h1, h2, h3, h4⟩ := rd_all (c := c) t (t.hd 159 0) [⟨1, [159], 0, 0⟩] _ (by simp) (hdB t htg htj 159 (by decide)) htj rfl rfl rfl rfl (hd_end h 159 0 (by decide)) (fun i => byteAt_bd _ _) m
  refine ⟨d, h1, h2, ?_, h4⟩
  rw [h3]
  unfold idL
  apply List.map_congr_left
  intro i _
  rw [byteAt_159 rfl]
  congr 1
  show ((0 + (i : Int)) % 3).toNat = i % 3
  omega
/-- The second status. -/
theorem st2_all {c : Cor} {t : St} (h : At c t) (hg : c.goes = false) (hj : c.job = none) :
    ∃ d : Drv, Drv.phases ⟨t.select, [], 0, -1⟩ (cmdPhs (opOf 53) 0 [] 1) = (d, true) ∧ d.clocks = 16 ∧ d.out = [second c.quad false] ∧ At c d.s.deselect := by
  have htg := h.goes.trans hg
  have htj := h.job.trans hj
  have e : cmdPhs (opOf 53) 0 [] 1 = [⟨1, [53], 0, 0⟩] ++ if 0 < ((1 : Nat) : Int) then [⟨1, [], 0, ((1 : Nat) : Int)⟩] else [] := by
    have e1 : opOf 53 = ⟨53, 0, false, 0, 1, false⟩ := by kernel_rfl
    rw [e1]
    rfl
  rw [e]
  obtain ⟨d, h1, h2, h3, h4⟩ := rd_all (c := c) t (t.hd 53 0) [⟨1, [53], 0, 0⟩] _ (by simp) (hdB t htg htj 53 (by decide)) htj rfl rfl rfl rfl (hd_end h 53 0 (by decide)) (fun i => byteAt_bd _ _) 1
  refine ⟨d, h1, h2, ?_, h4⟩
  rw [h3]
  show [second t.quad (t.hd 53 0).susp] = _
  have hsu : (t.hd 53 0).susp = false := by
    unfold St.susp
    rw [show (t.hd 53 0).job = none from htj]
  rw [hsu, h.quad]
def sfdpL : List Int := [83, 70, 68, 80, 6, 1, 0, 255, 0, 16, 0, 0, 0, 2, 0, 0, 32, 0, 0, 0, 255, 255, 255, 255, 255, 255, 255, 255, 255, 255, 255, 255]
/-- Bytes of what the chip is like. -/
def sfdpB (k : Int) (m : Nat) : List Int := (List.range m).map fun (i : Nat) => byteOf sfdpTab ((k + (i : Int)) % 32).toNat
theorem sfdp_all {c : Cor} {t : St} (h : At c t) (hg : c.goes = false) (hj : c.job = none) (k : Int) (hk : 0 ≤ k ∧ k < 4096) (m : Nat) :
    ∃ d : Drv, Drv.phases ⟨t.select, [], 0, -1⟩ (cmdPhs (opOf 90) k [] m) = (d, true) ∧ d.clocks = 40 + 8 * (m : Int) ∧ d.out = sfdpB k m ∧ At c d.s.deselect := by
  have htg := h.goes.trans hg
  have htj := h.job.trans hj
  have e : cmdPhs (opOf 90) k [] m = [⟨1, [90], 0, 0⟩, ⟨1, [k / 65536, k / 256 % 256, k % 256], 0, 0⟩, ⟨0, [], 8, 0⟩] ++ if 0 < (m : Int) then [⟨1, [], 0, (m : Int)⟩] else [] := by
    have e1 : opOf 90 = ⟨90, 1, false, 8, 1, false⟩ := by kernel_rfl
    rw [e1]
    unfold cmdPhs
    dsimp only
    rw [if_pos (by decide), if_neg (by decide), if_pos (by decide), if_neg (by simp)]
    rfl
  have hins : phsIns [⟨1, [90], 0, 0⟩, ⟨1, [k / 65536, k / 256 % 256, k % 256], 0, 0⟩, ⟨0, [], 8, 0⟩] = wordL [90, 0, k / 256, k % 256] ++ List.replicate 8 15 := by
    unfold phsIns
    rw [List.flatMap_cons, List.flatMap_cons, List.flatMap_cons, List.flatMap_nil, ins_bytes1, ins_bytes1, show ((8 : Int)) = ((8 : Nat) : Int) from rfl, ins_waits, List.append_nil, show k / 65536 = 0 by omega, show k / 256 % 256 = k / 256 by omega]
    rw [show wordL [90, 0, k / 256, k % 256] = wordL [90] ++ wordL [0, k / 256, k % 256] from by rw [← wordL_app]; rfl]
    simp only [List.append_assoc]
  rw [e]
  obtain ⟨d, h1, h2, h3, h4⟩ := rd_all (c := c) t (t.hd 90 (addrOf k)) [⟨1, [90], 0, 0⟩, ⟨1, [k / 65536, k / 256 % 256, k % 256], 0, 0⟩, ⟨0, [], 8, 0⟩] _ (by simp) (by rw [hins]; exact hd90 t htg htj k) htj rfl rfl rfl rfl (hd_end h 90 _ (by decide)) (fun i => byteAt_bd _ _) m
  refine ⟨d, h1, ?_, ?_, h4⟩
  · rw [h2, hins]
    rfl
  · rw [h3]
    unfold sfdpB
    apply List.map_congr_left
    intro i _
    rw [byteAt_90 rfl]
    show byteOf sfdpTab ((addrOf k + (0 + (i : Int))) % 32).toNat = _
    rw [addrOf_eq k hk, Int.zero_add]
theorem sfdpB_all : sfdpB 0 32 = sfdpL := by decide
/-- A read on one lane, as a command. -/
theorem rd3_all {c : Cor} {t : St} (h : At c t) (hg : c.goes = false) (hj : c.job = none) (k : Int) (hk : 0 ≤ k ∧ k < 4096) (m : Nat) :
    ∃ d : Drv, Drv.phases ⟨t.select, [], 0, -1⟩ (cmdPhs (opOf 3) k [] m) = (d, true) ∧ d.clocks = 32 + 8 * (m : Int) ∧ d.out = (List.range m).map (fun (i : Nat) => byteOf c.a ((k + (i : Int)) % 4096).toNat) ∧ At c d.s.deselect := by
  have htg := h.goes.trans hg
  have htj := h.job.trans hj
  have e : cmdPhs (opOf 3) k [] m = [⟨1, [3], 0, 0⟩, ⟨1, [k / 65536, k / 256 % 256, k % 256], 0, 0⟩] ++ if 0 < (m : Int) then [⟨1, [], 0, (m : Int)⟩] else [] := by
    have e1 : opOf 3 = ⟨3, 1, false, 0, 1, false⟩ := by kernel_rfl
    rw [e1]
    unfold cmdPhs
    dsimp only
    rw [if_pos (by decide), if_neg (by decide), if_neg (by decide), if_neg (by simp)]
    rfl
  have hins : phsIns [⟨1, [3], 0, 0⟩, ⟨1, [k / 65536, k / 256 % 256, k % 256], 0, 0⟩] = wordL [3, 0, k / 256, k % 256] := by
    unfold phsIns
    rw [List.flatMap_cons, List.flatMap_cons, List.flatMap_nil, ins_bytes1, ins_bytes1, List.append_nil, show k / 65536 = 0 by omega, show k / 256 % 256 = k / 256 by omega, ← wordL_app]
    rfl
  rw [e]
  obtain ⟨d, h1, h2, h3, h4⟩ := rd_all (c := c) t (t.hd 3 (addrOf k)) [⟨1, [3], 0, 0⟩, ⟨1, [k / 65536, k / 256 % 256, k % 256], 0, 0⟩] _ (by simp) (by rw [hins]; exact hd3 t htg htj k) htj rfl rfl rfl rfl (hd_end h 3 _ (by decide)) (fun i => byteAt_bd _ _) m
  refine ⟨d, h1, ?_, ?_, h4⟩
  · rw [h2, hins]
    rfl
  · rw [h3]
    apply List.map_congr_left
    intro i _
    rw [byteAt_3 rfl, ← h.a]
    show byteOf t.a ((addrOf k + (0 + (i : Int))) % 4096).toNat = _
    rw [addrOf_eq k hk, Int.zero_add]
/-- The status is put, any of it. -/
theorem puts_all {c : Cor} {t : St} (h : At c t) (hg : c.goes = false) (hj : c.job = none) (he : c.en = true) (p q : Bool) :
    ∃ d : Drv, Drv.phases ⟨t.select, [], 0, -1⟩ (cmdPhs (opOf 1) 0 [if p then 4 else 0, if q then 2 else 0] 0) = (d, true) ∧ d.clocks = 24 ∧ d.out = [] ∧ At { c with prot := p, quad := q, en := false } d.s.deselect := by
  have htg := h.goes.trans hg
  have htj := h.job.trans hj
  have hte := h.en.trans he
  obtain ⟨hcor, hsel⟩ := h
  obtain ⟨a, prot, quad, wipes, tabled, sel, en, goes, job, busy, op, stage, left, got, addr, mode, moded, data, told, now, beyond⟩ := t
  change goes = false at htg
  change job = none at htj
  change en = true at hte
  subst htg
  subst htj
  subst hte
  subst hcor
  cases p <;> cases q
  all_goals exact ⟨_, (Prod.ext rfl (by kernel_rfl) : _ = (_, true)), by kernel_rfl, by kernel_rfl, by kernel_rfl, by kernel_rfl⟩
/-- A read on one lane. -/
theorem rd3_may (at_ : Int) (hk : 0 ≤ at_ ∧ at_ < 4096) (m : Nat) (hm : m ≤ 512) : cmdMay (opOf 3) at_ [] (m : Int) = true := by
  have e1 : opOf 3 = ⟨3, 1, false, 0, 1, false⟩ := by kernel_rfl
  rw [e1]
  unfold cmdMay fitsB
  simp
  omega
theorem rd3_many (at_ : Int) (m : Nat) : phsMany (cmdPhs (opOf 3) at_ [] (m : Int)) = 32 + 8 * (m : Int) := by
  have e1 : opOf 3 = ⟨3, 1, false, 0, 1, false⟩ := by kernel_rfl
  have e : cmdPhs (opOf 3) at_ [] m = [⟨1, [3], 0, 0⟩, ⟨1, [at_ / 65536, at_ / 256 % 256, at_ % 256], 0, 0⟩] ++ if 0 < (m : Int) then [⟨1, [], 0, (m : Int)⟩] else [] := by
    rw [e1]
    unfold cmdPhs
    dsimp only
    rw [if_pos (by decide), if_neg (by decide), if_neg (by decide), if_neg (by simp)]
    rfl
  rw [e]
  by_cases h0 : 0 < (m : Int)
  · rw [if_pos h0]
    show 0 + ((0 : Int) + ((1 : Int) + 0) * 8) + ((0 : Int) + ((3 : Int) + 0) * 8) + ((0 : Int) + ((0 : Int) + m) * 8) = _
    omega
  · rw [if_neg h0, show m = 0 by omega]
    rfl
end Go.Proofs.YteombggfmeilaaaGreat
