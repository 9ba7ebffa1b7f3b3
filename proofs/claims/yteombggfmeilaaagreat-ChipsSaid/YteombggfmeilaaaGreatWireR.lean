/- A drive with no bound, and one with one, in plain. · Reads on wires, of a chip at rest: in plain. -/
import Derived.Test.YteombggfmeilaaaGreatWireH
import Derived.Test.YteombggfmeilaaaGreatPure
import Derived.Test.YteombggfmeilaaaGreatPureP
namespace Go.Proofs.YteombggfmeilaaaGreat
open Go.RowKit
theorem run_free (xs : List Int) : ∀ d : Drv, d.most < 0 → d.run xs = ({ d with s := (runC d.s xs).1, clocks := d.clocks + (xs.length : Int) }, (runC d.s xs).2, true) := by
  induction xs with
  | nil =>
    intro d _
    show (d, [], true) = ({ d with s := d.s, clocks := d.clocks + 0 }, [], true)
    rw [Int.add_zero]
  | cons x xs ih =>
    intro d h
    have hf : d.full = false := decide_eq_false (by omega)
    simp only [Drv.run, hf, Bool.false_eq_true, if_false]
    rw [ih (d.clk x) h, runC_cons, List.length_cons]
    show ((⟨_, _, d.clocks + 1 + _, _⟩ : Drv), _, _) = _
    rw [show d.clocks + 1 + (xs.length : Int) = d.clocks + ((xs.length + 1 : Nat) : Int) by omega]
    rfl
theorem run_cut (xs : List Int) : ∀ (d : Drv) (k : Nat), 0 ≤ d.most → d.clocks + (k : Int) = d.most → d.run xs = if xs.length ≤ k then ({ d with s := (runC d.s xs).1, clocks := d.clocks + (xs.length : Int) }, (runC d.s xs).2, true) else ({ d with s := (runC d.s (xs.take k)).1, clocks := d.most }, (runC d.s (xs.take k)).2, false) := by
  induction xs with
  | nil =>
    intro d k _ _
    rw [if_pos (show ([] : List Int).length ≤ k from Nat.zero_le _)]
    show (d, [], true) = ({ d with s := d.s, clocks := d.clocks + 0 }, [], true)
    rw [Int.add_zero]
  | cons x xs ih =>
    intro d k h0 hk
    cases k with
    | zero =>
      have hf : d.full = true := decide_eq_true (by omega)
      rw [if_neg (by simp)]
      simp only [Drv.run, hf, if_true]
      obtain ⟨s, o, c, m⟩ := d
      dsimp only at hk
      obtain rfl : c = m := by omega
      rfl
    | succ k =>
      have hf : d.full = false := decide_eq_false (by omega)
      simp only [Drv.run, hf, Bool.false_eq_true, if_false]
      rw [ih (d.clk x) k h0 (by show d.clocks + 1 + _ = d.most; omega), List.length_cons]
      by_cases hl : xs.length ≤ k
      · rw [if_pos hl, if_pos (by omega), runC_cons]
        show ((⟨_, _, d.clocks + 1 + _, _⟩ : Drv), _, _) = _
        rw [show d.clocks + 1 + (xs.length : Int) = d.clocks + ((xs.length + 1 : Nat) : Int) by omega]
        rfl
      · rw [if_neg hl, if_neg (by omega), List.take_succ_cons, runC_cons]
        rfl
/-- All of a phase's clocks. -/
def Ph.ins (p : Ph) : List Int := p.says ++ List.replicate ((8 / p.lanes).toNat * p.read.toNat) 15
def groups (l : Int) : Nat → List Int → List Int
  | 0, _ => []
  | n + 1, ys => inL l (ys.take (8 / l).toNat) :: groups l n (ys.drop (8 / l).toNat)
theorem groups_len (l : Int) (n : Nat) : ∀ ys, (groups l n ys).length = n := by
  induction n with
  | zero => intro ys; rfl
  | succ n ih => intro ys; rw [groups, List.length_cons, ih]
theorem gets_free (l : Int) (n : Nat) : ∀ d : Drv, d.most < 0 → d.gets l n = ({ d with s := (runC d.s (List.replicate ((8 / l).toNat * n) 15)).1, out := d.out ++ groups l n (runC d.s (List.replicate ((8 / l).toNat * n) 15)).2, clocks := d.clocks + (((8 / l).toNat * n : Nat) : Int) }, true) := by
  induction n with
  | zero =>
    intro d _
    show (d, true) = ({ d with s := (runC d.s (List.replicate 0 15)).1, out := d.out ++ [], clocks := d.clocks + 0 }, true)
    rw [Int.add_zero, List.append_nil]
    rfl
  | succ n ih =>
    intro d h
    have hg : d.get l = ({ d with s := (runC d.s (List.replicate (8 / l).toNat 15)).1, out := d.out ++ [inL l (runC d.s (List.replicate (8 / l).toNat 15)).2], clocks := d.clocks + (((8 / l).toNat : Nat) : Int) }, true) := by
      unfold Drv.get
      rw [run_free _ d h, List.length_replicate]
      rfl
    rw [Drv.gets, hg]
    simp only [if_true]
    have ih' := fun s o c => ih ⟨s, o, c, d.most⟩ h
    rw [ih']
    dsimp only
    have hsp : List.replicate ((8 / l).toNat * (n + 1)) (15 : Int) = List.replicate (8 / l).toNat 15 ++ List.replicate ((8 / l).toNat * n) 15 := by
      rw [List.replicate_append_replicate]; congr 1; rw [Nat.mul_succ]; omega
    have hlen : (runC d.s (List.replicate (8 / l).toNat 15)).2.length = (8 / l).toNat := by rw [runC_len, List.length_replicate]
    rw [hsp, runC_app, groups]
    dsimp only
    rw [List.take_append_of_le_length (by omega), List.take_of_length_le (by omega), List.drop_append_of_le_length (by omega), List.drop_of_length_le (by omega), List.nil_append, List.append_assoc]
    have e : d.clocks + (((8 / l).toNat : Nat) : Int) + (((8 / l).toNat * n : Nat) : Int) = d.clocks + (((8 / l).toNat * (n + 1) : Nat) : Int) := by rw [Nat.mul_succ]; omega
    rw [e]
    rfl
theorem phase_free (d : Drv) (p : Ph) (h : d.most < 0) : d.phase p = ({ d with s := (runC d.s p.ins).1, out := d.out ++ groups p.lanes p.read.toNat ((runC d.s p.ins).2.drop p.says.length), clocks := d.clocks + (p.ins.length : Int) }, true) := by
  unfold Drv.phase
  rw [run_free _ d h]
  simp only [if_true]
  have hg := fun s o c => gets_free p.lanes p.read.toNat ⟨s, o, c, d.most⟩ h
  rw [hg]
  unfold Ph.ins
  dsimp only
  rw [runC_app]
  dsimp only
  rw [List.drop_append_of_le_length (by rw [runC_len]; exact Nat.le_refl _), List.drop_of_length_le (by rw [runC_len]; exact Nat.le_refl _), List.nil_append, List.length_append, List.length_replicate]
  rw [show d.clocks + (p.says.length : Int) + (((8 / p.lanes).toNat * p.read.toNat : Nat) : Int) = d.clocks + ((p.says.length + (8 / p.lanes).toNat * p.read.toNat : Nat) : Int) by omega]
/-- All clocks of a row of phases; what is read of what is said. -/
def phsIns (ps : List Ph) : List Int := ps.flatMap Ph.ins
def phsOuts : List Ph → List Int → List Int
  | [], _ => []
  | p :: ps, ys => groups p.lanes p.read.toNat (ys.drop p.says.length) ++ phsOuts ps (ys.drop p.ins.length)
theorem groups_take (l : Int) (n : Nat) : ∀ (ys zs : List Int), (8 / l).toNat * n ≤ ys.length → groups l n (ys ++ zs) = groups l n ys := by
  induction n with
  | zero => intro ys zs _; rfl
  | succ n ih =>
    intro ys zs h
    rw [Nat.mul_succ] at h
    rw [groups, groups, List.take_append_of_le_length (by omega), List.drop_append_of_le_length (by omega), ih _ _ (by rw [List.length_drop]; omega)]
theorem phases_free (ps : List Ph) : ∀ d : Drv, d.most < 0 → d.phases ps = ({ d with s := (runC d.s (phsIns ps)).1, out := d.out ++ phsOuts ps (runC d.s (phsIns ps)).2, clocks := d.clocks + ((phsIns ps).length : Int) }, true) := by
  induction ps with
  | nil =>
    intro d _
    show (d, true) = ({ d with s := d.s, out := d.out ++ [], clocks := d.clocks + 0 }, true)
    rw [Int.add_zero, List.append_nil]
  | cons p ps ih =>
    intro d h
    have hl : (runC d.s p.ins).2.length = p.ins.length := runC_len _ _
    have hil : p.ins.length = p.says.length + (8 / p.lanes).toNat * p.read.toNat := by unfold Ph.ins; rw [List.length_append, List.length_replicate]
    rw [Drv.phases, phase_free d p h]
    simp only [if_true]
    have ih' := fun s o c => ih ⟨s, o, c, d.most⟩ h
    rw [ih', phsOuts]
    unfold phsIns
    rw [List.flatMap_cons, runC_app]
    dsimp only
    rw [List.drop_append_of_le_length (by omega), List.drop_append_of_le_length (by omega), List.drop_of_length_le (by omega : (runC d.s p.ins).2.length ≤ p.ins.length), List.nil_append, groups_take _ _ _ _ (by rw [List.length_drop]; omega), List.append_assoc, List.length_append]
    rw [show d.clocks + (p.ins.length : Int) + ((List.flatMap Ph.ins ps).length : Int) = d.clocks + ((p.ins.length + (List.flatMap Ph.ins ps).length : Nat) : Int) by omega]
/-- How many clocks a row takes. -/
theorem ins_len {p : Ph} (h : p.may = true) : (p.ins.length : Int) = p.many := by
  obtain ⟨la, bs, cl, rd⟩ := p
  rcases may_facts h with ⟨hla | hla, hcl, hbl, hr0, hr1, hby⟩ | ⟨hla, hbs, hrd, hc0, hc1⟩
  · dsimp only at hla hcl hr0 hr1
    subst hla
    subst hcl
    unfold Ph.ins Ph.says
    rw [List.length_append, List.length_append, List.length_replicate, List.length_replicate, flat_len bs 1 8 (fun _ _ => rfl), many1]
    show ((bs.length * 8 + 0 + 8 * rd.toNat : Nat) : Int) = _
    omega
  · dsimp only at hla hcl hr0 hr1
    subst hla
    subst hcl
    unfold Ph.ins Ph.says
    rw [List.length_append, List.length_append, List.length_replicate, List.length_replicate, flat_len bs 4 2 (fun _ _ => rfl), many4]
    show ((bs.length * 2 + 0 + 2 * rd.toNat : Nat) : Int) = _
    omega
  · dsimp only at hla hbs hrd hc0 hc1
    subst hla
    subst hbs
    subst hrd
    rw [many0]
    show ((([] : List Int) ++ List.replicate cl.toNat 15 ++ List.replicate 0 15).length : Int) = cl
    simp
    omega
theorem phsMany_cons (p : Ph) (ps : List Ph) : phsMany (p :: ps) = p.many + phsMany ps := by
  have key : ∀ (ps : List Ph) (k : Int), ps.foldl (fun k p => k + p.many) k = k + phsMany ps := by
    intro ps
    unfold phsMany
    induction ps with
    | nil => intro k; simp
    | cons p ps ih => intro k; rw [List.foldl_cons, ih, List.foldl_cons, ih (0 + p.many)]; omega
  show (p :: ps).foldl (fun k p => k + p.many) 0 = _
  rw [List.foldl_cons, key]; omega
theorem phsIns_len (ps : List Ph) (h : ps.all Ph.may = true) : ((phsIns ps).length : Int) = phsMany ps := by
  induction ps with
  | nil => rfl
  | cons p ps ih =>
    rw [List.all_cons, Bool.and_eq_true] at h
    rw [phsMany_cons, ← ins_len h.1, ← ih h.2]
    unfold phsIns
    rw [List.flatMap_cons, List.length_append]
    omega
end Go.Proofs.YteombggfmeilaaaGreat
namespace Go.Proofs.YteombggfmeilaaaGreat
open Go.RowKit
/-- What a chip is between commands. -/
structure Cor where
  a : ByteArray
  prot : Bool
  quad : Bool
  en : Bool
  goes : Bool
  job : Option Job
  busy : List Int
  wipes : Nat → Int
def St.cor (t : St) : Cor := ⟨t.a, t.prot, t.quad, t.en, t.goes, t.job, t.busy, t.wipes⟩
/-- A chip that is not selected, and what it is. -/
structure At (c : Cor) (t : St) : Prop where
  cor : t.cor = c
  sel : t.sel = false
def Cor.new (a : ByteArray) : Cor := ⟨a, false, false, false, false, none, [], fun _ => 0⟩
theorem at_new (a : ByteArray) : At (Cor.new a) (St.new a) := ⟨rfl, rfl⟩
theorem At.a {c : Cor} {t : St} (h : At c t) : t.a = c.a := congrArg Cor.a h.cor
theorem At.goes {c : Cor} {t : St} (h : At c t) : t.goes = c.goes := congrArg Cor.goes h.cor
theorem At.job {c : Cor} {t : St} (h : At c t) : t.job = c.job := congrArg Cor.job h.cor
theorem At.quad {c : Cor} {t : St} (h : At c t) : t.quad = c.quad := congrArg Cor.quad h.cor
theorem At.en {c : Cor} {t : St} (h : At c t) : t.en = c.en := congrArg Cor.en h.cor
theorem At.prot {c : Cor} {t : St} (h : At c t) : t.prot = c.prot := congrArg Cor.prot h.cor
theorem At.busy {c : Cor} {t : St} (h : At c t) : t.busy = c.busy := congrArg Cor.busy h.cor
theorem At.wipes {c : Cor} {t : St} (h : At c t) : t.wipes = c.wipes := congrArg Cor.wipes h.cor
/-- But for what it tells just now. -/
def Tel (s t : St) : Prop := t = { s with now := t.now, left := t.left, told := t.told, tabled := t.tabled }
theorem Tel.refl (s : St) : Tel s s := rfl
theorem Tel.trans {s t u : St} (h : Tel s t) (k : Tel t u) : Tel s u := by
  unfold Tel at h k ⊢
  rw [k, h]
theorem says_tel (s : St) : Tel s s.says.1 := by
  have h1 : Tel s s.says1 := by
    unfold St.says1 Tel
    split <;> rfl
  unfold St.says
  dsimp only
  split
  · exact h1.trans rfl
  · exact h1.trans rfl
theorem clock_tel {s : St} (hj : s.job = none) (hs : s.sel = true) (h6 : s.stage = 6) (x : Int) : Tel s (s.clock x).1 := by
  have hc : s.clock x = s.says := by
    unfold St.clock
    rw [pass_none hj]
    dsimp only
    rw [if_pos hs]
    unfold St.clockIn
    rw [if_neg (by omega), if_neg (by omega), if_neg (by omega), if_neg (by omega), if_neg (by omega), if_pos h6]
  rw [hc]
  exact says_tel s
theorem runC_tel (xs : List Int) : ∀ {s : St}, s.job = none → s.sel = true → s.stage = 6 → Tel s (runC s xs).1 := by
  induction xs with
  | nil => intro s _ _ _; exact Tel.refl s
  | cons x xs ih =>
    intro s hj hs h6
    have h := clock_tel hj hs h6 x
    have h' := h
    unfold Tel at h'
    rw [runC_cons]
    exact h.trans (ih (by rw [h']; exact hj) (by rw [h']; exact hs) (by rw [h']; exact h6))
theorem inL_tell (v : Int) (hv : 0 ≤ v ∧ v ≤ 255) : inL 1 (tellL v) = v := by
  have hb : ∀ k : Int, (13 + 2 * (v / k % 2)) / 2 % 2 = v / k % 2 := by
    intro k
    generalize v / k = q
    omega
  show (((((((0 * 2 + (13 + 2 * (v / 128 % 2)) / 2 % 2) * 2 + (13 + 2 * (v / 64 % 2)) / 2 % 2) * 2 + (13 + 2 * (v / 32 % 2)) / 2 % 2) * 2 + (13 + 2 * (v / 16 % 2)) / 2 % 2) * 2 + (13 + 2 * (v / 8 % 2)) / 2 % 2) * 2 + (13 + 2 * (v / 4 % 2)) / 2 % 2) * 2 + (13 + 2 * (v / 2 % 2)) / 2 % 2) * 2 + (13 + 2 * (v / 1 % 2)) / 2 % 2 = v
  rw [hb, hb, hb, hb, hb, hb, hb, hb]
  have e7 : 0 * 2 + v / 128 % 2 = v / 128 := by omega
  rw [e7, show v / 128 * 2 + v / 64 % 2 = v / 64 by omega, show v / 64 * 2 + v / 32 % 2 = v / 32 by omega, show v / 32 * 2 + v / 16 % 2 = v / 16 by omega, show v / 16 * 2 + v / 8 % 2 = v / 8 by omega, show v / 8 * 2 + v / 4 % 2 = v / 4 by omega, show v / 4 * 2 + v / 2 % 2 = v / 2 by omega]
  omega
theorem groups_tell (m : Nat) : ∀ (f : Nat → Int), (∀ i, 0 ≤ f i ∧ f i ≤ 255) → groups 1 m ((List.range m).flatMap fun i => tellL (f i)) = (List.range m).map f := by
  induction m with
  | zero => intro f _; rfl
  | succ m ih =>
    intro f hf
    have h8 : ((8 : Int) / 1).toNat = 8 := rfl
    have hl : (tellL (f 0)).length = 8 := rfl
    rw [List.range_succ_eq_map, List.flatMap_cons, List.flatMap_map, groups, h8, List.take_append_of_le_length (by omega), List.take_of_length_le (by omega), List.drop_append_of_le_length (by omega), List.drop_of_length_le (by omega), List.nil_append, inL_tell _ (hf 0), ih (fun i => f (Nat.succ i)) (fun i => hf _), List.map_cons, List.map_map]
    rfl
theorem says_nil (l n : Int) : Ph.says ⟨l, [], 0, n⟩ = [] := rfl
theorem ins_bytes1 (bs : List Int) : Ph.ins ⟨1, bs, 0, 0⟩ = wordL bs := by
  unfold Ph.ins Ph.says
  show bs.flatMap (fun b => outsL b 1) ++ List.replicate 0 15 ++ List.replicate 0 15 = _
  rw [List.replicate_zero, List.append_nil, List.append_nil]
  rfl
theorem ins_read1 (m : Nat) : Ph.ins ⟨1, [], 0, m⟩ = List.replicate (8 * m) 15 := by
  unfold Ph.ins
  rw [says_nil, List.nil_append]
  show List.replicate (8 * ((m : Int)).toNat) 15 = _
  rw [Int.toNat_natCast]
/-- The phases of a read on one lane. -/
def readPh (k : Int) (m : Nat) : List Ph := [⟨1, [3, 0, k / 256, k % 256], 0, 0⟩, ⟨1, [], 0, m⟩]
theorem read1_all {c : Cor} {t : St} (h : At c t) (hg : c.goes = false) (hj : c.job = none) (k : Int) (hk : 0 ≤ k ∧ k < 4096) (m : Nat) :
    ∃ d : Drv, Drv.phases ⟨t.select, [], 0, -1⟩ (readPh k m) = (d, true) ∧ d.clocks = 32 + 8 * (m : Int) ∧ d.out = (List.range m).map (fun (i : Nat) => byteOf c.a ((k + (i : Int)) % 4096).toNat) ∧ At c d.s.deselect ∧ d.s.sel = true := by
  have htg := h.goes.trans hg
  have htj := h.job.trans hj
  have hins : phsIns (readPh k m) = wordL [3, 0, k / 256, k % 256] ++ List.replicate (8 * m) 15 := by
    unfold phsIns readPh
    rw [List.flatMap_cons, List.flatMap_cons, List.flatMap_nil, ins_bytes1, ins_read1, List.append_nil]
  have hf := phases_free (readPh k m) ⟨t.select, [], 0, -1⟩ (show (-1 : Int) < 0 by decide)
  dsimp only at hf
  rw [hins, runC_app, hd3 t htg htj k] at hf
  dsimp only at hf
  have htells := tells m (s := t.hd 3 (addrOf k)) htj rfl rfl rfl rfl
  have htel := runC_tel (List.replicate (8 * m) 15) (s := t.hd 3 (addrOf k)) htj rfl rfl
  rw [htells] at hf
  have houts : phsOuts (readPh k m) (List.replicate 32 15 ++ (List.range m).flatMap fun (i : Nat) => tellL ((t.hd 3 (addrOf k)).byteAt ((t.hd 3 (addrOf k)).told + (i : Int)))) = (List.range m).map (fun (i : Nat) => byteOf c.a ((k + (i : Int)) % 4096).toNat) := by
    unfold readPh
    rw [phsOuts, phsOuts, phsOuts, ins_bytes1, says_nil, List.append_nil]
    show [] ++ groups 1 ((m : Int)).toNat (List.drop 0 (List.drop (wordL [3, 0, k / 256, k % 256]).length _)) = _
    rw [Int.toNat_natCast, List.nil_append, List.drop_zero, show (wordL [3, 0, k / 256, k % 256]).length = 32 from rfl, List.drop_append_of_le_length (by rw [List.length_replicate]; exact Nat.le_refl _), List.drop_of_length_le (by rw [List.length_replicate]; exact Nat.le_refl _), List.nil_append]
    have hby : ∀ i : Nat, (t.hd 3 (addrOf k)).byteAt ((t.hd 3 (addrOf k)).told + (i : Int)) = byteOf c.a ((k + (i : Int)) % 4096).toNat := by
      intro i
      rw [byteAt_3 rfl, ← h.a]
      show byteOf t.a ((addrOf k + (0 + (i : Int))) % 4096).toNat = _
      rw [addrOf_eq k hk, Int.zero_add]
    simp only [hby]
    exact groups_tell m _ (fun i => byteOf_bd _ _)
  refine ⟨_, hf, ?_, ?_, ?_, ?_⟩
  · dsimp only
    rw [List.length_append, List.length_replicate, show (wordL [3, 0, k / 256, k % 256]).length = 32 from rfl]
    omega
  · dsimp only
    rw [List.nil_append]
    exact houts
  · dsimp only
    unfold Tel at htel
    generalize (runC (t.hd 3 (addrOf k)) (List.replicate (8 * m) 15)).1 = u at htel
    obtain ⟨ua, uprot, uquad, uwipes, utabled, usel, uen, ugoes, ujob, ubusy, uop, ustage, uleft, ugot, uaddr, umode, umoded, udata, utold, unow, ubeyond⟩ := u
    obtain ⟨hcor, -⟩ := h
    rw [htel]
    refine ⟨?_, by kernel_rfl⟩
    rw [← hcor]
    kernel_rfl
  · dsimp only
    unfold Tel at htel
    rw [htel]
    rfl
/-- A read with no command ahead of it. -/
theorem read0_all {c : Cor} {t : St} (h : At c t) (hg : c.goes = false) (hj : c.job = none) (m : Nat) (hm : 1 ≤ m) :
    ∃ d : Drv, Drv.phases ⟨t.select, [], 0, -1⟩ [⟨1, [], 0, m⟩] = (d, true) ∧ d.clocks = 8 * (m : Int) ∧ d.out = List.replicate m 255 ∧ d.s.sel = true := by
  have htg := h.goes.trans hg
  have htj := h.job.trans hj
  have hins : phsIns [⟨1, [], 0, (m : Int)⟩] = byteBits 255 ++ List.replicate (8 * (m - 1)) 15 := by
    unfold phsIns
    rw [List.flatMap_cons, List.flatMap_nil, ins_read1, List.append_nil, show byteBits 255 = List.replicate 8 15 from by decide, List.replicate_append_replicate]
    congr 1
    omega
  have hf := phases_free [⟨1, [], 0, (m : Int)⟩] ⟨t.select, [], 0, -1⟩ (show (-1 : Int) < 0 by decide)
  dsimp only at hf
  have hw : t.works = false := by unfold St.works; rw [htj]
  have hsj : t.select.works = false := by
    unfold St.works St.select
    dsimp only
    rw [htg]
    show (match t.job with | some j => !j.susp | none => false) = false
    rw [htj]
  rw [hins, runC_still _ t.select hsj (select_sel t), runI_app] at hf
  have hsel : t.select.stage = 0 ∧ t.select.left = 8 ∧ t.select.got = 0 := by
    unfold St.select
    rw [htg]
    exact ⟨rfl, rfl, rfl⟩
  rw [runI_byte t.select hsel.1 hsel.2.1 hsel.2.2 255] at hf
  dsimp only at hf
  have hbn := begins_not ({ t.select with left := 0, got := byteIn 255 } : St) (byteIn 255) (by
    rw [show byteIn 255 = 255 from by decide]
    unfold St.known
    rw [show opIs 255 = false from by decide]
    rfl)
  rw [hbn] at hf
  have hone := runI_1 (List.replicate (8 * (m - 1)) 15) (({ ({ t.select with left := 0, got := byteIn 255 } : St) with op := opOf (byteIn 255) } : St).enter 1 0) rfl
  rw [hone] at hf
  dsimp only at hf
  refine ⟨_, hf, ?_, ?_, ?_⟩
  · dsimp only
    rw [List.length_append, List.length_replicate, show (byteBits 255).length = 8 from rfl]
    omega
  · dsimp only
    rw [List.nil_append, List.length_replicate, List.replicate_append_replicate, show 8 + 8 * (m - 1) = 8 * m by omega, phsOuts, phsOuts, says_nil, List.append_nil, List.length_nil, List.drop_zero]
    show groups 1 ((m : Int)).toNat _ = _
    rw [Int.toNat_natCast]
    clear hf hins hone hbn hm
    induction m with
    | zero => rfl
    | succ m ih =>
      rw [groups, show ((8 : Int) / 1).toNat = 8 from rfl, show 8 * (m + 1) = 8 + 8 * m by omega, ← List.replicate_append_replicate, List.take_append_of_le_length (by simp), List.take_of_length_le (by simp), List.drop_append_of_le_length (by simp), List.drop_of_length_le (by simp), List.nil_append, ih, show inL 1 (List.replicate 8 15) = 255 from by decide, List.replicate_succ]
  · dsimp only
    show ((t.select).sel) = true
    exact select_sel t
end Go.Proofs.YteombggfmeilaaaGreat
