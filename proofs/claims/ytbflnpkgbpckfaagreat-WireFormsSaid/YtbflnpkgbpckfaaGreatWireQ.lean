/- A drive with no bound, and one with one, in plain. -/
import Derived.Test.YtbflnpkgbpckfaaGreatWireI
import Derived.Test.YtbflnpkgbpckfaaGreatPureB
namespace Go.Proofs.YtbflnpkgbpckfaaGreat
open Go.RowKit
theorem run_free (xs : List Int) : ∀ d : Drv, d.most < 0 → d.run xs = ({ d with s := (runC d.s xs).1, clocks := d.clocks + (xs.length : Int) }, (runC d.s xs).2, true) := by
  induction xs with
  | nil =>
    intro d _
    show (d, [], true) = ({ d with s := d.s, clocks := d.clocks + 0 }, [], true)
    rw [Int.add_zero]
  | cons x xs ih =>
    intro d h
    have hf : d.full = false := decide_eq_false (by omega)
    simp only [Drv.run, hf, Bool.false_eq_true, if_false]
    rw [ih (d.clk x) h, runC_cons, List.length_cons]
    show ((⟨_, _, d.clocks + 1 + _, _⟩ : Drv), _, _) = _
    rw [show d.clocks + 1 + (xs.length : Int) = d.clocks + ((xs.length + 1 : Nat) : Int) by omega]
    rfl
theorem run_cut (xs : List Int) : ∀ (d : Drv) (k : Nat), 0 ≤ d.most → d.clocks + (k : Int) = d.most → d.run xs = if xs.length ≤ k then ({ d with s := (runC d.s xs).1, clocks := d.clocks + (xs.length : Int) }, (runC d.s xs).2, true) else ({ d with s := (runC d.s (xs.take k)).1, clocks := d.most }, (runC d.s (xs.take k)).2, false) := by
  induction xs with
  | nil =>
    intro d k _ _
    rw [if_pos (show ([] : List Int).length ≤ k from Nat.zero_le _)]
    show (d, [], true) = ({ d with s := d.s, clocks := d.clocks + 0 }, [], true)
    rw [Int.add_zero]
  | cons x xs ih =>
    intro d k h0 hk
    cases k with
    | zero =>
      have hf : d.full = true := decide_eq_true (by omega)
      rw [if_neg (by simp)]
      simp only [Drv.run, hf, if_true]
      obtain ⟨s, o, c, m⟩ := d
      dsimp only at hk
      obtain rfl : c = m := by omega
      rfl
    | succ k =>
      have hf : d.full = false := decide_eq_false (by omega)
      simp only [Drv.run, hf, Bool.false_eq_true, if_false]
      rw [ih (d.clk x) k h0 (by show d.clocks + 1 + _ = d.most; omega), List.length_cons]
      by_cases hl : xs.length ≤ k
      · rw [if_pos hl, if_pos (by omega), runC_cons]
        show ((⟨_, _, d.clocks + 1 + _, _⟩ : Drv), _, _) = _
        rw [show d.clocks + 1 + (xs.length : Int) = d.clocks + ((xs.length + 1 : Nat) : Int) by omega]
        rfl
      · rw [if_neg hl, if_neg (by omega), List.take_succ_cons, runC_cons]
        rfl
/-- All of a phase's clocks. -/
def Ph.ins (p : Ph) : List Int := p.says ++ List.replicate ((8 / p.lanes).toNat * p.read.toNat) 15
def groups (l : Int) : Nat → List Int → List Int
  | 0, _ => []
  | n + 1, ys => inL l (ys.take (8 / l).toNat) :: groups l n (ys.drop (8 / l).toNat)
theorem groups_len (l : Int) (n : Nat) : ∀ ys, (groups l n ys).length = n := by
  induction n with
  | zero => intro ys; rfl
  | succ n ih => intro ys; rw [groups, List.length_cons, ih]
theorem gets_free (l : Int) (n : Nat) : ∀ d : Drv, d.most < 0 → d.gets l n = ({ d with s := (runC d.s (List.replicate ((8 / l).toNat * n) 15)).1, out := d.out ++ groups l n (runC d.s (List.replicate ((8 / l).toNat * n) 15)).2, clocks := d.clocks + (((8 / l).toNat * n : Nat) : Int) }, true) := by
  induction n with
  | zero =>
    intro d _
    show (d, true) = ({ d with s := (runC d.s (List.replicate 0 15)).1, out := d.out ++ [], clocks := d.clocks + 0 }, true)
    rw [Int.add_zero, List.append_nil]
    rfl
  | succ n ih =>
    intro d h
    have hg : d.get l = ({ d with s := (runC d.s (List.replicate (8 / l).toNat 15)).1, out := d.out ++ [inL l (runC d.s (List.replicate (8 / l).toNat 15)).2], clocks := d.clocks + (((8 / l).toNat : Nat) : Int) }, true) := by
      unfold Drv.get
      rw [run_free _ d h, List.length_replicate]
      rfl
    rw [Drv.gets, hg]
    simp only [if_true]
    have ih' := fun s o c => ih ⟨s, o, c, d.most⟩ h
    rw [ih']
    dsimp only
    have hsp : List.replicate ((8 / l).toNat * (n + 1)) (15 : Int) = List.replicate (8 / l).toNat 15 ++ List.replicate ((8 / l).toNat * n) 15 := by
      rw [List.replicate_append_replicate]; congr 1; rw [Nat.mul_succ]; omega
    have hlen : (runC d.s (List.replicate (8 / l).toNat 15)).2.length = (8 / l).toNat := by rw [runC_len, List.length_replicate]
    rw [hsp, runC_app, groups]
    dsimp only
    rw [List.take_append_of_le_length (by omega), List.take_of_length_le (by omega), List.drop_append_of_le_length (by omega), List.drop_of_length_le (by omega), List.nil_append, List.append_assoc]
    have e : d.clocks + (((8 / l).toNat : Nat) : Int) + (((8 / l).toNat * n : Nat) : Int) = d.clocks + (((8 / l).toNat * (n + 1) : Nat) : Int) := by rw [Nat.mul_succ]; omega
    rw [e]
    rfl
theorem phase_free (d : Drv) (p : Ph) (h : d.most < 0) : d.phase p = ({ d with s := (runC d.s p.ins).1, out := d.out ++ groups p.lanes p.read.toNat ((runC d.s p.ins).2.drop p.says.length), clocks := d.clocks + (p.ins.length : Int) }, true) := by
  unfold Drv.phase
  rw [run_free _ d h]
  simp only [if_true]
  have hg := fun s o c => gets_free p.lanes p.read.toNat ⟨s, o, c, d.most⟩ h
  rw [hg]
  unfold Ph.ins
  dsimp only
  rw [runC_app]
  dsimp only
  rw [List.drop_append_of_le_length (by rw [runC_len]; exact Nat.le_refl _), List.drop_of_length_le (by rw [runC_len]; exact Nat.le_refl _), List.nil_append, List.length_append, List.length_replicate]
  rw [show d.clocks + (p.says.length : Int) + (((8 / p.lanes).toNat * p.read.toNat : Nat) : Int) = d.clocks + ((p.says.length + (8 / p.lanes).toNat * p.read.toNat : Nat) : Int) by omega]
/-- All clocks of a row of phases; what is read of what is said. -/
def phsIns (ps : List Ph) : List Int := ps.flatMap Ph.ins
def phsOuts : List Ph → List Int → List Int
  | [], _ => []
  | p :: ps, ys => groups p.lanes p.read.toNat (ys.drop p.says.length) ++ phsOuts ps (ys.drop p.ins.length)
theorem groups_take (l : Int) (n : Nat) : ∀ (ys zs : List Int), (8 / l).toNat * n ≤ ys.length → groups l n (ys ++ zs) = groups l n ys := by
  induction n with
  | zero => intro ys zs _; rfl
  | succ n ih =>
    intro ys zs h
    rw [Nat.mul_succ] at h
    rw [groups, groups, List.take_append_of_le_length (by omega), List.drop_append_of_le_length (by omega), ih _ _ (by rw [List.length_drop]; omega)]
theorem phases_free (ps : List Ph) : ∀ d : Drv, d.most < 0 → d.phases ps = ({ d with s := (runC d.s (phsIns ps)).1, out := d.out ++ phsOuts ps (runC d.s (phsIns ps)).2, clocks := d.clocks + ((phsIns ps).length : Int) }, true) := by
  induction ps with
  | nil =>
    intro d _
    show (d, true) = ({ d with s := d.s, out := d.out ++ [], clocks := d.clocks + 0 }, true)
    rw [Int.add_zero, List.append_nil]
  | cons p ps ih =>
    intro d h
    have hl : (runC d.s p.ins).2.length = p.ins.length := runC_len _ _
    have hil : p.ins.length = p.says.length + (8 / p.lanes).toNat * p.read.toNat := by unfold Ph.ins; rw [List.length_append, List.length_replicate]
    rw [Drv.phases, phase_free d p h]
    simp only [if_true]
    have ih' := fun s o c => ih ⟨s, o, c, d.most⟩ h
    rw [ih', phsOuts]
    unfold phsIns
    rw [List.flatMap_cons, runC_app]
    dsimp only
    rw [List.drop_append_of_le_length (by omega), List.drop_append_of_le_length (by omega), List.drop_of_length_le (by omega : (runC d.s p.ins).2.length ≤ p.ins.length), List.nil_append, groups_take _ _ _ _ (by rw [List.length_drop]; omega), List.append_assoc, List.length_append]
    rw [show d.clocks + (p.ins.length : Int) + ((List.flatMap Ph.ins ps).length : Int) = d.clocks + ((p.ins.length + (List.flatMap Ph.ins ps).length : Nat) : Int) by omega]
/-- How many clocks a row takes. -/
theorem ins_len {p : Ph} (h : p.may = true) : (p.ins.length : Int) = p.many := by
  obtain ⟨la, bs, cl, rd⟩ := p
  rcases may_facts h with ⟨hla | hla, hcl, hbl, hr0, hr1, hby⟩ | ⟨hla, hbs, hrd, hc0, hc1⟩
  · dsimp only at hla hcl hr0 hr1
    subst hla
    subst hcl
    unfold Ph.ins Ph.says
    rw [List.length_append, List.length_append, List.length_replicate, List.length_replicate, flat_len bs 1 8 (fun _ _ => rfl), many1]
    show ((bs.length * 8 + 0 + 8 * rd.toNat : Nat) : Int) = _
    omega
  · dsimp only at hla hcl hr0 hr1
    subst hla
    subst hcl
    unfold Ph.ins Ph.says
    rw [List.length_append, List.length_append, List.length_replicate, List.length_replicate, flat_len bs 4 2 (fun _ _ => rfl), many4]
    show ((bs.length * 2 + 0 + 2 * rd.toNat : Nat) : Int) = _
    omega
  · dsimp only at hla hbs hrd hc0 hc1
    subst hla
    subst hbs
    subst hrd
    rw [many0]
    show ((([] : List Int) ++ List.replicate cl.toNat 15 ++ List.replicate 0 15).length : Int) = cl
    simp
    omega
theorem phsMany_cons (p : Ph) (ps : List Ph) : phsMany (p :: ps) = p.many + phsMany ps := by
  have key : ∀ (ps : List Ph) (k : Int), ps.foldl (fun k p => k + p.many) k = k + phsMany ps := by
    intro ps
    unfold phsMany
    induction ps with
    | nil => intro k; simp
    | cons p ps ih => intro k; rw [List.foldl_cons, ih, List.foldl_cons, ih (0 + p.many)]; omega
  show (p :: ps).foldl (fun k p => k + p.many) 0 = _
  rw [List.foldl_cons, key]; omega
theorem phsIns_len (ps : List Ph) (h : ps.all Ph.may = true) : ((phsIns ps).length : Int) = phsMany ps := by
  induction ps with
  | nil => rfl
  | cons p ps ih =>
    rw [List.all_cons, Bool.and_eq_true] at h
    rw [phsMany_cons, ← ins_len h.1, ← ih h.2]
    unfold phsIns
    rw [List.flatMap_cons, List.length_append]
    omega
end Go.Proofs.YtbflnpkgbpckfaaGreat
