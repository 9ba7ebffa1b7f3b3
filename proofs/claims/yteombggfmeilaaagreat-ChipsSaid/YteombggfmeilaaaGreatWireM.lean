/- A byte's bits, a word of bytes. · Phases, and a chip that is driven: in plain. -/
import Derived.Test.YteombggfmeilaaaGreatBase
import Derived.Test.YteombggfmeilaaaGreatChipM
namespace Go.Proofs.YteombggfmeilaaaGreat
open Go.RowKit
def byteBits (b : Int) : List Int := [14 + b / 128 % 2, 14 + b / 64 % 2, 14 + b / 32 % 2, 14 + b / 16 % 2, 14 + b / 8 % 2, 14 + b / 4 % 2, 14 + b / 2 % 2, 14 + b % 2]
def wordL (bs : List Int) : List Int := bs.flatMap byteBits
theorem byteBits_len (x : Int) : (byteBits x).length = 8 := rfl
theorem wordL_len (l : List Int) : (wordL l).length = 8 * l.length := by
  induction l with
  | nil => rfl
  | cons x l ih => unfold wordL at ih ⊢; rw [List.flatMap_cons, List.length_append, ih, byteBits_len, List.length_cons]; omega
end Go.Proofs.YteombggfmeilaaaGreat
namespace Go.Proofs.YteombggfmeilaaaGreat
open Go.RowKit
structure Ph where
  lanes : Int
  bytes : List Int
  clocks : Int
  read : Int
def lanesB (n : Int) : Bool := decide (n = 1 ∨ n = 4)
def byteB (b : Int) : Bool := decide (0 ≤ b ∧ b < 256)
def Ph.may (p : Ph) : Bool :=
  if p.bytes ≠ [] then lanesB p.lanes && decide (p.bytes.length ≤ 512) && p.bytes.all byteB && decide (p.clocks = 0) && decide (p.read = 0)
  else if p.read ≠ 0 then lanesB p.lanes && decide (1 ≤ p.read ∧ p.read ≤ 512) && decide (p.clocks = 0)
  else decide (p.lanes = 0) && decide (1 ≤ p.clocks ∧ p.clocks ≤ 400)
def Ph.many (p : Ph) : Int := p.clocks + if 0 < p.lanes then ((p.bytes.length : Int) + p.read) * (8 / p.lanes) else 0
def phsMany (ps : List Ph) : Int := ps.foldl (fun k p => k + p.many) 0
/-- A byte's clocks as the driver puts them. -/
def outsL (b lanes : Int) : List Int := if lanes = 1 then byteBits b else [b / 16 % 16, b % 16]
/-- A chip that is driven: its state, what was read, how many clocks there were, may be. -/
structure Drv where
  s : St
  out : List Int
  clocks : Int
  most : Int
def Drv.full (d : Drv) : Bool := decide (0 ≤ d.most ∧ d.most ≤ d.clocks)
/-- One clock. -/
def Drv.clk (d : Drv) (x : Int) : Drv := { d with s := (d.s.clock x).1, clocks := d.clocks + 1 }
/-- Clocks; what was said at each; were there so many? -/
def Drv.run (d : Drv) : List Int → Drv × List Int × Bool
  | [] => (d, [], true)
  | x :: xs => if d.full then (d, [], false) else (((d.clk x).run xs).1, (d.s.clock x).2 :: ((d.clk x).run xs).2.1, ((d.clk x).run xs).2.2)
theorem run_app (xs : List Int) : ∀ (d : Drv) (ys : List Int), d.run (xs ++ ys) = if (d.run xs).2.2 then (((d.run xs).1.run ys).1, (d.run xs).2.1 ++ ((d.run xs).1.run ys).2.1, ((d.run xs).1.run ys).2.2) else d.run xs := by
  induction xs with
  | nil => intro d ys; simp [Drv.run]
  | cons x xs ih =>
    intro d ys
    simp only [List.cons_append, Drv.run]
    by_cases hf : d.full = true
    · simp [hf]
    · simp only [hf, Bool.false_eq_true, if_false, ih]
      by_cases h : ((d.clk x).run xs).2.2 = true <;> simp [h]
/-- A byte out of its clocks. -/
def inL (lanes : Int) (ys : List Int) : Int := if lanes = 1 then ys.foldl (fun b y => b * 2 + y / 2 % 2) 0 else ys.foldl (fun b y => b * 16 + y) 0
def Drv.get (d : Drv) (lanes : Int) : Drv × Bool :=
  if (d.run (List.replicate (8 / lanes).toNat 15)).2.2 then
    ({ (d.run (List.replicate (8 / lanes).toNat 15)).1 with out := d.out ++ [inL lanes (d.run (List.replicate (8 / lanes).toNat 15)).2.1] }, true)
  else ((d.run (List.replicate (8 / lanes).toNat 15)).1, false)
def Drv.gets (d : Drv) (lanes : Int) : Nat → Drv × Bool
  | 0 => (d, true)
  | n + 1 => if (d.get lanes).2 then (d.get lanes).1.gets lanes n else ((d.get lanes).1, false)
/-- What a phase says to the chip, ahead of what is read. -/
def Ph.says (p : Ph) : List Int := p.bytes.flatMap (fun b => outsL b p.lanes) ++ List.replicate p.clocks.toNat 15
/-- A phase is driven; were there clocks enough? -/
def Drv.phase (d : Drv) (p : Ph) : Drv × Bool :=
  if (d.run p.says).2.2 then (d.run p.says).1.gets p.lanes p.read.toNat else ((d.run p.says).1, false)
def Drv.phases (d : Drv) : List Ph → Drv × Bool
  | [] => (d, true)
  | p :: ps => if (d.phase p).2 then (d.phase p).1.phases ps else ((d.phase p).1, false)
theorem gets_snoc (l : Int) (n : Nat) : ∀ d : Drv, d.gets l (n + 1) = if (d.gets l n).2 then (d.gets l n).1.get l else d.gets l n := by
  induction n with
  | zero => intro d; simp [Drv.gets]; cases h : (d.get l).2 <;> simp [← h]
  | succ n ih =>
    intro d
    rw [Drv.gets, show d.gets l (n + 1) = if (d.get l).2 then (d.get l).1.gets l n else ((d.get l).1, false) from rfl]
    by_cases h : (d.get l).2 = true
    · simp only [h, if_true]; rw [ih]
    · simp [h]
theorem gets_fail (l : Int) (d : Drv) (i : Nat) (h : (d.gets l i).2 = false) : ∀ k, d.gets l (i + k) = d.gets l i := by
  intro k
  induction k with
  | zero => rfl
  | succ k ih => rw [← Nat.add_assoc, gets_snoc, ih, h]; simp
theorem phases_app (ps : List Ph) : ∀ (d : Drv) (qs : List Ph), d.phases (ps ++ qs) = if (d.phases ps).2 then (d.phases ps).1.phases qs else d.phases ps := by
  induction ps with
  | nil => intro d qs; simp [Drv.phases]
  | cons p ps ih =>
    intro d qs
    simp only [List.cons_append, Drv.phases]
    by_cases h : (d.phase p).2 = true
    · simp only [h, if_true]; rw [ih]
    · simp [h]
/-- What stands at all times: what was read before, the bound; the clocks go up. -/
theorem run_keep (xs : List Int) : ∀ d : Drv, (d.run xs).1.out = d.out ∧ (d.run xs).1.most = d.most ∧ (d.run xs).1.clocks = d.clocks + ((d.run xs).2.1.length : Int) ∧ ((d.run xs).2.2 = true → (d.run xs).2.1.length = xs.length) ∧ (d.run xs).2.1.length ≤ xs.length := by
  induction xs with
  | nil => intro d; simp [Drv.run]
  | cons x xs ih =>
    intro d
    obtain ⟨h1, h2, h3, h4, h5⟩ := ih (d.clk x)
    simp only [Drv.run]
    by_cases hf : d.full = true
    · simp [hf]
    · simp only [hf, Bool.false_eq_true, if_false, List.length_cons]
      refine ⟨h1, h2, ?_, fun h => by rw [h4 h], by omega⟩
      rw [h3]
      show d.clocks + 1 + _ = _
      omega
/-- Where it stands behind so many clocks that were there. -/
theorem run_take (d : Drv) (xs : List Int) (i : Nat) (hi : i < xs.length) (h : (d.run (xs.take i)).2.2 = true) :
    ((d.run (xs.take i)).1.full = true → d.run xs = ((d.run (xs.take i)).1, (d.run (xs.take i)).2.1, false)) ∧
    ((d.run (xs.take i)).1.full = false → d.run (xs.take (i + 1)) = ((d.run (xs.take i)).1.clk (xs.getD i 0), (d.run (xs.take i)).2.1 ++ [((d.run (xs.take i)).1.s.clock (xs.getD i 0)).2], true)) := by
  have e1 : xs.take (i + 1) = xs.take i ++ [xs.getD i 0] := by
    rw [List.take_add_one]
    simp [List.getD_eq_getElem?_getD, List.getElem?_eq_getElem hi]
  have e2 : xs = xs.take i ++ (xs.getD i 0 :: xs.drop (i + 1)) := by
    conv => lhs; rw [← List.take_append_drop i xs, List.drop_eq_getElem_cons hi]
    simp [List.getD_eq_getElem?_getD, List.getElem?_eq_getElem hi]
  constructor
  · intro hf
    conv => lhs; rw [e2]
    rw [run_app, h]
    simp [Drv.run, hf]
  · intro hf
    rw [e1, run_app, h]
    simp [Drv.run, hf]
theorem may_facts {p : Ph} (h : p.may = true) :
    ((p.lanes = 1 ∨ p.lanes = 4) ∧ p.clocks = 0 ∧ p.bytes.length ≤ 512 ∧ 0 ≤ p.read ∧ p.read ≤ 512 ∧ ∀ b ∈ p.bytes, 0 ≤ b ∧ b < 256) ∨
    (p.lanes = 0 ∧ p.bytes = [] ∧ p.read = 0 ∧ 1 ≤ p.clocks ∧ p.clocks ≤ 400) := by
  unfold Ph.may lanesB at h
  by_cases hb : p.bytes = []
  · rw [if_neg (fun f => f hb)] at h
    by_cases hr : p.read = 0
    · rw [if_neg (fun f => f hr)] at h
      simp only [Bool.and_eq_true, decide_eq_true_eq] at h
      exact .inr ⟨h.1, hb, hr, h.2.1, h.2.2⟩
    · rw [if_pos hr] at h
      simp only [Bool.and_eq_true, decide_eq_true_eq] at h
      exact .inl ⟨h.1.1, h.2, by rw [hb]; decide, by omega, by omega, fun b hm => by rw [hb] at hm; cases hm⟩
  · rw [if_pos hb] at h
    simp only [Bool.and_eq_true, decide_eq_true_eq, List.all_eq_true, byteB] at h
    exact .inl ⟨h.1.1.1.1, h.1.2, h.1.1.1.2, by omega, by omega, h.1.1.2⟩
theorem many_bd {p : Ph} (h : p.may = true) : 0 ≤ p.many ∧ p.many ≤ 8192 := by
  unfold Ph.many
  rcases may_facts h with ⟨h1 | h1, h2, h3, h4, h5, _⟩ | ⟨h1, h2, h3, h4, h5⟩
  · rw [h1, h2, if_pos (by decide)]; show 0 ≤ 0 + _ * (8 : Int) ∧ 0 + _ * (8 : Int) ≤ 8192; omega
  · rw [h1, h2, if_pos (by decide)]; show 0 ≤ 0 + _ * (2 : Int) ∧ 0 + _ * (2 : Int) ≤ 8192; omega
  · rw [h1, if_neg (by decide)]; omega
theorem many_snoc (ps : List Ph) (p : Ph) : phsMany (ps ++ [p]) = phsMany ps + p.many := by unfold phsMany; rw [List.foldl_append]; rfl
theorem phsMany_bd (ps : List Ph) (h : ps.all Ph.may = true) : 0 ≤ phsMany ps ∧ phsMany ps ≤ 8192 * (ps.length : Int) := by
  have key : ∀ (qs rs : List Ph), qs.all Ph.may = true → 0 ≤ phsMany rs → phsMany rs ≤ 8192 * (rs.length : Int) → 0 ≤ phsMany (rs ++ qs) ∧ phsMany (rs ++ qs) ≤ 8192 * ((rs ++ qs).length : Int) := by
    intro qs
    induction qs with
    | nil => intro rs _ h1 h2; rw [List.append_nil]; exact ⟨h1, h2⟩
    | cons q qs ih =>
      intro rs hq h1 h2
      rw [List.all_cons, Bool.and_eq_true] at hq
      have := many_bd hq.1
      have e : rs ++ q :: qs = (rs ++ [q]) ++ qs := by simp
      rw [e]
      refine ih (rs ++ [q]) hq.2 ?_ ?_
      · rw [many_snoc]; omega
      · rw [many_snoc, List.length_append]; simp only [List.length_cons, List.length_nil]; omega
  have := key ps [] h (by decide) (by decide)
  rwa [List.nil_append] at this
end Go.Proofs.YteombggfmeilaaaGreat
