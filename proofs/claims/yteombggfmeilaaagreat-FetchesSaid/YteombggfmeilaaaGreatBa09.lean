/- Pure -/
import Derived.Test.YteombggfmeilaaaGreatBa05
import Derived.KernelRfl
/- Pure. -/
namespace Go.Proofs.YteombggfmeilaaaGreat
open Go.RowKit
theorem foldC (l : List Int) (p : St × List Int) : l.foldl (fun (p : St × List Int) x => ((p.1.clock x).1, p.2 ++ [(p.1.clock x).2])) p = ((runC p.1 l).1, p.2 ++ (runC p.1 l).2) := by
  induction l generalizing p with
  | nil => simp [runC]
  | cons x l ih =>
    have h1 : runC p.1 (x :: l) = l.foldl (fun (p : St × List Int) x => ((p.1.clock x).1, p.2 ++ [(p.1.clock x).2])) ((p.1.clock x).1, [] ++ [(p.1.clock x).2]) := rfl
    rw [List.foldl_cons, ih, h1, ih]
    simp
theorem runC_app (s : St) (xs ys : List Int) : runC s (xs ++ ys) = ((runC (runC s xs).1 ys).1, (runC s xs).2 ++ (runC (runC s xs).1 ys).2) := by
  have h : runC s (xs ++ ys) = ys.foldl (fun (p : St × List Int) x => ((p.1.clock x).1, p.2 ++ [(p.1.clock x).2])) (runC s xs) := by
    unfold runC
    rw [List.foldl_append]
  rw [h, foldC]
theorem runC_cons (s : St) (x : Int) (xs : List Int) : runC s (x :: xs) = ((runC (s.clock x).1 xs).1, (s.clock x).2 :: (runC (s.clock x).1 xs).2) := by
  have := runC_app s [x] xs
  rw [List.singleton_append] at this
  rw [this]
  rfl
theorem pass_none {s : St} (h : s.job = none) : s.pass = s := by unfold St.pass; rw [h]
def St.num (s : St) (l g : Int) : St := { s with got := g, left := l }
def bitsOn (g : Int) (xs : List Int) : Int := xs.foldl (fun g x => g * 2 + x % 2) g
theorem bitsOn_app (g : Int) (xs ys : List Int) : bitsOn g (xs ++ ys) = bitsOn (bitsOn g xs) ys := by unfold bitsOn; rw [List.foldl_append]
theorem bitsOn_byte (g b : Int) (hb : 0 ≤ b ∧ b ≤ 255) : bitsOn g (byteBits b) = g * 256 + b := by
  have h1 : ∀ v : Int, (14 + v % 2) % 2 = v % 2 := fun v => by omega
  show (((((((g * 2 + (14 + b / 128 % 2) % 2) * 2 + (14 + b / 64 % 2) % 2) * 2 + (14 + b / 32 % 2) % 2) * 2 + (14 + b / 16 % 2) % 2) * 2 + (14 + b / 8 % 2) % 2) * 2 + (14 + b / 4 % 2) % 2) * 2 + (14 + b / 2 % 2) % 2) * 2 + (14 + b % 2) % 2 = g * 256 + b
  rw [h1, h1, h1, h1, h1, h1, h1, h1]
  have e7 : b / 128 % 2 = b / 128 := by omega
  have e6 : b / 64 = b / 128 * 2 + b / 64 % 2 := by omega
  have e5 : b / 32 = b / 64 * 2 + b / 32 % 2 := by omega
  have e4 : b / 16 = b / 32 * 2 + b / 16 % 2 := by omega
  have e3 : b / 8 = b / 16 * 2 + b / 8 % 2 := by omega
  have e2 : b / 4 = b / 8 * 2 + b / 4 % 2 := by omega
  have e1 : b / 2 = b / 4 * 2 + b / 2 % 2 := by omega
  have e0 : b = b / 2 * 2 + b % 2 := by omega
  generalize b / 128 % 2 = c7 at *
  generalize b / 64 % 2 = c6 at *
  generalize b / 32 % 2 = c5 at *
  generalize b / 16 % 2 = c4 at *
  generalize b / 8 % 2 = c3 at *
  generalize b / 4 % 2 = c2 at *
  generalize b / 2 % 2 = c1 at *
  generalize b % 2 = c0 at *
  omega
def St.telling (s : St) (v l : Int) : St := { s with now := v, left := l, told := s.told + 1, tabled := s.tabled || decide (s.op.byte = 90) }
theorem telling_byteAt (s : St) (v l i : Int) : (s.telling v l).byteAt i = s.byteAt i := rfl
end Go.Proofs.YteombggfmeilaaaGreat
namespace Go.Proofs.YteombggfmeilaaaGreat
open Go.RowKit
theorem wordL_app (xs ys : List Int) : wordL (xs ++ ys) = wordL xs ++ wordL ys := by unfold wordL; rw [List.flatMap_append]
theorem wordL_cons (x : Int) (ys : List Int) : wordL (x :: ys) = byteBits x ++ wordL ys := by unfold wordL; rw [List.flatMap_cons]
end Go.Proofs.YteombggfmeilaaaGreat
namespace Go.Proofs.YteombggfmeilaaaGreat
open Go.RowKit
def St.hd (s : St) (c A : Int) : St := { s with sel := true, op := opOf c, stage := 6, left := 0, got := 0, addr := A, mode := 0, moded := false, data := [], told := 0, now := 0, beyond := false }
def addrOf (k : Int) : Int := bitsOn 0 (wordL [0, k / 256, k % 256]) % 4096
theorem addrOf_eq (k : Int) (hk : 0 ≤ k ∧ k < 4096) : addrOf k = k := by
  unfold addrOf
  rw [wordL_cons, wordL_cons, wordL_cons, bitsOn_app, bitsOn_app, bitsOn_app, bitsOn_byte _ (k % 256) (by omega), bitsOn_byte _ (k / 256) (by omega), bitsOn_byte _ 0 (by decide)]
  show (((0 * 256 + 0) * 256 + k / 256) * 256 + k % 256) % 4096 = k
  omega
end Go.Proofs.YteombggfmeilaaaGreat
namespace Go.Proofs.YteombggfmeilaaaGreat
open Go.RowKit
def nibs (v : Int) : List Int := [v / 16 % 16, v / 1 % 16]
end Go.Proofs.YteombggfmeilaaaGreat
namespace Go.Proofs.YteombggfmeilaaaGreat
open Go.RowKit
def runI (s : St) : List Int → St × List Int
  | [] => (s, [])
  | x :: xs => ((runI (s.clockIn x).1 xs).1, (s.clockIn x).2 :: (runI (s.clockIn x).1 xs).2)
theorem runI_cons (s : St) (x : Int) (xs : List Int) : runI s (x :: xs) = ((runI (s.clockIn x).1 xs).1, (s.clockIn x).2 :: (runI (s.clockIn x).1 xs).2) := rfl
def Job.tk (j : Job) (n : Int) : Job := { j with left := j.left - n }
def St.tk (s : St) (n : Int) : St := { s with job := s.job.map fun j => j.tk n }
theorem tk_works (s : St) (n : Int) : (s.tk n).works = s.works := by
  unfold St.works St.tk
  cases s.job <;> rfl
theorem tk_susp (s : St) (n : Int) : (s.tk n).susp = s.susp := by
  unfold St.susp St.tk
  cases s.job <;> rfl
theorem tk_takes (s : St) (n b : Int) : (s.tk n).takes b = s.takes b := by
  unfold St.takes
  rw [tk_works]
  have h : (s.tk n).job.isNone = s.job.isNone := by unfold St.tk; cases s.job <;> rfl
  rw [h]
  rfl
theorem tk_known (s : St) (n b : Int) : (s.tk n).known b = s.known b := by
  unfold St.known
  rw [tk_takes]
theorem tk_behind (s : St) (n : Int) : (s.tk n).behind = s.behind.tk n := by
  unfold St.behind
  show (if s.op.mode && !s.moded then _ else if 0 < s.op.dummy ∧ s.stage ≠ 4 then _ else if s.op.data = 0 then _ else if s.op.inn then _ else _) = _
  split
  · rfl
  split
  · rfl
  split
  · rfl
  split <;> rfl
theorem tk_begins (s : St) (n b : Int) : (s.tk n).begins b = (s.begins b).tk n := by
  unfold St.begins
  dsimp only
  rw [tk_known]
  split
  · rfl
  split
  · rfl
  · exact tk_behind { s with op := opOf b } n
theorem tk_first (s : St) (n : Int) : (s.tk n).first = s.first := by
  show Go.Proofs.YteombggfmeilaaaGreat.first (s.tk n).works _ _ = Go.Proofs.YteombggfmeilaaaGreat.first s.works _ _
  rw [tk_works]
  rfl
theorem tk_second (s : St) (n : Int) : (s.tk n).second = s.second := by
  show Go.Proofs.YteombggfmeilaaaGreat.second _ (s.tk n).susp = Go.Proofs.YteombggfmeilaaaGreat.second _ s.susp
  rw [tk_susp]
  rfl
theorem tk_byteAt (s : St) (n i : Int) : (s.tk n).byteAt i = s.byteAt i := by
  unfold St.byteAt
  rw [tk_first, tk_second]
  rfl
theorem tk_says1 (s : St) (n : Int) : (s.tk n).says1 = s.says1.tk n := by
  unfold St.says1
  rw [tk_byteAt]
  show (if s.left = 0 then _ else _) = _
  split <;> rfl
theorem tk_says (s : St) (n : Int) : (s.tk n).says = (s.says.1.tk n, s.says.2) := by
  unfold St.says
  dsimp only
  rw [tk_says1]
  show (if s.op.data = 1 then _ else _) = _
  split <;> rfl
theorem tk_clockIn (s : St) (n x : Int) : (s.tk n).clockIn x = ((s.clockIn x).1.tk n, (s.clockIn x).2) := by
  unfold St.clockIn
  dsimp only
  rw [tk_says]
  show (if s.stage = 0 then _ else if s.stage = 2 then _ else if s.stage = 3 then _ else if s.stage = 4 then _ else if s.stage = 5 then _ else if s.stage = 6 then _ else if s.stage = 7 then _ else _) = _
  split
  · show (if (s.takesIn x 1).left = 0 then ((s.takesIn x 1).tk n).begins (s.takesIn x 1).got else (s.takesIn x 1).tk n, (15 : Int)) = _
    rw [tk_begins]
    split <;> rfl
  split
  · show (if (s.takesIn x s.op.addr).left = 0 then (({ (s.takesIn x s.op.addr) with addr := (s.takesIn x s.op.addr).got % 4096 } : St).tk n).behind else (s.takesIn x s.op.addr).tk n, (15 : Int)) = _
    rw [tk_behind]
    split <;> rfl
  split
  · show (if (s.takesIn x s.op.addr).left = 0 then (({ (s.takesIn x s.op.addr) with mode := (s.takesIn x s.op.addr).got, moded := true } : St).tk n).behind else (s.takesIn x s.op.addr).tk n, (15 : Int)) = _
    rw [tk_behind]
    split <;> rfl
  split
  · show (if s.left - 1 = 0 then (({ s with left := s.left - 1 } : St).tk n).behind else ({ s with left := s.left - 1 } : St).tk n, (15 : Int)) = _
    rw [tk_behind]
    split <;> rfl
  split
  · show (if (s.takesIn x s.op.data).left = 0 then (({ (s.takesIn x s.op.data) with data := (s.takesIn x s.op.data).data ++ [(s.takesIn x s.op.data).got] } : St).tk n).behind else (s.takesIn x s.op.data).tk n, (15 : Int)) = _
    rw [tk_behind]
    split <;> rfl
  split
  · rfl
  split <;> rfl
theorem tk_zero (s : St) : s.tk 0 = s := by
  unfold St.tk
  have h : (s.job.map fun j => j.tk 0) = s.job := by
    cases hj : s.job with
    | none => rfl
    | some j => show some (j.tk 0) = some j; unfold Job.tk; rw [Int.sub_zero]
  rw [h]
theorem tk_tk (s : St) (m n : Int) : (s.tk m).tk n = s.tk (m + n) := by
  unfold St.tk
  have h : ((s.job.map fun j => j.tk m).map fun j => j.tk n) = s.job.map fun j => j.tk (m + n) := by
    cases s.job with
    | none => rfl
    | some j => show some ((j.tk m).tk n) = some (j.tk (m + n)); unfold Job.tk; congr 2; show j.left - m - n = j.left - (m + n); omega
  show ({ s with job := (s.job.map fun j => j.tk m).map fun j => j.tk n } : St) = _
  rw [h]
theorem runI_tk (xs : List Int) : ∀ (s : St) (n : Int), runI (s.tk n) xs = ((runI s xs).1.tk n, (runI s xs).2) := by
  induction xs with
  | nil => intro s n; rfl
  | cons x xs ih =>
    intro s n
    unfold runI
    rw [tk_clockIn, ih]
theorem behind_job (s : St) : s.behind.job = s.job := by
  unfold St.behind
  repeat' split
  all_goals rfl
theorem begins_job (s : St) (c : Int) : (s.begins c).job = s.job := by
  unfold St.begins
  dsimp only
  split
  · rfl
  · split
    · rfl
    · rw [behind_job]
theorem says_job (s : St) : s.says.1.job = s.job := by
  have h1 : s.says1.job = s.job := by
    unfold St.says1
    split <;> rfl
  unfold St.says
  dsimp only
  split <;> exact h1
theorem clockIn_job (s : St) (x : Int) : (s.clockIn x).1.job = s.job := by
  unfold St.clockIn
  dsimp only
  split
  · split
    · rw [begins_job]; rfl
    · rfl
  split
  · split
    · rw [behind_job]; rfl
    · rfl
  split
  · split
    · rw [behind_job]; rfl
    · rfl
  split
  · split
    · rw [behind_job]
    · rfl
  split
  · split
    · rw [behind_job]; rfl
    · rfl
  split
  · exact says_job s
  split <;> rfl
theorem runC_still (xs : List Int) : ∀ s : St, s.works = false → s.sel = true → runC s xs = runI s xs := by
  induction xs with
  | nil => intro s _ _; rfl
  | cons x xs ih =>
    intro s hw hs
    have hp : s.pass = s := by
      unfold St.pass
      unfold St.works at hw
      cases hj : s.job with
      | none => rfl
      | some j => rw [hj] at hw; simp at hw; dsimp only; rw [if_pos hw]
    have hc : s.clock x = s.clockIn x := by unfold St.clock; rw [hp]; dsimp only; rw [if_pos hs]
    rw [runC_cons, hc]
    unfold runI
    rw [ih (s.clockIn x).1 (by unfold St.works; rw [clockIn_job]; exact hw) (by rw [clockIn_sel]; exact hs)]
theorem runC_busy (xs : List Int) : ∀ (s : St) (j : Job), s.job = some j → j.susp = false → (xs.length : Int) < j.left → s.sel = true → runC s xs = ((runI s xs).1.tk xs.length, (runI s xs).2) := by
  induction xs with
  | nil => intro s j _ _ _ _; show (s, []) = (s.tk 0, []); rw [tk_zero]
  | cons x xs ih =>
    intro s j hj hsu hl hs
    rw [List.length_cons] at hl
    have hp : s.pass = s.tk 1 := by
      obtain ⟨sec, page, data, left, susp⟩ := j
      change susp = false at hsu
      subst hsu
      unfold St.pass St.tk
      rw [hj]
      dsimp only at hl ⊢
      rw [if_neg (by decide), if_neg (by omega)]
      rfl
    have hc : s.clock x = ((s.clockIn x).1.tk 1, (s.clockIn x).2) := by
      unfold St.clock
      rw [hp]
      dsimp only
      rw [if_pos (show (s.tk 1).sel = true from hs), tk_clockIn]
    have hjn : ((s.clockIn x).1.tk 1).job = some (j.tk 1) := by
      unfold St.tk
      dsimp only
      rw [clockIn_job, hj]
      rfl
    rw [runC_cons, hc]
    dsimp only
    rw [ih ((s.clockIn x).1.tk 1) (j.tk 1) hjn hsu (by show (xs.length : Int) < j.left - 1; omega) (by show (s.clockIn x).1.sel = true; rw [clockIn_sel]; exact hs), runI_tk, tk_tk, runI_cons, List.length_cons, show ((xs.length + 1 : Nat) : Int) = 1 + (xs.length : Int) by omega]
end Go.Proofs.YteombggfmeilaaaGreat
