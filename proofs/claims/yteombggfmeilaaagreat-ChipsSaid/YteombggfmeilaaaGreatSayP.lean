/- Clocks in a row: the pure run. -/
import Derived.Test.YteombggfmeilaaaGreatChip
namespace Go.Proofs.YteombggfmeilaaaGreat
open Go.RowKit
/-- Clocks in a row; what is said. -/
def runC (s : St) (xs : List Int) : St × List Int := xs.foldl (fun (p : St × List Int) x => ((p.1.clock x).1, p.2 ++ [(p.1.clock x).2])) (s, [])
theorem runC_snoc (s : St) (xs : List Int) (x : Int) : runC s (xs ++ [x]) = (((runC s xs).1.clock x).1, (runC s xs).2 ++ [((runC s xs).1.clock x).2]) := by
  unfold runC
  rw [List.foldl_append]
  rfl
theorem runC_len (s : St) (xs : List Int) : (runC s xs).2.length = xs.length := by
  have key : ∀ (l : List Int) (p : St × List Int), (l.foldl (fun (p : St × List Int) x => ((p.1.clock x).1, p.2 ++ [(p.1.clock x).2])) p).2.length = p.2.length + l.length := by
    intro l
    induction l with
    | nil => intro p; rfl
    | cons x l ih => intro p; rw [List.foldl_cons, ih, List.length_append]; simp; omega
  unfold runC
  rw [key]
  simp
theorem behind_sel (s : St) : s.behind.sel = s.sel := by
  unfold St.behind
  repeat' split
  all_goals rfl
theorem begins_sel (s : St) (c : Int) : (s.begins c).sel = s.sel := by
  unfold St.begins
  dsimp only
  split
  · rfl
  · split
    · rfl
    · rw [behind_sel]
theorem says_sel (s : St) : s.says.1.sel = s.sel := by
  have h1 : s.says1.sel = s.sel := by
    unfold St.says1
    split <;> rfl
  unfold St.says
  dsimp only
  split <;> exact h1
theorem clockIn_sel (s : St) (x : Int) : (s.clockIn x).1.sel = s.sel := by
  unfold St.clockIn
  dsimp only
  split
  · split
    · rw [begins_sel]; rfl
    · rfl
  split
  · split
    · rw [behind_sel]; rfl
    · rfl
  split
  · split
    · rw [behind_sel]; rfl
    · rfl
  split
  · split
    · rw [behind_sel]
    · rfl
  split
  · split
    · rw [behind_sel]; rfl
    · rfl
  split
  · exact says_sel s
  split <;> rfl
theorem clock_sel (s : St) (x : Int) : (s.clock x).1.sel = s.sel := by
  unfold St.clock
  dsimp only
  split
  · rw [clockIn_sel, (pass_keeps s).2.2]
  · exact (pass_keeps s).2.2
theorem select_sel (s : St) : s.select.sel = true := by
  rw [select_eq]
  split
  · rw [begins_sel]; rfl
  · rfl
theorem runC_sel (s : St) (xs : List Int) : (runC s xs).1.sel = s.sel := by
  have key : ∀ (l : List Int) (p : St × List Int), (l.foldl (fun (p : St × List Int) x => ((p.1.clock x).1, p.2 ++ [(p.1.clock x).2])) p).1.sel = p.1.sel := by
    intro l
    induction l with
    | nil => intro p; rfl
    | cons x l ih => intro p; rw [List.foldl_cons, ih]; exact clock_sel _ _
  unfold runC
  rw [key]
theorem runC_inv {s : St} {N : Int} (h : s.InvW N) (xs : List Int) : (runC s xs).1.InvW (N + xs.length) := by
  have key : ∀ (l : List Int) (p : St × List Int) (M : Int), p.1.InvW M → (l.foldl (fun (p : St × List Int) x => ((p.1.clock x).1, p.2 ++ [(p.1.clock x).2])) p).1.InvW (M + l.length) := by
    intro l
    induction l with
    | nil => intro p M h; simpa using h
    | cons x l ih =>
      intro p M h
      rw [List.foldl_cons]
      have := ih ((p.1.clock x).1, p.2 ++ [(p.1.clock x).2]) (M + 1) (clock_invW h x)
      rw [List.length_cons]
      exact this.mono (by omega)
  exact key xs (s, []) N h
/-- What say leaves of the chip, and says. -/
def St.said (s : St) (xs : List Int) : St × List Int := ((runC s.select xs).1.deselect, (runC s.select xs).2)
theorem said_inv {s : St} {N : Int} (h : s.InvW N) (xs : List Int) : (s.said xs).1.InvW (N + xs.length + 1) :=
  deselect_invW (runC_inv (select_invW h) xs) (by rw [runC_sel, select_sel])
end Go.Proofs.YteombggfmeilaaaGreat
