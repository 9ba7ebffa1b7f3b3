/- What is not programmed, or erased: in plain. -/
import Derived.Test.YtkjdhkpkcepilaaGreatPureP
import Derived.Test.YtkjdhkpkcepilaaGreatChipWp
namespace Go.Proofs.YtkjdhkpkcepilaaGreat
open Go.RowKit
/-- What say leaves. -/
def St.af (s : St) (xs : List Int) : St := (s.said xs).1
theorem af_said (s : St) (xs : List Int) : ∃ ys, s.said xs = (s.af xs, ys) := said_ex _ _ _ (by unfold St.af; rfl)
def enX : List Int := wordL [6]
def erX (k : Int) : List Int := wordL [32, 0, k / 256, k % 256]
def prX (k : Int) : List Int := wordL [2, 0, k / 256, k % 256, 0]
/-- A chip as it was, and at rest. -/
structure Rest (a : ByteArray) (t : St) : Prop where
  sel : t.sel = false
  goes : t.goes = false
  job : t.job = none
  busy : t.busy = []
  a : t.a = a
  wipes : t.wipesL = [0, 0, 0, 0, 0, 0, 0, 0]
/-- An erase that has come whole. -/
def St.er (s : St) (A : Int) : St := { s with sel := true, op := opOf 32, stage := 7, left := 0, got := 0, addr := A, mode := 0, moded := false, data := [], told := 0, now := 0, beyond := false }
theorem er_head (s : St) (hg : s.goes = false) (hj : s.job = none) (k : Int) : (runI s.select (wordL [32, 0, k / 256, k % 256])).1 = s.er (addrOf k) := by
  obtain ⟨a, prot, quad, wipes, tabled, sel, en, goes, job, busy, op, stage, left, got, addr, mode, moded, data, told, now, beyond⟩ := s
  change goes = false at hg
  change job = none at hj
  subst hg
  subst hj
  kernel_rfl
theorem er_off (s : St) (A : Int) : (s.er A).deselect = ({ (s.er A) with sel := false } : St).starts ⟨A / 512, 0, ⟨#[]⟩, 0, false⟩ := by
  obtain ⟨a, prot, quad, wipes, tabled, sel, en, goes, job, busy, op, stage, left, got, addr, mode, moded, data, told, now, beyond⟩ := s
  kernel_rfl
theorem er_run (s : St) (hg : s.goes = false) (hj : s.job = none) (k : Int) (hk : 0 ≤ k ∧ k < 4096) : s.af (wordL [32, 0, k / 256, k % 256]) = ({ (s.er k) with sel := false } : St).starts ⟨k / 512, 0, ⟨#[]⟩, 0, false⟩ := by
  have hw : s.select.works = false := by
    rw [select_eq, hg]
    show s.works = false
    unfold St.works
    rw [hj]
  unfold St.af St.said
  dsimp only
  rw [runC_still _ _ hw (select_sel s), er_head s hg hj, addrOf_eq k hk, er_off]
theorem starts_prot (s : St) (j : Job) (he : s.en = true) (hp : s.prot = true) (ha : s.addr < 2048) : s.starts j = { s with en := false } := by
  unfold St.starts
  rw [he, if_neg (by decide), if_pos ⟨hp, ha⟩]
theorem inn_off (s : St) (A x : Int) (xs : List Int) : (s.inn A (x :: xs)).deselect = ({ (s.inn A (x :: xs)) with sel := false } : St).starts ⟨-1, A - A % 32, ⟨(pageOf A (x :: xs)).toArray⟩, 0, false⟩ := by
  obtain ⟨a, prot, quad, wipes, tabled, sel, en, goes, job, busy, op, stage, left, got, addr, mode, moded, data, told, now, beyond⟩ := s
  kernel_rfl
theorem pr_run (s : St) (hg : s.goes = false) (hj : s.job = none) (k : Int) (hk : 0 ≤ k ∧ k < 4096) : s.af (wordL [2, 0, k / 256, k % 256, 0]) = ({ (s.inn k [0]) with sel := false } : St).starts ⟨-1, k - k % 32, ⟨(pageOf k [0]).toArray⟩, 0, false⟩ := by
  have h := pg_run s hg hj k hk [0] (by decide)
  rw [inn_off] at h
  exact h
section
variable (a : ByteArray) (k : Int)
def gd0 : St := (St.new a).af (erX k)
def gd1 : St := (St.new a).af (prX k)
def gdE : St := (St.new a).af enX
def gd2 : St := (gdE a).af ((erX k).take 31)
def gd3 : St := (gdE a).af (erX k ++ [14])
def gd4 : St := (gdE a).af ((prX k).take 39)
def gd5' : St := (St.new a).af (enX ++ [14])
def gd5 : St := (gd5' a).af (erX k)
def gd6' : St := (gdE a).af (wordL [4])
def gd6 : St := (gd6' a).af (prX k)
def gd7' : St := (gdE a).af (wordL [1, 4, 0])
def gd7'' : St := (gd7' a).af enX
def gd7 : St := (gd7'' a).af (erX k)
def gd8 : St := (gd7'' a).af (prX k)
theorem gdE_rest : Rest a (gdE a) := ⟨by kernel_rfl, by kernel_rfl, by kernel_rfl, by kernel_rfl, by kernel_rfl, by kernel_rfl⟩
theorem gd0_rest : Rest a (gd0 a k) ∧ (gd0 a k).first = 0 := ⟨⟨by kernel_rfl, by kernel_rfl, by kernel_rfl, by kernel_rfl, by kernel_rfl, by kernel_rfl⟩, by kernel_rfl⟩
theorem gd1_rest : Rest a (gd1 a k) ∧ (gd1 a k).first = 0 := ⟨⟨by kernel_rfl, by kernel_rfl, by kernel_rfl, by kernel_rfl, by kernel_rfl, by kernel_rfl⟩, by kernel_rfl⟩
theorem gd2_rest : Rest a (gd2 a k) ∧ (gd2 a k).first = 2 := ⟨⟨by kernel_rfl, by kernel_rfl, by kernel_rfl, by kernel_rfl, by kernel_rfl, by kernel_rfl⟩, by kernel_rfl⟩
theorem gd3_rest : Rest a (gd3 a k) ∧ (gd3 a k).first = 2 := ⟨⟨by kernel_rfl, by kernel_rfl, by kernel_rfl, by kernel_rfl, by kernel_rfl, by kernel_rfl⟩, by kernel_rfl⟩
theorem gd4_rest : Rest a (gd4 a k) ∧ (gd4 a k).first = 2 := ⟨⟨by kernel_rfl, by kernel_rfl, by kernel_rfl, by kernel_rfl, by kernel_rfl, by kernel_rfl⟩, by kernel_rfl⟩
theorem gd5'_rest : Rest a (gd5' a) := ⟨by kernel_rfl, by kernel_rfl, by kernel_rfl, by kernel_rfl, by kernel_rfl, by kernel_rfl⟩
theorem gd5_rest : Rest a (gd5 a k) ∧ (gd5 a k).first = 0 := ⟨⟨by kernel_rfl, by kernel_rfl, by kernel_rfl, by kernel_rfl, by kernel_rfl, by kernel_rfl⟩, by kernel_rfl⟩
theorem gd6'_rest : Rest a (gd6' a) := ⟨by kernel_rfl, by kernel_rfl, by kernel_rfl, by kernel_rfl, by kernel_rfl, by kernel_rfl⟩
theorem gd6_rest : Rest a (gd6 a k) ∧ (gd6 a k).first = 0 := ⟨⟨by kernel_rfl, by kernel_rfl, by kernel_rfl, by kernel_rfl, by kernel_rfl, by kernel_rfl⟩, by kernel_rfl⟩
theorem gd7'_rest : Rest a (gd7' a) := ⟨by kernel_rfl, by kernel_rfl, by kernel_rfl, by kernel_rfl, by kernel_rfl, by kernel_rfl⟩
theorem gd7''_rest : Rest a (gd7'' a) := ⟨by kernel_rfl, by kernel_rfl, by kernel_rfl, by kernel_rfl, by kernel_rfl, by kernel_rfl⟩
theorem gd7''_en : (gd7'' a).en = true := by kernel_rfl
theorem gd7''_prot : (gd7'' a).prot = true := by kernel_rfl
end
theorem gd7_rest (a : ByteArray) (k : Int) (hk : 0 ≤ k ∧ k < 2048) : Rest a (gd7 a k) ∧ (gd7 a k).first = 4 := by
  have h := gd7''_rest a
  have he := gd7''_en a
  have hp := gd7''_prot a
  unfold gd7 erX
  generalize gd7'' a = s at h he hp ⊢
  rw [er_run s h.goes h.job k (by omega), starts_prot ({ (s.er k) with sel := false } : St) _ he hp hk.2]
  refine ⟨⟨rfl, h.goes, h.job, h.busy, h.a, h.wipes⟩, ?_⟩
  show Go.Proofs.YtkjdhkpkcepilaaGreat.first (match s.job with | some j => !j.susp | none => false) false s.prot = 4
  rw [h.job, hp]
  rfl
theorem gd8_rest (a : ByteArray) (k : Int) (hk : 0 ≤ k ∧ k < 2048) : Rest a (gd8 a k) ∧ (gd8 a k).first = 4 := by
  have h := gd7''_rest a
  have he := gd7''_en a
  have hp := gd7''_prot a
  unfold gd8 prX
  generalize gd7'' a = s at h he hp ⊢
  rw [pr_run s h.goes h.job k (by omega), starts_prot ({ (s.inn k [0]) with sel := false } : St) _ he hp hk.2]
  refine ⟨⟨rfl, h.goes, h.job, h.busy, h.a, h.wipes⟩, ?_⟩
  show Go.Proofs.YtkjdhkpkcepilaaGreat.first (match s.job with | some j => !j.susp | none => false) false s.prot = 4
  rw [h.job, hp]
  rfl
theorem rest_clock {a : ByteArray} {t : St} (h : Rest a t) (x : Int) : t.clock x = (t, 15) := by
  rw [clock_off t h.sel]
  have hp : t.pass = t := by unfold St.pass; rw [h.job]
  rw [hp]
end Go.Proofs.YtkjdhkpkcepilaaGreat
