/- Four lanes, quad; a page that is programmed: in plain. -/
import Derived.Test.YtbflnpkgbpckfaaGreatPure
namespace Go.Proofs.YtbflnpkgbpckfaaGreat
open Go.RowKit
theorem quad_not (s : St) (hg : s.goes = false) (hj : s.job = none) (hq : s.quad = false) (k : Int) : (s.said ((wordL [107, 0, k / 256, k % 256] ++ List.replicate 8 15) ++ List.replicate 8 15)).2 = List.replicate 48 15 := by
  obtain ⟨a, prot, quad, wipes, tabled, sel, en, goes, job, busy, op, stage, left, got, addr, mode, moded, data, told, now, beyond⟩ := s
  change goes = false at hg
  change job = none at hj
  change quad = false at hq
  subst hg
  subst hj
  subst hq
  kernel_rfl
def nibs (v : Int) : List Int := [v / 16 % 16, v / 1 % 16]
theorem quad_yes (s : St) (hg : s.goes = false) (hj : s.job = none) (hq : s.quad = true) (k : Int) : (s.said ((wordL [107, 0, k / 256, k % 256] ++ List.replicate 8 15) ++ List.replicate 8 15)).2 = List.replicate 40 15 ++ (nibs (byteOf s.a ((addrOf k + 0) % 4096).toNat) ++ nibs (byteOf s.a ((addrOf k + 1) % 4096).toNat) ++ nibs (byteOf s.a ((addrOf k + 2) % 4096).toNat) ++ nibs (byteOf s.a ((addrOf k + 3) % 4096).toNat)) := by
  obtain ⟨a, prot, quad, wipes, tabled, sel, en, goes, job, busy, op, stage, left, got, addr, mode, moded, data, told, now, beyond⟩ := s
  change goes = false at hg
  change job = none at hj
  change quad = true at hq
  subst hg
  subst hj
  subst hq
  kernel_rfl
/-- Quad is set. -/
def qd1 (a : ByteArray) : St := ((St.new a).said (wordL [6])).1
def qd2 (a : ByteArray) : St := ((qd1 a).said (wordL [1, 0, 2])).1
theorem qd1_sel (a : ByteArray) : (qd1 a).sel = false := by kernel_rfl
theorem qd2_sel (a : ByteArray) : (qd2 a).sel = false := by kernel_rfl
theorem qd2_goes (a : ByteArray) : (qd2 a).goes = false := by kernel_rfl
theorem qd2_job (a : ByteArray) : (qd2 a).job = none := by kernel_rfl
theorem qd2_quad (a : ByteArray) : (qd2 a).quad = true := by kernel_rfl
theorem qd2_a (a : ByteArray) : (qd2 a).a = a := by kernel_rfl
theorem said_len (s : St) (xs : List Int) : (s.said xs).2.length = xs.length := runC_len _ _
/-- A byte is programmed. -/
def pg1 (s : St) : St := (s.said (wordL [6])).1
def pg2 (s : St) (k x : Int) : St := ((pg1 s).said (wordL [2, 0, k / 256, k % 256, x])).1
def pg3 (s : St) (k x : Int) : St := ((pg2 s k x).said (List.replicate 10 15)).1
def byteIn (x : Int) : Int := bitsOn 0 (byteBits x)
theorem pg_all (s : St) (hg : s.goes = false) (hj : s.job = none) (hp : s.prot = false) (hb : s.busy = []) (k x : Int) : (pg1 s).sel = false ∧ (pg2 s k x).sel = false ∧ (pg3 s k x).sel = false ∧ (pg3 s k x).goes = false ∧ (pg3 s k x).job = none ∧ (pg3 s k x).prot = false ∧ (pg3 s k x).busy = [] ∧ (pg3 s k x).a = progCut s.a (addrOf k - addrOf k % 32).toNat ⟨(pageOf (addrOf k) [byteIn x]).toArray⟩ all255 := by
  obtain ⟨a, prot, quad, wipes, tabled, sel, en, goes, job, busy, op, stage, left, got, addr, mode, moded, data, told, now, beyond⟩ := s
  change goes = false at hg
  change job = none at hj
  change prot = false at hp
  change busy = [] at hb
  subst hg
  subst hj
  subst hp
  subst hb
  refine ⟨?_, ?_, ?_, ?_, ?_, ?_, ?_, ?_⟩
  all_goals kernel_rfl
theorem said_of (s : St) (xs : List Int) (t : St) (ys : List Int) (h1 : (s.said xs).1 = t) (h2 : (s.said xs).2 = ys) : s.said xs = (t, ys) := by
  generalize s.said xs = p at h1 h2 ⊢
  exact Prod.ext h1 h2
theorem said_ex (s : St) (xs : List Int) (t : St) (h1 : (s.said xs).1 = t) : ∃ ys, s.said xs = (t, ys) := ⟨_, said_of s xs t _ h1 rfl⟩
theorem said_tells (s : St) (xs ys : List Int) (h2 : (s.said xs).2 = ys) : ∃ t, s.said xs = (t, ys) := ⟨_, said_of s xs _ ys rfl h2⟩
theorem qd1_said (a : ByteArray) : ∃ ys, (St.new a).said (wordL [6]) = (qd1 a, ys) := said_ex _ _ _ (by unfold qd1; rfl)
theorem qd2_said (a : ByteArray) : ∃ ys, (qd1 a).said (wordL [1, 0, 2]) = (qd2 a, ys) := said_ex _ _ _ (by unfold qd2; rfl)
theorem pg1_said (s : St) : ∃ ys, s.said (wordL [6]) = (pg1 s, ys) := said_ex _ _ _ (by unfold pg1; rfl)
theorem pg2_said (s : St) (k x : Int) : ∃ ys, (pg1 s).said (wordL [2, 0, k / 256, k % 256, x]) = (pg2 s k x, ys) := said_ex _ _ _ (by unfold pg2; rfl)
theorem pg3_said (s : St) (k x : Int) : ∃ ys, (pg2 s k x).said (List.replicate 10 15) = (pg3 s k x, ys) := said_ex _ _ _ (by unfold pg3; rfl)
end Go.Proofs.YtbflnpkgbpckfaaGreat
