/- Commands that turn nothing that stays, and a loss: in plain. -/
import Derived.Test.YtjdjdfllggpckaaGreatPureS
import Derived.Test.YtjdjdfllggpckaaGreatChipLo
namespace Go.Proofs.YtjdjdfllggpckaaGreat
open Go.RowKit
/-- A chip at rest whose bits that stay are not set. -/
structure Saf (a : ByteArray) (t : St) : Prop where
  sel : t.sel = false
  goes : t.goes = false
  job : t.job = none
  prot : t.prot = false
  quad : t.quad = false
  a : t.a = a
theorem saf_new (a : ByteArray) : Saf a (St.new a) := ⟨rfl, rfl, rfl, rfl, rfl, rfl⟩
theorem saf_6 {a : ByteArray} {t : St} (h : Saf a t) (n : Nat) (hn : n < 32) : Saf a (t.af (wordL [6] ++ List.replicate n 15)) := by
  obtain ⟨h1, h2, h3, h4, h5, h6⟩ := h
  obtain ⟨a', prot, quad, wipes, tabled, sel, en, goes, job, busy, op, stage, left', got, addr, mode, moded, data', told, now, beyond⟩ := t
  change goes = false at h2
  change job = _ at h3
  change prot = false at h4
  change quad = false at h5
  change a' = a at h6
  subst h2
  subst h3
  subst h4
  subst h5
  subst h6
  rcases (show n = 0 ∨ n = 1 ∨ n = 2 ∨ n = 3 ∨ n = 4 ∨ n = 5 ∨ n = 6 ∨ n = 7 ∨ n = 8 ∨ n = 9 ∨ n = 10 ∨ n = 11 ∨ n = 12 ∨ n = 13 ∨ n = 14 ∨ n = 15 ∨ n = 16 ∨ n = 17 ∨ n = 18 ∨ n = 19 ∨ n = 20 ∨ n = 21 ∨ n = 22 ∨ n = 23 ∨ n = 24 ∨ n = 25 ∨ n = 26 ∨ n = 27 ∨ n = 28 ∨ n = 29 ∨ n = 30 ∨ n = 31 by omega) with rfl | rfl | rfl | rfl | rfl | rfl | rfl | rfl | rfl | rfl | rfl | rfl | rfl | rfl | rfl | rfl | rfl | rfl | rfl | rfl | rfl | rfl | rfl | rfl | rfl | rfl | rfl | rfl | rfl | rfl | rfl | rfl
  all_goals exact ⟨by kernel_rfl, by kernel_rfl, by kernel_rfl, by kernel_rfl, by kernel_rfl, by kernel_rfl⟩
theorem saf_4 {a : ByteArray} {t : St} (h : Saf a t) (n : Nat) (hn : n < 32) : Saf a (t.af (wordL [4] ++ List.replicate n 15)) := by
  obtain ⟨h1, h2, h3, h4, h5, h6⟩ := h
  obtain ⟨a', prot, quad, wipes, tabled, sel, en, goes, job, busy, op, stage, left', got, addr, mode, moded, data', told, now, beyond⟩ := t
  change goes = false at h2
  change job = _ at h3
  change prot = false at h4
  change quad = false at h5
  change a' = a at h6
  subst h2
  subst h3
  subst h4
  subst h5
  subst h6
  rcases (show n = 0 ∨ n = 1 ∨ n = 2 ∨ n = 3 ∨ n = 4 ∨ n = 5 ∨ n = 6 ∨ n = 7 ∨ n = 8 ∨ n = 9 ∨ n = 10 ∨ n = 11 ∨ n = 12 ∨ n = 13 ∨ n = 14 ∨ n = 15 ∨ n = 16 ∨ n = 17 ∨ n = 18 ∨ n = 19 ∨ n = 20 ∨ n = 21 ∨ n = 22 ∨ n = 23 ∨ n = 24 ∨ n = 25 ∨ n = 26 ∨ n = 27 ∨ n = 28 ∨ n = 29 ∨ n = 30 ∨ n = 31 by omega) with rfl | rfl | rfl | rfl | rfl | rfl | rfl | rfl | rfl | rfl | rfl | rfl | rfl | rfl | rfl | rfl | rfl | rfl | rfl | rfl | rfl | rfl | rfl | rfl | rfl | rfl | rfl | rfl | rfl | rfl | rfl | rfl
  all_goals exact ⟨by kernel_rfl, by kernel_rfl, by kernel_rfl, by kernel_rfl, by kernel_rfl, by kernel_rfl⟩
theorem saf_5 {a : ByteArray} {t : St} (h : Saf a t) (n : Nat) (hn : n < 32) : Saf a (t.af (wordL [5] ++ List.replicate n 15)) := by
  obtain ⟨h1, h2, h3, h4, h5, h6⟩ := h
  obtain ⟨a', prot, quad, wipes, tabled, sel, en, goes, job, busy, op, stage, left', got, addr, mode, moded, data', told, now, beyond⟩ := t
  change goes = false at h2
  change job = _ at h3
  change prot = false at h4
  change quad = false at h5
  change a' = a at h6
  subst h2
  subst h3
  subst h4
  subst h5
  subst h6
  rcases (show n = 0 ∨ n = 1 ∨ n = 2 ∨ n = 3 ∨ n = 4 ∨ n = 5 ∨ n = 6 ∨ n = 7 ∨ n = 8 ∨ n = 9 ∨ n = 10 ∨ n = 11 ∨ n = 12 ∨ n = 13 ∨ n = 14 ∨ n = 15 ∨ n = 16 ∨ n = 17 ∨ n = 18 ∨ n = 19 ∨ n = 20 ∨ n = 21 ∨ n = 22 ∨ n = 23 ∨ n = 24 ∨ n = 25 ∨ n = 26 ∨ n = 27 ∨ n = 28 ∨ n = 29 ∨ n = 30 ∨ n = 31 by omega) with rfl | rfl | rfl | rfl | rfl | rfl | rfl | rfl | rfl | rfl | rfl | rfl | rfl | rfl | rfl | rfl | rfl | rfl | rfl | rfl | rfl | rfl | rfl | rfl | rfl | rfl | rfl | rfl | rfl | rfl | rfl | rfl
  all_goals exact ⟨by kernel_rfl, by kernel_rfl, by kernel_rfl, by kernel_rfl, by kernel_rfl, by kernel_rfl⟩
theorem saf_159 {a : ByteArray} {t : St} (h : Saf a t) (n : Nat) (hn : n < 32) : Saf a (t.af (wordL [159] ++ List.replicate n 15)) := by
  obtain ⟨h1, h2, h3, h4, h5, h6⟩ := h
  obtain ⟨a', prot, quad, wipes, tabled, sel, en, goes, job, busy, op, stage, left', got, addr, mode, moded, data', told, now, beyond⟩ := t
  change goes = false at h2
  change job = _ at h3
  change prot = false at h4
  change quad = false at h5
  change a' = a at h6
  subst h2
  subst h3
  subst h4
  subst h5
  subst h6
  rcases (show n = 0 ∨ n = 1 ∨ n = 2 ∨ n = 3 ∨ n = 4 ∨ n = 5 ∨ n = 6 ∨ n = 7 ∨ n = 8 ∨ n = 9 ∨ n = 10 ∨ n = 11 ∨ n = 12 ∨ n = 13 ∨ n = 14 ∨ n = 15 ∨ n = 16 ∨ n = 17 ∨ n = 18 ∨ n = 19 ∨ n = 20 ∨ n = 21 ∨ n = 22 ∨ n = 23 ∨ n = 24 ∨ n = 25 ∨ n = 26 ∨ n = 27 ∨ n = 28 ∨ n = 29 ∨ n = 30 ∨ n = 31 by omega) with rfl | rfl | rfl | rfl | rfl | rfl | rfl | rfl | rfl | rfl | rfl | rfl | rfl | rfl | rfl | rfl | rfl | rfl | rfl | rfl | rfl | rfl | rfl | rfl | rfl | rfl | rfl | rfl | rfl | rfl | rfl | rfl
  all_goals exact ⟨by kernel_rfl, by kernel_rfl, by kernel_rfl, by kernel_rfl, by kernel_rfl, by kernel_rfl⟩
theorem saf_117 {a : ByteArray} {t : St} (h : Saf a t) (n : Nat) (hn : n < 32) : Saf a (t.af (wordL [117] ++ List.replicate n 15)) := by
  obtain ⟨h1, h2, h3, h4, h5, h6⟩ := h
  obtain ⟨a', prot, quad, wipes, tabled, sel, en, goes, job, busy, op, stage, left', got, addr, mode, moded, data', told, now, beyond⟩ := t
  change goes = false at h2
  change job = _ at h3
  change prot = false at h4
  change quad = false at h5
  change a' = a at h6
  subst h2
  subst h3
  subst h4
  subst h5
  subst h6
  rcases (show n = 0 ∨ n = 1 ∨ n = 2 ∨ n = 3 ∨ n = 4 ∨ n = 5 ∨ n = 6 ∨ n = 7 ∨ n = 8 ∨ n = 9 ∨ n = 10 ∨ n = 11 ∨ n = 12 ∨ n = 13 ∨ n = 14 ∨ n = 15 ∨ n = 16 ∨ n = 17 ∨ n = 18 ∨ n = 19 ∨ n = 20 ∨ n = 21 ∨ n = 22 ∨ n = 23 ∨ n = 24 ∨ n = 25 ∨ n = 26 ∨ n = 27 ∨ n = 28 ∨ n = 29 ∨ n = 30 ∨ n = 31 by omega) with rfl | rfl | rfl | rfl | rfl | rfl | rfl | rfl | rfl | rfl | rfl | rfl | rfl | rfl | rfl | rfl | rfl | rfl | rfl | rfl | rfl | rfl | rfl | rfl | rfl | rfl | rfl | rfl | rfl | rfl | rfl | rfl
  all_goals exact ⟨by kernel_rfl, by kernel_rfl, by kernel_rfl, by kernel_rfl, by kernel_rfl, by kernel_rfl⟩
theorem saf_122 {a : ByteArray} {t : St} (h : Saf a t) (n : Nat) (hn : n < 32) : Saf a (t.af (wordL [122] ++ List.replicate n 15)) := by
  obtain ⟨h1, h2, h3, h4, h5, h6⟩ := h
  obtain ⟨a', prot, quad, wipes, tabled, sel, en, goes, job, busy, op, stage, left', got, addr, mode, moded, data', told, now, beyond⟩ := t
  change goes = false at h2
  change job = _ at h3
  change prot = false at h4
  change quad = false at h5
  change a' = a at h6
  subst h2
  subst h3
  subst h4
  subst h5
  subst h6
  rcases (show n = 0 ∨ n = 1 ∨ n = 2 ∨ n = 3 ∨ n = 4 ∨ n = 5 ∨ n = 6 ∨ n = 7 ∨ n = 8 ∨ n = 9 ∨ n = 10 ∨ n = 11 ∨ n = 12 ∨ n = 13 ∨ n = 14 ∨ n = 15 ∨ n = 16 ∨ n = 17 ∨ n = 18 ∨ n = 19 ∨ n = 20 ∨ n = 21 ∨ n = 22 ∨ n = 23 ∨ n = 24 ∨ n = 25 ∨ n = 26 ∨ n = 27 ∨ n = 28 ∨ n = 29 ∨ n = 30 ∨ n = 31 by omega) with rfl | rfl | rfl | rfl | rfl | rfl | rfl | rfl | rfl | rfl | rfl | rfl | rfl | rfl | rfl | rfl | rfl | rfl | rfl | rfl | rfl | rfl | rfl | rfl | rfl | rfl | rfl | rfl | rfl | rfl | rfl | rfl
  all_goals exact ⟨by kernel_rfl, by kernel_rfl, by kernel_rfl, by kernel_rfl, by kernel_rfl, by kernel_rfl⟩
theorem saf_3 {a : ByteArray} {t : St} (h : Saf a t) (n : Nat) (hn : n < 32) : Saf a (t.af (wordL [3] ++ List.replicate n 15)) := by
  obtain ⟨h1, h2, h3, h4, h5, h6⟩ := h
  obtain ⟨a', prot, quad, wipes, tabled, sel, en, goes, job, busy, op, stage, left', got, addr, mode, moded, data', told, now, beyond⟩ := t
  change goes = false at h2
  change job = _ at h3
  change prot = false at h4
  change quad = false at h5
  change a' = a at h6
  subst h2
  subst h3
  subst h4
  subst h5
  subst h6
  rcases (show n = 0 ∨ n = 1 ∨ n = 2 ∨ n = 3 ∨ n = 4 ∨ n = 5 ∨ n = 6 ∨ n = 7 ∨ n = 8 ∨ n = 9 ∨ n = 10 ∨ n = 11 ∨ n = 12 ∨ n = 13 ∨ n = 14 ∨ n = 15 ∨ n = 16 ∨ n = 17 ∨ n = 18 ∨ n = 19 ∨ n = 20 ∨ n = 21 ∨ n = 22 ∨ n = 23 ∨ n = 24 ∨ n = 25 ∨ n = 26 ∨ n = 27 ∨ n = 28 ∨ n = 29 ∨ n = 30 ∨ n = 31 by omega) with rfl | rfl | rfl | rfl | rfl | rfl | rfl | rfl | rfl | rfl | rfl | rfl | rfl | rfl | rfl | rfl | rfl | rfl | rfl | rfl | rfl | rfl | rfl | rfl | rfl | rfl | rfl | rfl | rfl | rfl | rfl | rfl
  all_goals exact ⟨by kernel_rfl, by kernel_rfl, by kernel_rfl, by kernel_rfl, by kernel_rfl, by kernel_rfl⟩
theorem saf_0 {a : ByteArray} {t : St} (h : Saf a t) (n : Nat) (hn : n < 32) : Saf a (t.af (wordL [0] ++ List.replicate n 15)) := by
  obtain ⟨h1, h2, h3, h4, h5, h6⟩ := h
  obtain ⟨a', prot, quad, wipes, tabled, sel, en, goes, job, busy, op, stage, left', got, addr, mode, moded, data', told, now, beyond⟩ := t
  change goes = false at h2
  change job = _ at h3
  change prot = false at h4
  change quad = false at h5
  change a' = a at h6
  subst h2
  subst h3
  subst h4
  subst h5
  subst h6
  rcases (show n = 0 ∨ n = 1 ∨ n = 2 ∨ n = 3 ∨ n = 4 ∨ n = 5 ∨ n = 6 ∨ n = 7 ∨ n = 8 ∨ n = 9 ∨ n = 10 ∨ n = 11 ∨ n = 12 ∨ n = 13 ∨ n = 14 ∨ n = 15 ∨ n = 16 ∨ n = 17 ∨ n = 18 ∨ n = 19 ∨ n = 20 ∨ n = 21 ∨ n = 22 ∨ n = 23 ∨ n = 24 ∨ n = 25 ∨ n = 26 ∨ n = 27 ∨ n = 28 ∨ n = 29 ∨ n = 30 ∨ n = 31 by omega) with rfl | rfl | rfl | rfl | rfl | rfl | rfl | rfl | rfl | rfl | rfl | rfl | rfl | rfl | rfl | rfl | rfl | rfl | rfl | rfl | rfl | rfl | rfl | rfl | rfl | rfl | rfl | rfl | rfl | rfl | rfl | rfl
  all_goals exact ⟨by kernel_rfl, by kernel_rfl, by kernel_rfl, by kernel_rfl, by kernel_rfl, by kernel_rfl⟩
def lsB : List Int := [6, 4, 5, 159, 117, 122, 3, 0]
theorem saf_any {a : ByteArray} {t : St} (h : Saf a t) (j : Nat) (hj : j < 8) (n : Nat) (hn : n < 32) : Saf a (t.af (wordL [lsB.getD j 0] ++ List.replicate n 15)) := by
  rcases (show j = 0 ∨ j = 1 ∨ j = 2 ∨ j = 3 ∨ j = 4 ∨ j = 5 ∨ j = 6 ∨ j = 7 by omega) with rfl | rfl | rfl | rfl | rfl | rfl | rfl | rfl
  · exact saf_6 h n hn
  · exact saf_4 h n hn
  · exact saf_5 h n hn
  · exact saf_159 h n hn
  · exact saf_117 h n hn
  · exact saf_122 h n hn
  · exact saf_3 h n hn
  · exact saf_0 h n hn
theorem saf_first {a : ByteArray} {t : St} (h : Saf a t) (he : t.en = false) : t.first = 0 ∧ t.second = 0 := by
  constructor
  · show Go.Proofs.YtjdjdfllggpckaaGreat.first t.works t.en t.prot = 0
    unfold St.works
    rw [h.job, he, h.prot]
    rfl
  · show Go.Proofs.YtjdjdfllggpckaaGreat.second t.quad t.susp = 0
    unfold St.susp
    rw [h.quad, h.job]
    rfl
/-- A chip behind a loss. -/
theorem pw_saf {a : ByteArray} {t : St} (hp : t.prot = false) (hq : t.quad = false) (ha : t.a = a) : Saf a t.pw ∧ t.pw.en = false ∧ t.pw.busy = [] := by
  refine ⟨⟨rfl, rfl, rfl, hp, hq, ha⟩, rfl, rfl⟩
theorem loss_pw {t : St} (h : t.job = none) (mask : ByteArray) : t.loss mask = t.pw := by
  unfold St.loss St.pw
  rw [h]
/-- A chip that was selected for nothing. -/
theorem sel_off {a : ByteArray} {t : St} (h : Saf a t) (he : t.en = false) (hb : t.busy = []) : Saf a t.select.deselect ∧ t.select.deselect.en = false ∧ t.select.deselect.busy = [] := by
  obtain ⟨h1, h2, h3, h4, h5, h6⟩ := h
  obtain ⟨a', prot, quad, wipes, tabled, sel, en, goes, job, busy, op, stage, left', got, addr, mode, moded, data', told, now, beyond⟩ := t
  change goes = false at h2
  change job = _ at h3
  change prot = false at h4
  change quad = false at h5
  change a' = a at h6
  change en = false at he
  change busy = [] at hb
  subst h2
  subst h3
  subst h4
  subst h5
  subst h6
  subst he
  subst hb
  exact ⟨⟨by kernel_rfl, by kernel_rfl, by kernel_rfl, by kernel_rfl, by kernel_rfl, by kernel_rfl⟩, by kernel_rfl, by kernel_rfl⟩
theorem saf_enable {a : ByteArray} {t : St} (h : Saf a t) (hb : t.busy = []) : Saf a (t.af (wordL [6])) ∧ (t.af (wordL [6])).en = true ∧ (t.af (wordL [6])).busy = [] := by
  obtain ⟨h1, h2, h3, h4, h5, h6⟩ := h
  obtain ⟨a', prot, quad, wipes, tabled, sel, en, goes, job, busy, op, stage, left', got, addr, mode, moded, data', told, now, beyond⟩ := t
  change goes = false at h2
  change job = _ at h3
  change prot = false at h4
  change quad = false at h5
  change a' = a at h6
  change busy = [] at hb
  subst h2
  subst h3
  subst h4
  subst h5
  subst h6
  subst hb
  exact ⟨⟨by kernel_rfl, by kernel_rfl, by kernel_rfl, by kernel_rfl, by kernel_rfl, by kernel_rfl⟩, by kernel_rfl, by kernel_rfl⟩
theorem saf_erase {a : ByteArray} {t : St} (h : Saf a t) (he : t.en = true) (hb : t.busy = []) : Er a 4 8 false (t.af (wordL [32, 0, 8, 0])) := by
  obtain ⟨h1, h2, h3, h4, h5, h6⟩ := h
  obtain ⟨a', prot, quad, wipes, tabled, sel, en, goes, job, busy, op, stage, left', got, addr, mode, moded, data', told, now, beyond⟩ := t
  change goes = false at h2
  change job = _ at h3
  change prot = false at h4
  change quad = false at h5
  change a' = a at h6
  change en = true at he
  change busy = [] at hb
  subst h2
  subst h3
  subst h4
  subst h5
  subst h6
  subst he
  subst hb
  exact ⟨by kernel_rfl, by kernel_rfl, by kernel_rfl, by kernel_rfl, by kernel_rfl, by kernel_rfl, by kernel_rfl⟩
theorem er_last2 {a : ByteArray} {sec : Int} {t : St} (h : Er a sec 1 false t) (hs : ¬ sec = -1) (x : Int) : ∃ u, t.clock x = (u, 15) ∧ u.a = eraseCut a sec.toNat all255 ∧ u.first = 0 ∧ u.second = 0 := by
  refine ⟨_, last_clock t _ h.job rfl h.sel rfl x, ?_, ?_, ?_⟩
  · show Job.cells ⟨sec, 0, ⟨#[]⟩, 1, false⟩ t.a all255 = _
    unfold Job.cells
    rw [if_neg hs, h.a]
  · show Go.Proofs.YtjdjdfllggpckaaGreat.first false false t.prot = 0
    rw [h.prot]
    rfl
  · show Go.Proofs.YtjdjdfllggpckaaGreat.second t.quad false = 0
    rw [h.quad]
    rfl
/-- A chip that is selected, and one clock came, and then the power went. -/
theorem sel_clock {a : ByteArray} {t : St} (h : Saf a t) : (t.select.clock 14).1.job = none ∧ (t.select.clock 14).1.prot = false ∧ (t.select.clock 14).1.quad = false ∧ (t.select.clock 14).1.a = a ∧ (t.select.clock 14).2 = 15 := by
  obtain ⟨h1, h2, h3, h4, h5, h6⟩ := h
  obtain ⟨a', prot, quad, wipes, tabled, sel, en, goes, job, busy, op, stage, left', got, addr, mode, moded, data', told, now, beyond⟩ := t
  change goes = false at h2
  change job = _ at h3
  change prot = false at h4
  change quad = false at h5
  change a' = a at h6
  subst h2
  subst h3
  subst h4
  subst h5
  subst h6
  exact ⟨by kernel_rfl, by kernel_rfl, by kernel_rfl, by kernel_rfl, by kernel_rfl⟩
theorem turned_half (a : ByteArray) (lo n : Nat) (turn : Nat → UInt8 → UInt8) (m : Nat) (h : m ≤ lo) : (turned a lo n turn).data.toList.take m = a.data.toList.take m := by
  unfold turned
  apply List.ext_getElem
  · simp
  · intro i h1 h2
    simp only [List.getElem_take, List.getElem_mapIdx]
    have hi : i < m := by rw [List.length_take] at h2; omega
    rw [if_neg (by omega)]
end Go.Proofs.YtjdjdfllggpckaaGreat
