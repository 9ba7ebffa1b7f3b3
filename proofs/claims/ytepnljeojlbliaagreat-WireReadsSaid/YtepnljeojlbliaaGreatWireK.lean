/- How many clocks a drive with a bound takes. -/
import Derived.Test.YtepnljeojlbliaaGreatWireR
namespace Go.Proofs.YtepnljeojlbliaaGreat
open Go.RowKit
/-- So many clocks more, or as many as there may be. -/
structure Cnt (d d' : Drv) (ok : Bool) (n : Int) : Prop where
  most : d'.most = d.most
  clocks : d'.clocks = min (d.clocks + n) d.most
  all : ok = decide (d.clocks + n ≤ d.most)
theorem cnt_then {d e f : Drv} {ok ok2 : Bool} {m n : Int} (hn : 0 ≤ n) (h1 : Cnt d e ok m) (h2 : d.clocks + m ≤ d.most → Cnt e f ok2 n) : Cnt d (if ok then f else e) (if ok then ok2 else false) (m + n) := by
  obtain ⟨a1, a2, a3⟩ := h1
  by_cases hle : d.clocks + m ≤ d.most
  · obtain ⟨b1, b2, b3⟩ := h2 hle
    rw [decide_eq_true hle] at a3
    subst a3
    have e0 : e.clocks = d.clocks + m := by rw [a2]; omega
    refine ⟨b1.trans a1, ?_, ?_⟩
    · simp only [if_true]; rw [b2, e0, a1, Int.add_assoc]
    · simp only [if_true]; rw [b3, e0, a1, Int.add_assoc]
  · rw [decide_eq_false hle] at a3
    subst a3
    refine ⟨a1, ?_, ?_⟩
    · simp only [Bool.false_eq_true, if_false]; rw [a2]; omega
    · simp only [Bool.false_eq_true, if_false]; exact (decide_eq_false (by omega)).symm
theorem run_cnt (d : Drv) (xs : List Int) (h0 : 0 ≤ d.most) (hc : d.clocks ≤ d.most) : Cnt d (d.run xs).1 (d.run xs).2.2 xs.length := by
  have h := run_cut xs d (d.most - d.clocks).toNat h0 (by omega)
  by_cases hl : xs.length ≤ (d.most - d.clocks).toNat
  · rw [if_pos hl] at h
    rw [h]
    exact ⟨rfl, by dsimp only; omega, (decide_eq_true (by omega)).symm⟩
  · rw [if_neg hl] at h
    rw [h]
    exact ⟨rfl, by dsimp only; omega, (decide_eq_false (by omega)).symm⟩
theorem get_cnt (d : Drv) (l : Int) (hl : l = 1 ∨ l = 4) (h0 : 0 ≤ d.most) (hc : d.clocks ≤ d.most) : Cnt d (d.get l).1 (d.get l).2 (8 / l) := by
  have h := run_cnt d (List.replicate (8 / l).toNat 15) h0 hc
  have hn : (((List.replicate (8 / l).toNat (15 : Int)).length : Nat) : Int) = 8 / l := by rcases hl with rfl | rfl <;> rfl
  rw [hn] at h
  unfold Drv.get
  by_cases hok : (d.run (List.replicate (8 / l).toNat 15)).2.2 = true
  · rw [if_pos hok]; rw [hok] at h; exact ⟨h.most, h.clocks, h.all⟩
  · rw [if_neg hok]
    have hf : (d.run (List.replicate (8 / l).toNat 15)).2.2 = false := by simpa using hok
    rw [hf] at h; exact h
theorem gets_cnt (l : Int) (hl : l = 1 ∨ l = 4) (n : Nat) : ∀ d : Drv, 0 ≤ d.most → d.clocks ≤ d.most → Cnt d (d.gets l n).1 (d.gets l n).2 (n * (8 / l)) := by
  have h8 : 2 ≤ 8 / l := by rcases hl with rfl | rfl <;> decide
  induction n with
  | zero =>
    intro d h0 hc
    rw [show ((0 : Nat) : Int) * (8 / l) = 0 from Int.zero_mul _]
    exact ⟨rfl, by show d.clocks = _; omega, (decide_eq_true (by omega)).symm⟩
  | succ n ih =>
    intro d h0 hc
    have hg := get_cnt d l hl h0 hc
    have e : ((n + 1 : Nat) : Int) * (8 / l) = 8 / l + (n : Int) * (8 / l) := by rw [Int.natCast_add, Int.add_mul]; omega
    have := cnt_then (f := ((d.get l).1.gets l n).1) (ok2 := ((d.get l).1.gets l n).2) (n := (n : Int) * (8 / l)) (Int.mul_nonneg (by omega) (by omega)) hg (fun hle => ih _ (by rw [hg.most]; exact h0) (by rw [hg.most, hg.clocks]; omega))
    rw [e, Drv.gets]
    by_cases hok : (d.get l).2 = true
    · rw [hok] at this
      rw [if_pos hok]; exact this
    · have hf : (d.get l).2 = false := by simpa using hok
      rw [hf] at this
      rw [if_neg hok]; exact this
theorem phase_cnt (d : Drv) (p : Ph) (hm : p.may = true) (h0 : 0 ≤ d.most) (hc : d.clocks ≤ d.most) : Cnt d (d.phase p).1 (d.phase p).2 p.many := by
  obtain ⟨la, bs, cl, rd⟩ := p
  have hr := run_cnt d (Ph.says ⟨la, bs, cl, rd⟩) h0 hc
  have hil := ins_len hm
  have hsl : ((Ph.ins ⟨la, bs, cl, rd⟩).length : Int) = ((Ph.says ⟨la, bs, cl, rd⟩).length : Int) + (((8 / la).toNat * rd.toNat : Nat) : Int) := by unfold Ph.ins; rw [List.length_append, List.length_replicate]; exact Int.natCast_add _ _
  rw [hsl] at hil
  rw [← hil]
  unfold Drv.phase
  dsimp only
  have key : ∀ e : Drv, 0 ≤ e.most → e.clocks ≤ e.most → Cnt e (e.gets la rd.toNat).1 (e.gets la rd.toNat).2 (((8 / la).toNat * rd.toNat : Nat) : Int) := by
    intro e g0 gc
    rcases may_facts hm with ⟨hl, -, -, hr0, hr1, -⟩ | ⟨hl, -, hr0, -, -⟩
    · dsimp only at hl hr0
      have := gets_cnt la hl rd.toNat e g0 gc
      have e8 : ((8 / la).toNat : Int) = 8 / la := by rcases hl with rfl | rfl <;> rfl
      rw [Int.natCast_mul, e8, Int.mul_comm]
      exact this
    · dsimp only at hl hr0
      subst hr0
      exact ⟨rfl, by show e.clocks = _; simp; omega, (decide_eq_true (by simp; omega)).symm⟩
  have := cnt_then (f := ((d.run (Ph.says ⟨la, bs, cl, rd⟩)).1.gets la rd.toNat).1) (ok2 := ((d.run (Ph.says ⟨la, bs, cl, rd⟩)).1.gets la rd.toNat).2) (Int.natCast_nonneg _) hr (fun hle => key _ (by rw [hr.most]; exact h0) (by rw [hr.most, hr.clocks]; omega))
  by_cases hok : (d.run (Ph.says ⟨la, bs, cl, rd⟩)).2.2 = true
  · rw [hok] at this
    rw [if_pos hok]; exact this
  · have hf : (d.run (Ph.says ⟨la, bs, cl, rd⟩)).2.2 = false := by simpa using hok
    rw [hf] at this
    rw [if_neg hok]; exact this
theorem phases_cnt (ps : List Ph) : ∀ d : Drv, ps.all Ph.may = true → 0 ≤ d.most → d.clocks ≤ d.most → Cnt d (d.phases ps).1 (d.phases ps).2 (phsMany ps) := by
  induction ps with
  | nil =>
    intro d _ h0 hc
    exact ⟨rfl, by show d.clocks = min (d.clocks + 0) _; omega, (decide_eq_true (by show d.clocks + 0 ≤ _; omega)).symm⟩
  | cons p ps ih =>
    intro d h h0 hc
    rw [List.all_cons, Bool.and_eq_true] at h
    have hp := phase_cnt d p h.1 h0 hc
    have := cnt_then (f := ((d.phase p).1.phases ps).1) (ok2 := ((d.phase p).1.phases ps).2) (phsMany_bd ps h.2).1 hp (fun hle => ih _ h.2 (by rw [hp.most]; exact h0) (by rw [hp.most, hp.clocks]; omega))
    rw [phsMany_cons, Drv.phases]
    by_cases hok : (d.phase p).2 = true
    · rw [hok] at this
      rw [if_pos hok]; exact this
    · have hf : (d.phase p).2 = false := by simpa using hok
      rw [hf] at this
      rw [if_neg hok]; exact this
end Go.Proofs.YtepnljeojlbliaaGreat
