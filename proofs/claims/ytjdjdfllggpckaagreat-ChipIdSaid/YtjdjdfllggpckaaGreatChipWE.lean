/- The walk over Clock. -/
import Derived.Test.YtjdjdfllggpckaaGreatChipAt
namespace Go.Proofs.YtjdjdfllggpckaaGreat
open Go.RowKit
theorem pass_inv {s : St} {N : Int} (h : s.Inv N) : s.pass.Inv N := by
  unfold St.pass
  split
  · exact h
  · rename_i j hj
    have hok := h.job j hj
    split
    · exact h
    · split
      · exact ⟨by rw [show (_ : St).a = j.cells s.a all255 from rfl, Job.cells_size]; exact h.size, fun _ e => (by cases e), h.addr, h.told, h.len, h.data, h.now, h.mode, h.op, h.wipes, h.busy, h.part⟩
      · rename_i hl
        refine ⟨h.size, ?_, h.addr, h.told, h.len, h.data, h.now, h.mode, h.op, h.wipes, h.busy, h.part⟩
        intro j' e
        have e' : some { j with left := j.left - 1 } = some j' := e
        simp only [Option.some.injEq] at e'
        subst e'
        exact ⟨hok.1, by dsimp only; omega, by have := hok.2.2; dsimp only; omega⟩
theorem clock_inv {s : St} {N : Int} (h : s.Inv N) (x : Int) : (s.clock x).1.Inv (N + 1) := by
  unfold St.clock
  dsimp only
  split
  · exact clockIn_inv (pass_inv h) x
  · exact (pass_inv h).mono (by omega)
theorem pass_keeps (s : St) : s.pass.busy = s.busy ∧ s.pass.data = s.data ∧ s.pass.sel = s.sel := by
  unfold St.pass
  repeat' split
  all_goals exact ⟨rfl, rfl, rfl⟩
/-- What a call leaves of a chip. -/
def ChipPost (b : Nat) (s' : St) (S : Nat → Prop) (w w' : World) : Prop := ∃ S', ChipAt w' b s' S' ∧ (∀ k, S' k → S k ∨ w.heap.size ≤ k) ∧ Upd S w w'
theorem ChipV.pass {w w1 : World} {b : Nat} {s : St} {jv jv' bv dv : Value} (hv : ChipV w b s jv bv dv) (hB : CB w1 b s.pass jv' bv dv) (hJ : JobV w1 jv' s.pass.job) (hjj : jv' = jv ∨ jv' = .pointer none) (hU : Upd (fun k => k = b ∨ jv = .pointer (some ⟨k, 0, none⟩)) w w1) :
    ChipV w1 b s.pass jv' bv dv ∧ ∀ k, chipSet b jv' bv dv k → chipSet b jv bv dv k := by
  obtain ⟨e1, e2, e3⟩ := pass_keeps s
  have hptr : ∀ k, jv' = .pointer (some ⟨k, 0, none⟩) → jv = .pointer (some ⟨k, 0, none⟩) := by
    intro k hk
    rcases hjj with h | h
    · rw [← h]; exact hk
    · rw [h] at hk; cases hk
  have h1 : RS w1 bv (ints s.pass.busy) := by
    rw [e1]
    refine hv.busy.upd hU (fun k _ hk e => ?_)
    rcases e with e | e
    · exact (hv.sb k hk).1 e
    · exact (hv.sb k hk).2 e
  have h2 : Row w1 3 dv (ints s.pass.data) := by
    rw [e2]
    refine hv.data.upd hU (fun k hk e => ?_)
    rcases e with e | e
    · exact (hv.sd k hk).1 e
    · exact (hv.sd k hk).2.1 e
  refine ⟨⟨hB, hJ, h1, fun k hk => Nat.lt_of_lt_of_le (hv.busyLt k hk) hU.size, h2, fun k hk => hv.sj k (hptr k hk), fun k hk => ⟨(hv.sb k hk).1, fun e => (hv.sb k hk).2 (hptr k e)⟩,
    fun k hk => ⟨(hv.sd k hk).1, fun e => (hv.sd k hk).2.1 (hptr k e), (hv.sd k hk).2.2⟩⟩, ?_⟩
  · rintro k (h | h | h | h)
    · exact .inl h
    · exact .inr (.inl (hptr k h))
    · exact .inr (.inr (.inl h))
    · exact .inr (.inr (.inr h))
theorem ChipV.clockIn {w w1 : World} {b : Nat} {s : St} {jv bv dv : Value} {x : Int} {e : Ending} (hv : ChipV w b s jv bv dv) (h : ClockPost b s jv bv dv w x e w1) : e = .returned (.int .i64 (s.clockIn x).2) ∧ ChipPost b (s.clockIn x).1 (chipSet b jv bv dv) w w1 := by
  obtain ⟨dv', he, hB, hR, hf, hU⟩ := h
  have hkeep : (s.clockIn x).1.job = s.job ∧ (s.clockIn x).1.busy = s.busy := by
    have kb : ∀ t : St, t.behind.job = t.job ∧ t.behind.busy = t.busy := fun t => by
      unfold St.behind
      repeat' split
      all_goals exact ⟨rfl, rfl⟩
    have kg : ∀ (t : St) (c : Int), (t.begins c).job = t.job ∧ (t.begins c).busy = t.busy := fun t c => by
      unfold St.begins
      dsimp only
      split
      · exact ⟨rfl, rfl⟩
      · split
        · exact ⟨rfl, rfl⟩
        · exact kb _
    have ks : s.says.1.job = s.job ∧ s.says.1.busy = s.busy := by
      have k1 : s.says1.job = s.job ∧ s.says1.busy = s.busy := by
        unfold St.says1
        split <;> exact ⟨rfl, rfl⟩
      unfold St.says
      dsimp only
      split <;> exact k1
    unfold St.clockIn
    dsimp only
    split
    · split
      · exact kg _ _
      · exact ⟨rfl, rfl⟩
    · split
      · split
        · exact kb _
        · exact ⟨rfl, rfl⟩
      · split
        · split
          · exact kb _
          · exact ⟨rfl, rfl⟩
        · split
          · split
            · exact kb _
            · exact ⟨rfl, rfl⟩
          · split
            · split
              · exact kb _
              · exact ⟨rfl, rfl⟩
            · split
              · exact ks
              · split <;> exact ⟨rfl, rfl⟩
  have hnew : ∀ k, dv'.ownBlock = some k → k ≠ b ∧ jv ≠ .pointer (some ⟨k, 0, none⟩) ∧ bv.ownBlock ≠ some k := by
    intro k hk
    rcases hf k hk with h1 | h1
    · exact hv.sd k h1
    · refine ⟨fun e => ?_, fun e => ?_, fun e => ?_⟩
      · have := hv.cb.lt; omega
      · have := hv.job.lt k e; omega
      · have := hv.busyLt k e; omega
  refine ⟨he, chipSet b jv bv dv', ⟨jv, bv, dv', ⟨hB, ?_, ?_, fun k hk => Nat.lt_of_lt_of_le (hv.busyLt k hk) hU.size, hR, hv.sj, hv.sb, hnew⟩, rfl⟩, ?_, ?_⟩
  · rw [hkeep.1]
    refine hv.job.upd hU (fun g hg e => ?_)
    rcases e with e | e
    · exact hv.sj g hg e
    · exact (hv.sd g e).2.1 hg
  · rw [hkeep.2]
    refine hv.busy.upd hU (fun k _ hk e => ?_)
    rcases e with e | e
    · exact (hv.sb k hk).1 e
    · exact (hv.sd k e).2.2 hk
  · rintro k (h | h | h | h)
    · exact .inl (.inl h)
    · exact .inl (.inr (.inl h))
    · exact .inl (.inr (.inr (.inl h)))
    · rcases hf k h with h1 | h1
      · exact .inl (.inr (.inr (.inr h1)))
      · exact .inr h1
  · refine hU.mono (fun k _ e => ?_)
    rcases e with e | e
    · exact .inl e
    · exact .inr (.inr (.inr e))
set_option maxRecDepth 100000 in
set_option maxHeartbeats 1000000 in
theorem chip_clock (ht : TableSaid) (b : Nat) (x : Int) (s : St) (S : Nat → Prop) (w : World) (h : ChipAt w b s S) (N : Int) (hI : s.Inv N) (hN : N ≤ 1048576) (hx : 0 ≤ x ∧ x ≤ 15) :
    Calls Tryz.prog 19 #[.pointer (some ⟨b, 0, none⟩), .int .i64 x] w fun e w' => e = .returned (.tuple #[.int .i64 (s.clock x).2, .int .i64 0]) ∧ ChipPost b (s.clock x).1 S w w' := by
  obtain ⟨jv, bv, dv, hv, rfl⟩ := h
  have HV := Lib.hid hv
  go_enter Tryz.func19, Tryz.ntmps19
  go_wp2_with fail
  refine (chip_pass b s jv bv dv _ hv.cb hv.job hI.job hI.size hv.jb).mono ?_
  rintro e w1 ⟨rfl, jv', hB1, hJ1, hjj, hU1⟩
  obtain ⟨hv1, hset⟩ := HV.out.pass hB1 hJ1 hjj hU1
  have c15 := hB1.cell 15
  simp only [St.list, List.getElem?_cons_succ, List.getElem?_cons_zero] at c15
  have hU1' : Upd (chipSet b jv bv dv) w w1 := hU1.mono (fun k _ e => e.elim .inl (fun e => .inr (.inl e)))
  cases hsel : s.pass.sel with
  | false =>
    have hR : s.clock x = (s.pass, 15) := by unfold St.clock; dsimp only; rw [hsel]; rfl
    rw [hsel] at c15
    have HV1 := Lib.hid hv1
    have HR := Lib.hid hR
    clear hv hv1 hR hB1 hJ1
    go_wp2
    go_ret2
    rw [HR.out]
    exact ⟨rfl, chipSet b jv' bv dv, ⟨jv', bv, dv, HV1.out, rfl⟩, fun k hk => .inl (hset k hk), hU1'⟩
  | true =>
    have hR : s.clock x = s.pass.clockIn x := by unfold St.clock; dsimp only; rw [hsel]; rfl
    rw [hsel] at c15
    have HV1 := Lib.hid hv1
    have HR := Lib.hid hR
    clear hv hv1 hR hB1 hJ1
    go_wp2_with fail
    refine (chip_clockIn ht b x s.pass jv' bv dv _ HV1.out N (pass_inv hI) hN).mono ?_
    intro e w2 hpost
    obtain ⟨rfl, S', hA, hS', hU2⟩ := HV1.out.clockIn hpost
    go_wp2
    go_ret2
    rw [HR.out]
    refine ⟨rfl, S', hA, fun k hk => ?_, hU1'.trans hU2 (fun k _ e => hset k e)⟩
    rcases hS' k hk with h1 | h1
    · exact .inl (hset k h1)
    · exact .inr (Nat.le_trans hU1'.size h1)
end Go.Proofs.YtjdjdfllggpckaaGreat
