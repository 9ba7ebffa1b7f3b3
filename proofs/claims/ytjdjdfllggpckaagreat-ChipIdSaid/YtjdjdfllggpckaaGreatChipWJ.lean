/- The walk over ends: what is no program, no erase. -/
import Derived.Test.YtjdjdfllggpckaaGreatChipWH
namespace Go.Proofs.YtjdjdfllggpckaaGreat
open Go.RowKit
theorem ChipV.cbSet {w w' : World} {b : Nat} {s t : St} {jv bv dv : Value} (hv : ChipV w b s jv bv dv) (hB : CB w' b t jv bv dv) (hU : Upd (fun k => k = b) w w') (e1 : t.job = s.job) (e2 : t.busy = s.busy) (e3 : t.data = s.data) : ChipPost b t (chipSet b jv bv dv) w w' := by
  refine ⟨chipSet b jv bv dv, ⟨jv, bv, dv, ⟨hB, ?_, ?_, fun k hk => Nat.lt_of_lt_of_le (hv.busyLt k hk) hU.size, ?_, hv.sj, hv.sb, hv.sd⟩, rfl⟩, fun k hk => .inl hk, hU.mono (fun k _ e => .inl e)⟩
  · rw [e1]; exact hv.job.upd hU (fun g hg => hv.sj g hg)
  · rw [e2]; exact hv.busy.upd hU (fun k _ hk => (hv.sb k hk).1)
  · rw [e3]; exact hv.data.upd hU (fun k hk => (hv.sd k hk).1)
theorem ChipV.post {w w' : World} {b : Nat} {s : St} {jv bv dv : Value} (hv : ChipV w b s jv bv dv) (hU : Upd none' w w') : ChipPost b s (chipSet b jv bv dv) w w' :=
  ⟨_, ⟨jv, bv, dv, ⟨hv.cb.upd hU (fun f => f), hv.job.upd hU (fun _ _ f => f), hv.busy.upd hU (fun _ _ _ f => f), fun k hk => Nat.lt_of_lt_of_le (hv.busyLt k hk) hU.size, hv.data.upd hU (fun _ _ f => f), hv.sj, hv.sb, hv.sd⟩, rfl⟩, fun k hk => .inl hk, hU.mono (fun _ _ f => f.elim)⟩
theorem ChipV.upd0 {w w' : World} {b : Nat} {s : St} {jv bv dv : Value} (hv : ChipV w b s jv bv dv) (hU : Upd none' w w') : ChipV w' b s jv bv dv :=
  ⟨hv.cb.upd hU (fun f => f), hv.job.upd hU (fun _ _ f => f), hv.busy.upd hU (fun _ _ _ f => f), fun k hk => Nat.lt_of_lt_of_le (hv.busyLt k hk) hU.size, hv.data.upd hU (fun _ _ f => f), hv.sj, hv.sb, hv.sd⟩
set_option maxRecDepth 100000 in
set_option maxHeartbeats 2000000 in
theorem ends_none (b : Nat) (s : St) (jv bv dv : Value) (w : World) (hv : ChipV w b s jv bv dv) (hda : s.op.inn = true → s.op.data = 1) (hs : s.stage = 0 ∨ s.stage = 1 ∨ s.whole = false) :
    Calls Tryz.prog 56 #[.pointer (some ⟨b, 0, none⟩)] w fun e w' => e = .returned (.tuple #[]) ∧ ChipPost b s (chipSet b jv bv dv) w w' := by
  have h := hv.cb
  have c26 := h.cell 26
  simp only [St.list, List.getElem?_cons_succ, List.getElem?_cons_zero] at c26
  have HV := Lib.hid hv
  have hwh := fun W (hW : Upd none' w W) => cmd_whole b s jv bv dv W (h.upd hW (fun f => f)) hda
  by_cases h0 : s.stage = 0
  · rw [h0] at c26
    clear hwh hs
    go_enter Tryz.func56, Tryz.ntmps56
    go_wp2
    refine bodyPost_ret (results_none rfl _ _ _) rfl ?_
    exact ⟨rfl, HV.out.post (Upd.refl _ _)⟩
  · have b0 : (s.stage == 0) = false := by simpa using h0
    by_cases h1 : s.stage = 1
    · rw [h1] at c26
      clear hwh hs
      go_enter Tryz.func56, Tryz.ntmps56
      go_wp2
      refine bodyPost_ret (results_none rfl _ _ _) rfl ?_
      exact ⟨rfl, HV.out.post (Upd.refl _ _)⟩
    · have b1 : (s.stage == 1) = false := by simpa using h1
      have hw : s.whole = false := by rcases hs with h | h | h <;> first | exact absurd h h0 | exact absurd h h1 | exact h
      rw [hw] at hwh
      have HW := Lib.hid hwh
      clear hwh hs hw
      go_enter Tryz.func56, Tryz.ntmps56
      go_wp2_with fail
      refine (HW.out _ (Upd.refl _ _)).mono ?_
      rintro e w1 ⟨rfl, hU1⟩
      go_wp2
      refine bodyPost_ret (results_none rfl _ _ _) rfl ?_
      exact ⟨rfl, HV.out.post hU1⟩
end Go.Proofs.YtjdjdfllggpckaaGreat
