/- The walk over Select. -/
import Derived.Test.YtjdjdfllggpckaaGreatChipWE
namespace Go.Proofs.YtjdjdfllggpckaaGreat
open Go.RowKit
/-- What a Select leaves ahead of a read that goes on. -/
def St.sel0 (s : St) : St := { s with sel := true, op := op0, stage := 0, left := 8, got := 0, addr := 0, mode := 0, moded := false, data := [], told := 0, now := 0, beyond := false }
theorem select_eq (s : St) : s.select = if s.goes then s.sel0.begins 235 else s.sel0 := rfl
theorem sel0_inv {s : St} {N : Int} (h : s.Inv N) : s.sel0.Inv N :=
  ⟨h.size, h.job, ⟨Int.le_refl 0, show (0 : Int) < 4096 by decide⟩, ⟨Int.le_refl 0, Int.le_trans h.told.1 h.told.2⟩, Int.le_trans h.told.1 h.told.2, fun x hx => (by cases hx), ⟨Int.le_refl 0, show (0 : Int) ≤ 255 by decide⟩, ⟨Int.le_refl 0, show (0 : Int) ≤ 255 by decide⟩, ⟨0, rfl⟩, h.wipes, h.busy, .inl ⟨rfl, show (1 : Int) ≤ 8 by decide, show (8 : Int) ≤ 8 by decide, Int.le_refl 0, show ((0 : Int) + 1) * 2 ^ (8 : Int).toNat ≤ 256 by decide⟩⟩
theorem select_inv {s : St} {N : Int} (h : s.Inv N) : s.select.Inv N := by
  rw [select_eq]
  split
  · exact begins_inv (sel0_inv h).b _
  · exact sel0_inv h
set_option maxHeartbeats 1000000 in
theorem sel0_world {w : World} {b : Nat} {s : St} {jv bv dv : Value} (h : CB w b s jv bv dv) :
    CB (((((((((((((((((w.setCell ⟨b, 15, none⟩ (.bool true)).setCell ⟨b, 20, none⟩ (.int .i64 0)).setCell ⟨b, 21, none⟩ (.int .i64 0)).setCell ⟨b, 22, none⟩ (.bool false)).setCell ⟨b, 23, none⟩ (.int .i64 0)).setCell ⟨b, 24, none⟩ (.int .i64 0)).setCell ⟨b, 25, none⟩ (.bool false)).setCell ⟨b, 26, none⟩ (.int .i64 0)).setCell ⟨b, 27, none⟩ (.int .i64 8)).setCell ⟨b, 28, none⟩ (.int .i64 0)).setCell ⟨b, 29, none⟩ (.int .i64 0)).setCell ⟨b, 30, none⟩ (.int .i64 0)).setCell ⟨b, 31, none⟩ (.bool false)).setCell ⟨b, 32, none⟩ (.slice none 0 0)).setCell ⟨b, 33, none⟩ (.int .i64 0)).setCell ⟨b, 34, none⟩ (.int .i64 0)).setCell ⟨b, 35, none⟩ (.bool false)) b s.sel0 jv bv (.slice none 0 0) := by
  have := (((((((((((((((((h.set 15 (.bool true)).set 20 (.int .i64 0)).set 21 (.int .i64 0)).set 22 (.bool false)).set 23 (.int .i64 0)).set 24 (.int .i64 0)).set 25 (.bool false)).set 26 (.int .i64 0)).set 27 (.int .i64 8)).set 28 (.int .i64 0)).set 29 (.int .i64 0)).set 30 (.int .i64 0)).set 31 (.bool false)).set 32 (.slice none 0 0)).set 33 (.int .i64 0)).set 34 (.int .i64 0)).set 35 (.bool false))
  simp only [St.list, List.set_cons_zero, List.set_cons_succ] at this
  exact this
theorem sel0_upd (w : World) (b : Nat) : Upd (fun k => k = b) w (((((((((((((((((w.setCell ⟨b, 15, none⟩ (.bool true)).setCell ⟨b, 20, none⟩ (.int .i64 0)).setCell ⟨b, 21, none⟩ (.int .i64 0)).setCell ⟨b, 22, none⟩ (.bool false)).setCell ⟨b, 23, none⟩ (.int .i64 0)).setCell ⟨b, 24, none⟩ (.int .i64 0)).setCell ⟨b, 25, none⟩ (.bool false)).setCell ⟨b, 26, none⟩ (.int .i64 0)).setCell ⟨b, 27, none⟩ (.int .i64 8)).setCell ⟨b, 28, none⟩ (.int .i64 0)).setCell ⟨b, 29, none⟩ (.int .i64 0)).setCell ⟨b, 30, none⟩ (.int .i64 0)).setCell ⟨b, 31, none⟩ (.bool false)).setCell ⟨b, 32, none⟩ (.slice none 0 0)).setCell ⟨b, 33, none⟩ (.int .i64 0)).setCell ⟨b, 34, none⟩ (.int .i64 0)).setCell ⟨b, 35, none⟩ (.bool false)) := ((((((((((((((((((Upd.refl (fun k => k = b) w).setCell ⟨b, 15, none⟩ (.bool true) (fun _ => rfl)).setCell ⟨b, 20, none⟩ (.int .i64 0) (fun _ => rfl)).setCell ⟨b, 21, none⟩ (.int .i64 0) (fun _ => rfl)).setCell ⟨b, 22, none⟩ (.bool false) (fun _ => rfl)).setCell ⟨b, 23, none⟩ (.int .i64 0) (fun _ => rfl)).setCell ⟨b, 24, none⟩ (.int .i64 0) (fun _ => rfl)).setCell ⟨b, 25, none⟩ (.bool false) (fun _ => rfl)).setCell ⟨b, 26, none⟩ (.int .i64 0) (fun _ => rfl)).setCell ⟨b, 27, none⟩ (.int .i64 8) (fun _ => rfl)).setCell ⟨b, 28, none⟩ (.int .i64 0) (fun _ => rfl)).setCell ⟨b, 29, none⟩ (.int .i64 0) (fun _ => rfl)).setCell ⟨b, 30, none⟩ (.int .i64 0) (fun _ => rfl)).setCell ⟨b, 31, none⟩ (.bool false) (fun _ => rfl)).setCell ⟨b, 32, none⟩ (.slice none 0 0) (fun _ => rfl)).setCell ⟨b, 33, none⟩ (.int .i64 0) (fun _ => rfl)).setCell ⟨b, 34, none⟩ (.int .i64 0) (fun _ => rfl)).setCell ⟨b, 35, none⟩ (.bool false) (fun _ => rfl))
theorem begins_keeps (t : St) (c : Int) : (t.begins c).job = t.job ∧ (t.begins c).busy = t.busy ∧ (t.begins c).data = t.data := by
  refine ⟨?_, ?_, begins_data t c⟩
  · unfold St.begins St.behind
    dsimp only
    repeat' split
    all_goals rfl
  · unfold St.begins St.behind
    dsimp only
    repeat' split
    all_goals rfl
set_option maxRecDepth 100000 in
set_option maxHeartbeats 1000000 in
theorem chip_select (b : Nat) (s : St) (S : Nat → Prop) (w : World) (hA : ChipAt w b s S) (hsel : s.sel = false) :
    Calls Tryz.prog 25 #[.pointer (some ⟨b, 0, none⟩)] w fun e w' => e = .returned (.int .i64 0) ∧ ChipPost b s.select S w w' := by
  obtain ⟨jv, bv, dv, hv, rfl⟩ := hA
  have h := hv.cb
  have HV := Lib.hid hv
  have hl := lane_many 1 (.inl rfl)
  have c17 := h.cell 17
  have c15 := h.cell 15
  have f15 := h.frozen 15
  have c20 := h.cell 20
  have f20 := h.frozen 20
  have c21 := h.cell 21
  have f21 := h.frozen 21
  have c22 := h.cell 22
  have f22 := h.frozen 22
  have c23 := h.cell 23
  have f23 := h.frozen 23
  have c24 := h.cell 24
  have f24 := h.frozen 24
  have c25 := h.cell 25
  have f25 := h.frozen 25
  have c26 := h.cell 26
  have f26 := h.frozen 26
  have c27 := h.cell 27
  have f27 := h.frozen 27
  have c28 := h.cell 28
  have f28 := h.frozen 28
  have c29 := h.cell 29
  have f29 := h.frozen 29
  have c30 := h.cell 30
  have f30 := h.frozen 30
  have c31 := h.cell 31
  have f31 := h.frozen 31
  have c32 := h.cell 32
  have f32 := h.frozen 32
  have c33 := h.cell 33
  have f33 := h.frozen 33
  have c34 := h.cell 34
  have f34 := h.frozen 34
  have c35 := h.cell 35
  have f35 := h.frozen 35
  simp only [St.list, List.getElem?_cons_succ, List.getElem?_cons_zero] at c15 c17 c20 c21 c22 c23 c24 c25 c26 c27 c28 c29 c30 c31 c32 c33 c34 c35
  rw [hsel] at c15
  have hW := Lib.hid (sel0_world h)
  have hU := Lib.hid (sel0_upd w b)
  have hdel : ∀ (w' : World) (t : St), CB w' b t jv bv (.slice none 0 0) → t.job = s.job → t.busy = s.busy → t.data = [] → Upd (fun k => k = b) w w' → ChipPost b t (chipSet b jv bv dv) w w' := by
    intro w' t hB e1 e2 e3 hu
    refine ⟨chipSet b jv bv (.slice none 0 0), ⟨jv, bv, .slice none 0 0, ⟨hB, ?_, ?_, fun k hk => Nat.lt_of_lt_of_le (HV.out.busyLt k hk) hu.size, ?_, HV.out.sj, HV.out.sb, fun k hk => (by simp [Value.ownBlock] at hk)⟩, rfl⟩, ?_, hu.mono (fun k _ e => .inl e)⟩
    · rw [e1]; exact HV.out.job.upd hu (fun g hg => HV.out.sj g hg)
    · rw [e2]; exact HV.out.busy.upd hu (fun k _ hk => (HV.out.sb k hk).1)
    · rw [e3]; exact Row.nil w' _
    · rintro k (e | e | e | e)
      · exact .inl (.inl e)
      · exact .inl (.inr (.inl e))
      · exact .inl (.inr (.inr (.inl e)))
      · simp [Value.ownBlock] at e
  have HD := Lib.hid hdel
  clear hdel hv h
  cases hg : s.goes with
  | false =>
    rw [hg] at c17
    have hR : s.select = s.sel0 := by rw [select_eq, hg]; rfl
    have HR := Lib.hid hR
    clear hR
    go_enter Tryz.func25, Tryz.ntmps25
    go_wp2_with (go_at_call 53; refine (hl _).mono ?_; rintro e w' ⟨rfl, rfl⟩)
    go_ret
    rw [HR.out]
    exact ⟨rfl, HD.out _ _ hW.out rfl rfl rfl hU.out⟩
  | true =>
    rw [hg] at c17
    have hR : s.select = s.sel0.begins 235 := by rw [select_eq, hg]; rfl
    have HR := Lib.hid hR
    clear hR
    go_enter Tryz.func25, Tryz.ntmps25
    go_wp2_with (go_at_call 53; refine (hl _).mono ?_; rintro e w' ⟨rfl, rfl⟩)
    refine (chip_begins b 235 s.sel0 jv bv (.slice none 0 0) _ hW.out (HV.out.job.upd hU.out (fun g hg => HV.out.sj g hg))).mono ?_
    rintro e w2 ⟨rfl, hB2, hU2⟩
    go_wp2
    go_ret
    rw [HR.out]
    obtain ⟨k1, k2, k3⟩ := begins_keeps s.sel0 235
    exact ⟨rfl, HD.out _ _ hB2 k1 k2 k3 (hU.out.trans hU2 (fun _ _ k => k))⟩
theorem chip_select_no (b : Nat) (s : St) (S : Nat → Prop) (w : World) (hA : ChipAt w b s S) (hsel : s.sel = true) :
    Calls Tryz.prog 25 #[.pointer (some ⟨b, 0, none⟩)] w fun e w' => e = .returned (.int .i64 600) ∧ w = w' := by
  obtain ⟨jv, bv, dv, hv, rfl⟩ := hA
  have c15 := hv.cb.cell 15
  simp only [St.list, List.getElem?_cons_succ, List.getElem?_cons_zero] at c15
  rw [hsel] at c15
  go_enter Tryz.func25, Tryz.ntmps25
  go_wp2
  go_ret
  exact ⟨rfl, rfl⟩
theorem chip_select_nil (w : World) :
    Calls Tryz.prog 25 #[.pointer none] w fun e w' => e = .returned (.int .i64 1) ∧ w = w' := by
  go_enter Tryz.func25, Tryz.ntmps25
  go_wp2
  go_ret
  exact ⟨rfl, rfl⟩
end Go.Proofs.YtjdjdfllggpckaaGreat
