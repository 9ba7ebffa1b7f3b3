/- The walk over a clock of a command: stages without a number, the answer, the end. -/
import Derived.Test.YtjdjdfllggpckaaGreatChipWA
namespace Go.Proofs.YtjdjdfllggpckaaGreat
open Go.RowKit
theorem says_data (s : St) : s.says.1.data = s.data := by
  have h1 : s.says1.data = s.data := by
    unfold St.says1
    split <;> rfl
  unfold St.says
  dsimp only
  split
  · exact h1
  · exact h1
set_option maxHeartbeats 1000000 in
theorem clock4 (b : Nat) (x : Int) (s : St) (jv bv dv : Value) (w : World) (h : CB w b s jv bv dv) (hd : Row w 3 dv (ints s.data)) (hdb : ∀ k, dv.ownBlock = some k → k ≠ b) (ha : s.op.mode = true → s.op.addr = 1 ∨ s.op.addr = 4) (hda : s.op.inn = true → s.op.data ≠ 0 → s.op.data = 1 ∨ s.op.data = 4)
    (hs : s.stage = 4) (hl : 1 ≤ s.left ∧ s.left ≤ 400) :
    Calls Tryz.prog 45 #[.pointer (some ⟨b, 0, none⟩), .int .i64 x] w (ClockPost b s jv bv dv w x) := by
  have c26 := h.cell 26
  have c27 := h.cell 27
  have f27 := h.frozen 27
  simp only [St.list, List.getElem?_cons_succ, List.getElem?_cons_zero] at c26 c27
  rw [hs] at c26
  have hs0 : ¬ s.stage = 0 := by omega
  have hs2 : ¬ s.stage = 2 := by omega
  have hs3 : ¬ s.stage = 3 := by omega
  have hB1 : CB (w.setCell ⟨b, 27, none⟩ (.int .i64 (s.left - 1))) b { s with left := s.left - 1 } jv bv dv := h.set 27 _
  have hU1 : Upd (fun k => k = b) w (w.setCell ⟨b, 27, none⟩ (.int .i64 (s.left - 1))) := (Upd.refl _ w).setCell ⟨b, 27, none⟩ _ (fun _ => rfl)
  have HB1 := Lib.hid hB1
  have HU1 := Lib.hid hU1
  clear hB1 hU1
  by_cases h1 : s.left - 1 = 0
  · have hR : s.clockIn x = ({ s with left := s.left - 1 }.behind, 15) := by
      unfold St.clockIn
      rw [if_neg hs0, if_neg hs2, if_neg hs3, if_pos hs]
      dsimp only
      rw [if_pos h1]
    have hb1 : (s.left - 1 == 0) = true := by simpa using h1
    have HR := Lib.hid hR
    clear hR h1
    go_enter Tryz.func45, Tryz.ntmps45
    go_wp2_with fail
    refine (cmd_behind b _ jv bv dv _ HB1.out ha hda).mono ?_
    rintro e w2 ⟨rfl, hB3, hU3⟩
    go_wp2
    go_ret
    have hU := HU1.out.trans hU3 (fun _ _ k => k)
    have hR := HR.out
    refine ⟨dv, by rw [hR]; rfl, by rw [hR]; exact hB3, ?_, fun k hk => .inl hk, hU.mono (fun k _ e => .inl e)⟩
    rw [hR]
    dsimp only
    rw [behind_data]
    exact hd.upd hU hdb
  · have hR : s.clockIn x = ({ s with left := s.left - 1 }, 15) := by
      unfold St.clockIn
      rw [if_neg hs0, if_neg hs2, if_neg hs3, if_pos hs]
      dsimp only
      rw [if_neg h1]
    have hb1 : (s.left - 1 == 0) = false := by simpa using h1
    have HR := Lib.hid hR
    clear hR
    go_enter Tryz.func45, Tryz.ntmps45
    go_wp2
    go_ret
    have hR := HR.out
    refine ⟨dv, by rw [hR]; rfl, by rw [hR]; exact HB1.out, ?_, fun k hk => .inl hk, HU1.out.mono (fun k _ e => .inl e)⟩
    rw [hR]
    exact hd.upd HU1.out hdb
set_option maxHeartbeats 1000000 in
theorem clock6 (ht : TableSaid) (b : Nat) (x : Int) (s : St) (jv bv dv : Value) (w : World) (h : CB w b s jv bv dv) (hd : Row w 3 dv (ints s.data)) (hdb : ∀ k, dv.ownBlock = some k → k ≠ b) (hj : JobV w jv s.job) (hsz : s.a.size = 4096) (hi : 0 ≤ s.told ∧ s.told ≤ 1099511627776) (had : 0 ≤ s.addr ∧ s.addr < 4096)
    (hdl : s.op.data = 1 ∧ 0 ≤ s.left ∧ s.left ≤ 7 ∨ s.op.data = 4 ∧ 0 ≤ s.left ∧ s.left ≤ 1) (hn : 0 ≤ s.now ∧ s.now ≤ 255) (hs : s.stage = 6) :
    Calls Tryz.prog 45 #[.pointer (some ⟨b, 0, none⟩), .int .i64 x] w (ClockPost b s jv bv dv w x) := by
  have c26 := h.cell 26
  simp only [St.list, List.getElem?_cons_succ, List.getElem?_cons_zero] at c26
  rw [hs] at c26
  have hR : s.clockIn x = s.says := by
    unfold St.clockIn
    rw [if_neg (by omega), if_neg (by omega), if_neg (by omega), if_neg (by omega), if_neg (by omega), if_pos hs]
  go_enter Tryz.func45, Tryz.ntmps45
  go_wp2_with fail
  refine (chip_says ht b s jv bv dv _ h hj hsz hi had hdl hn (byteAt_bd s s.told)).mono ?_
  rintro e w1 ⟨rfl, hB1, hU1⟩
  go_wp2
  go_ret
  refine ⟨dv, by rw [hR]; rfl, by rw [hR]; exact hB1, ?_, fun k hk => .inl hk, hU1.mono (fun k _ e => .inl e)⟩
  rw [hR, says_data]
  exact hd.upd hU1 hdb
theorem clock7 (b : Nat) (x : Int) (s : St) (jv bv dv : Value) (w : World) (h : CB w b s jv bv dv) (hd : Row w 3 dv (ints s.data)) (hdb : ∀ k, dv.ownBlock = some k → k ≠ b) (hs : s.stage = 7) :
    Calls Tryz.prog 45 #[.pointer (some ⟨b, 0, none⟩), .int .i64 x] w (ClockPost b s jv bv dv w x) := by
  have c26 := h.cell 26
  have c35 := h.cell 35
  have f35 := h.frozen 35
  simp only [St.list, List.getElem?_cons_succ, List.getElem?_cons_zero] at c26 c35
  rw [hs] at c26
  have hR : s.clockIn x = ({ s with beyond := true }, 15) := by
    unfold St.clockIn
    rw [if_neg (by omega), if_neg (by omega), if_neg (by omega), if_neg (by omega), if_neg (by omega), if_neg (by omega), if_pos hs]
  have HR := Lib.hid hR
  clear hR
  go_enter Tryz.func45, Tryz.ntmps45
  go_wp2
  go_ret
  have hR := HR.out
  have hU1 : Upd (fun k => k = b) w (w.setCell ⟨b, 35, none⟩ (.bool true)) := (Upd.refl _ w).setCell ⟨b, 35, none⟩ _ (fun _ => rfl)
  refine ⟨dv, by rw [hR]; rfl, by rw [hR]; exact h.set 35 _, ?_, fun k hk => .inl hk, hU1.mono (fun k _ e => .inl e)⟩
  rw [hR]
  exact hd.upd hU1 hdb
theorem clock1 (b : Nat) (x : Int) (s : St) (jv bv dv : Value) (w : World) (h : CB w b s jv bv dv) (hd : Row w 3 dv (ints s.data)) (_ : ∀ k, dv.ownBlock = some k → k ≠ b) (hs : s.stage = 1) :
    Calls Tryz.prog 45 #[.pointer (some ⟨b, 0, none⟩), .int .i64 x] w (ClockPost b s jv bv dv w x) := by
  have c26 := h.cell 26
  simp only [St.list, List.getElem?_cons_succ, List.getElem?_cons_zero] at c26
  rw [hs] at c26
  have hR : s.clockIn x = (s, 15) := by
    unfold St.clockIn
    rw [if_neg (by omega), if_neg (by omega), if_neg (by omega), if_neg (by omega), if_neg (by omega), if_neg (by omega), if_neg (by omega)]
  have HR := Lib.hid hR
  clear hR
  go_enter Tryz.func45, Tryz.ntmps45
  go_wp2
  go_ret
  have hR := HR.out
  exact ⟨dv, by rw [hR]; rfl, by rw [hR]; exact h, by rw [hR]; exact hd, fun k hk => .inl hk, Upd.refl _ w⟩
end Go.Proofs.YtjdjdfllggpckaaGreat
