/- The walk over a clock of a command. · The walk over a clock of a command: stages without a number, the answer, the end. · The walk over a clock of a command: data that go. · A chip in memory, whole; the walks over Clock and over a clock of a command. · The walk over Clock. · The walk over Select. -/
import Derived.Test.YtepnljeojlbliaaGreatChipC
import Derived.Test.YtepnljeojlbliaaGreatChipM
import Derived.Test.YtepnljeojlbliaaGreatLow
import Derived.Deep.AppendLies
import Derived.Deep.RegionLaw
namespace Go.Proofs.YtepnljeojlbliaaGreat
open Go.RowKit
/-- What a clock of a command leaves. -/
def ClockPost (b : Nat) (s : St) (jv bv dv : Value) (w : World) (x : Int) (e : Ending) (w' : World) : Prop :=
  ∃ dv', e = .returned (.int .i64 (s.clockIn x).2) ∧ CB w' b (s.clockIn x).1 jv bv dv' ∧ Row w' 3 dv' (ints (s.clockIn x).1.data) ∧ (∀ k, dv'.ownBlock = some k → dv.ownBlock = some k ∨ w.heap.size ≤ k) ∧ Upd (fun k => k = b ∨ dv.ownBlock = some k) w w'
theorem behind_data (s : St) : s.behind.data = s.data := by
  unfold St.behind
  repeat' split
  all_goals rfl
theorem begins_data (s : St) (c : Int) : (s.begins c).data = s.data := by
  unfold St.begins
  dsimp only
  split
  · rfl
  · split
    · rfl
    · rw [behind_data]
theorem tmod4096 {z : Int} (h : 0 ≤ z) : z.tmod 4096 = z % 4096 := Int.tmod_eq_emod_of_nonneg h
theorem takesIn_got {s : St} {x lanes : Int} (hg : 0 ≤ s.got) : 0 ≤ (s.takesIn x lanes).got := by
  unfold St.takesIn
  dsimp only
  split
  · have := Int.emod_nonneg x (show (2 : Int) ≠ 0 by decide); omega
  · have := Int.emod_nonneg x (show (16 : Int) ≠ 0 by decide); omega
theorem bd256 {g l : Int} (hg : 0 ≤ g) (h : (g + 1) * 2 ^ l.toNat ≤ 256) : g ≤ 1073741824 := by have := got2 hg h; omega
set_option maxHeartbeats 1000000 in
theorem clock0 (b : Nat) (x : Int) (s : St) (jv bv dv : Value) (w : World) (h : CB w b s jv bv dv) (hj : JobV w jv s.job) (hjb : jv ≠ .pointer (some ⟨b, 0, none⟩)) (hd : Row w 3 dv (ints s.data)) (hdb : ∀ k, dv.ownBlock = some k → k ≠ b)
    (hs : s.stage = 0) (hl : 1 ≤ s.left ∧ s.left ≤ 8) (hg : 0 ≤ s.got) (hgl : (s.got + 1) * 2 ^ s.left.toNat ≤ 256) :
    Calls Tryz.prog 98 #[.pointer (some ⟨b, 0, none⟩), .int .i64 x] w (ClockPost b s jv bv dv w x) := by
  have c26 := h.cell 26
  simp only [St.list, List.getElem?_cons_succ, List.getElem?_cons_zero] at c26
  rw [hs] at c26
  have hgb := bd256 hg hgl
  go_enter Tryz.func98, Tryz.ntmps98
  go_wp2_with fail
  refine (cmd_takesIn b s jv bv dv x 1 _ h (.inl rfl) ⟨hg, hgb⟩ (by omega)).mono ?_
  rintro e w1 ⟨rfl, hB1, hU1⟩
  by_cases h1 : s.left - 1 = 0
  · have hb1 : (s.left - 1 == 0) = true := by simpa using h1
    have hR : s.clockIn x = ((s.takesIn x 1).begins (s.takesIn x 1).got, 15) := by
      unfold St.clockIn
      rw [if_pos hs]
      dsimp only
      rw [if_pos (show (s.takesIn x 1).left = 0 from h1)]
    rw [hb1]
    have c28 := hB1.cell 28
    simp only [St.list, List.getElem?_cons_succ, List.getElem?_cons_zero] at c28
    have hj1 := hj.upd hU1 (fun g hg e => hjb (by rw [hg, e]))
    go_wp2_with fail
    refine (chip_begins b _ _ jv bv dv _ hB1 hj1).mono ?_
    rintro e w2 ⟨rfl, hB2, hU2⟩
    go_wp2
    go_ret
    have hU := hU1.trans hU2 (fun _ _ k => k)
    refine ⟨dv, by rw [hR]; rfl, by rw [hR]; exact hB2, ?_, fun k hk => .inl hk, hU.mono (fun k _ e => .inl e)⟩
    rw [hR]
    dsimp only
    rw [begins_data]
    exact hd.upd hU hdb
  · have hb1 : (s.left - 1 == 0) = false := by simpa using h1
    have hR : s.clockIn x = (s.takesIn x 1, 15) := by
      unfold St.clockIn
      rw [if_pos hs]
      dsimp only
      rw [if_neg (show ¬ (s.takesIn x 1).left = 0 from h1)]
    rw [hb1]
    go_wp2
    go_ret
    refine ⟨dv, by rw [hR]; rfl, by rw [hR]; exact hB1, ?_, fun k hk => .inl hk, hU1.mono (fun k _ e => .inl e)⟩
    rw [hR]
    exact hd.upd hU1 hdb
set_option maxHeartbeats 1000000 in
theorem clock2 (b : Nat) (x : Int) (s : St) (jv bv dv : Value) (w : World) (h : CB w b s jv bv dv) (hd : Row w 3 dv (ints s.data)) (hdb : ∀ k, dv.ownBlock = some k → k ≠ b) (ha : s.op.mode = true → s.op.addr = 1 ∨ s.op.addr = 4) (hda : s.op.inn = true → s.op.data ≠ 0 → s.op.data = 1 ∨ s.op.data = 4)
    (hs : s.stage = 2) (hln : s.op.addr = 1 ∨ s.op.addr = 4) (hl : 1 ≤ s.left ∧ s.left ≤ 400) (hg : 0 ≤ s.got ∧ s.got ≤ 1073741824) :
    Calls Tryz.prog 98 #[.pointer (some ⟨b, 0, none⟩), .int .i64 x] w (ClockPost b s jv bv dv w x) := by
  have c26 := h.cell 26
  have c21 := h.cell 21
  simp only [St.list, List.getElem?_cons_succ, List.getElem?_cons_zero] at c26 c21
  rw [hs] at c26
  go_enter Tryz.func98, Tryz.ntmps98
  go_wp2_with fail
  refine (cmd_takesIn b s jv bv dv x s.op.addr _ h hln hg hl).mono ?_
  rintro e w1 ⟨rfl, hB1, hU1⟩
  have hs0 : ¬ s.stage = 0 := by omega
  by_cases h1 : s.left - 1 = 0
  · have hb1 : (s.left - 1 == 0) = true := by simpa using h1
    have hR : s.clockIn x = ({ s.takesIn x s.op.addr with addr := (s.takesIn x s.op.addr).got % 4096 }.behind, 15) := by
      unfold St.clockIn
      rw [if_neg hs0, if_pos hs]
      dsimp only
      rw [if_pos (show (s.takesIn x s.op.addr).left = 0 from h1)]
    rw [hb1]
    have hgn := takesIn_got (x := x) (lanes := s.op.addr) hg.1
    have hop : (s.takesIn x s.op.addr).op = s.op := rfl
    have c28 := hB1.cell 28
    have c29 := hB1.cell 29
    have f29 := hB1.frozen 29
    simp only [St.list, List.getElem?_cons_succ, List.getElem?_cons_zero] at c28 c29
    have hdt : { s.takesIn x s.op.addr with addr := (s.takesIn x s.op.addr).got % 4096 }.behind.data = s.data := by rw [behind_data]; rfl
    obtain ⟨g1, hg1⟩ : ∃ g1, (s.takesIn x s.op.addr).got = g1 := ⟨_, rfl⟩
    rw [hg1] at c28 hgn
    have hB2 : CB (w1.setCell ⟨b, 29, none⟩ (.int .i64 (g1 % 4096))) b { s.takesIn x s.op.addr with addr := (s.takesIn x s.op.addr).got % 4096 } jv bv dv := by rw [hg1]; exact hB1.set 29 _
    have hU2 : Upd (fun k => k = b) w (w1.setCell ⟨b, 29, none⟩ (.int .i64 (g1 % 4096))) := hU1.setCell ⟨b, 29, none⟩ _ (fun _ => rfl)
    have HB2 := Lib.hid hB2
    have HU2 := Lib.hid hU2
    have HR := Lib.hid hR
    have HG := Lib.hid hg1
    have htm := tmod4096 hgn
    clear hB1 hU1 hR hB2 hU2 hg1
    go_wp2_with fail
    refine (cmd_behind b _ jv bv dv _ HB2.out ha hda).mono ?_
    rintro e w2 ⟨rfl, hB3, hU3⟩
    go_wp2
    go_ret
    have hU := HU2.out.trans hU3 (fun _ _ k => k)
    have hR := HR.out
    refine ⟨dv, by rw [hR]; rfl, by rw [hR]; exact hB3, ?_, fun k hk => .inl hk, hU.mono (fun k _ e => .inl e)⟩
    rw [hR]
    dsimp only
    rw [hdt]
    exact hd.upd hU hdb
  · have hb1 : (s.left - 1 == 0) = false := by simpa using h1
    have hR : s.clockIn x = (s.takesIn x s.op.addr, 15) := by
      unfold St.clockIn
      rw [if_neg hs0, if_pos hs]
      dsimp only
      rw [if_neg (show ¬ (s.takesIn x s.op.addr).left = 0 from h1)]
    rw [hb1]
    have HR := Lib.hid hR
    clear hR
    go_wp2
    go_ret
    have hR := HR.out
    refine ⟨dv, by rw [hR]; rfl, by rw [hR]; exact hB1, ?_, fun k hk => .inl hk, hU1.mono (fun k _ e => .inl e)⟩
    rw [hR]
    exact hd.upd hU1 hdb
set_option maxHeartbeats 1000000 in
theorem clock3 (b : Nat) (x : Int) (s : St) (jv bv dv : Value) (w : World) (h : CB w b s jv bv dv) (hd : Row w 3 dv (ints s.data)) (hdb : ∀ k, dv.ownBlock = some k → k ≠ b) (ha : s.op.mode = true → s.op.addr = 1 ∨ s.op.addr = 4) (hda : s.op.inn = true → s.op.data ≠ 0 → s.op.data = 1 ∨ s.op.data = 4)
    (hs : s.stage = 3) (hln : s.op.addr = 1 ∨ s.op.addr = 4) (hl : 1 ≤ s.left ∧ s.left ≤ 400) (hg : 0 ≤ s.got ∧ s.got ≤ 1073741824) :
    Calls Tryz.prog 98 #[.pointer (some ⟨b, 0, none⟩), .int .i64 x] w (ClockPost b s jv bv dv w x) := by
  have c26 := h.cell 26
  have c21 := h.cell 21
  simp only [St.list, List.getElem?_cons_succ, List.getElem?_cons_zero] at c26 c21
  rw [hs] at c26
  go_enter Tryz.func98, Tryz.ntmps98
  go_wp2_with fail
  refine (cmd_takesIn b s jv bv dv x s.op.addr _ h hln hg hl).mono ?_
  rintro e w1 ⟨rfl, hB1, hU1⟩
  have hs0 : ¬ s.stage = 0 := by omega
  have hs2 : ¬ s.stage = 2 := by omega
  by_cases h1 : s.left - 1 = 0
  · have hb1 : (s.left - 1 == 0) = true := by simpa using h1
    have hR : s.clockIn x = ({ s.takesIn x s.op.addr with mode := (s.takesIn x s.op.addr).got, moded := true }.behind, 15) := by
      unfold St.clockIn
      rw [if_neg hs0, if_neg hs2, if_pos hs]
      dsimp only
      rw [if_pos (show (s.takesIn x s.op.addr).left = 0 from h1)]
    rw [hb1]
    have hgn := takesIn_got (x := x) (lanes := s.op.addr) hg.1
    have hop : (s.takesIn x s.op.addr).op = s.op := rfl
    have c28 := hB1.cell 28
    have c30 := hB1.cell 30
    have f30 := hB1.frozen 30
    have c31 := hB1.cell 31
    have f31 := hB1.frozen 31
    simp only [St.list, List.getElem?_cons_succ, List.getElem?_cons_zero] at c28 c30 c31
    have hdt : { s.takesIn x s.op.addr with mode := (s.takesIn x s.op.addr).got, moded := true }.behind.data = s.data := by rw [behind_data]; rfl
    obtain ⟨g1, hg1⟩ : ∃ g1, (s.takesIn x s.op.addr).got = g1 := ⟨_, rfl⟩
    rw [hg1] at c28 hgn
    have hB2 : CB ((w1.setCell ⟨b, 30, none⟩ (.int .i64 g1)).setCell ⟨b, 31, none⟩ (.bool true)) b { s.takesIn x s.op.addr with mode := (s.takesIn x s.op.addr).got, moded := true } jv bv dv := by rw [hg1]; exact (hB1.set 30 _).set 31 _
    have hU2 : Upd (fun k => k = b) w ((w1.setCell ⟨b, 30, none⟩ (.int .i64 g1)).setCell ⟨b, 31, none⟩ (.bool true)) := (hU1.setCell ⟨b, 30, none⟩ _ (fun _ => rfl)).setCell ⟨b, 31, none⟩ _ (fun _ => rfl)
    have HB2 := Lib.hid hB2
    have HU2 := Lib.hid hU2
    have HR := Lib.hid hR
    have HG := Lib.hid hg1
    clear hB1 hU1 hR hB2 hU2 hg1
    go_wp2_with fail
    refine (cmd_behind b _ jv bv dv _ HB2.out ha hda).mono ?_
    rintro e w2 ⟨rfl, hB3, hU3⟩
    go_wp2
    go_ret
    have hU := HU2.out.trans hU3 (fun _ _ k => k)
    have hR := HR.out
    refine ⟨dv, by rw [hR]; rfl, by rw [hR]; exact hB3, ?_, fun k hk => .inl hk, hU.mono (fun k _ e => .inl e)⟩
    rw [hR]
    dsimp only
    rw [hdt]
    exact hd.upd hU hdb
  · have hb1 : (s.left - 1 == 0) = false := by simpa using h1
    have hR : s.clockIn x = (s.takesIn x s.op.addr, 15) := by
      unfold St.clockIn
      rw [if_neg hs0, if_neg hs2, if_pos hs]
      dsimp only
      rw [if_neg (show ¬ (s.takesIn x s.op.addr).left = 0 from h1)]
    rw [hb1]
    have HR := Lib.hid hR
    clear hR
    go_wp2
    go_ret
    have hR := HR.out
    refine ⟨dv, by rw [hR]; rfl, by rw [hR]; exact hB1, ?_, fun k hk => .inl hk, hU1.mono (fun k _ e => .inl e)⟩
    rw [hR]
    exact hd.upd hU1 hdb
end Go.Proofs.YtepnljeojlbliaaGreat
namespace Go.Proofs.YtepnljeojlbliaaGreat
open Go.RowKit
theorem says_data (s : St) : s.says.1.data = s.data := by
  have h1 : s.says1.data = s.data := by
    unfold St.says1
    split <;> rfl
  unfold St.says
  dsimp only
  split
  · exact h1
  · exact h1
set_option maxHeartbeats 1000000 in
theorem clock4 (b : Nat) (x : Int) (s : St) (jv bv dv : Value) (w : World) (h : CB w b s jv bv dv) (hd : Row w 3 dv (ints s.data)) (hdb : ∀ k, dv.ownBlock = some k → k ≠ b) (ha : s.op.mode = true → s.op.addr = 1 ∨ s.op.addr = 4) (hda : s.op.inn = true → s.op.data ≠ 0 → s.op.data = 1 ∨ s.op.data = 4)
    (hs : s.stage = 4) (hl : 1 ≤ s.left ∧ s.left ≤ 400) :
    Calls Tryz.prog 98 #[.pointer (some ⟨b, 0, none⟩), .int .i64 x] w (ClockPost b s jv bv dv w x) := by
  have c26 := h.cell 26
  have c27 := h.cell 27
  have f27 := h.frozen 27
  simp only [St.list, List.getElem?_cons_succ, List.getElem?_cons_zero] at c26 c27
  rw [hs] at c26
  have hs0 : ¬ s.stage = 0 := by omega
  have hs2 : ¬ s.stage = 2 := by omega
  have hs3 : ¬ s.stage = 3 := by omega
  have hB1 : CB (w.setCell ⟨b, 27, none⟩ (.int .i64 (s.left - 1))) b { s with left := s.left - 1 } jv bv dv := h.set 27 _
  have hU1 : Upd (fun k => k = b) w (w.setCell ⟨b, 27, none⟩ (.int .i64 (s.left - 1))) := (Upd.refl _ w).setCell ⟨b, 27, none⟩ _ (fun _ => rfl)
  have HB1 := Lib.hid hB1
  have HU1 := Lib.hid hU1
  clear hB1 hU1
  by_cases h1 : s.left - 1 = 0
  · have hR : s.clockIn x = ({ s with left := s.left - 1 }.behind, 15) := by
      unfold St.clockIn
      rw [if_neg hs0, if_neg hs2, if_neg hs3, if_pos hs]
      dsimp only
      rw [if_pos h1]
    have hb1 : (s.left - 1 == 0) = true := by simpa using h1
    have HR := Lib.hid hR
    clear hR h1
    go_enter Tryz.func98, Tryz.ntmps98
    go_wp2_with fail
    refine (cmd_behind b _ jv bv dv _ HB1.out ha hda).mono ?_
    rintro e w2 ⟨rfl, hB3, hU3⟩
    go_wp2
    go_ret
    have hU := HU1.out.trans hU3 (fun _ _ k => k)
    have hR := HR.out
    refine ⟨dv, by rw [hR]; rfl, by rw [hR]; exact hB3, ?_, fun k hk => .inl hk, hU.mono (fun k _ e => .inl e)⟩
    rw [hR]
    dsimp only
    rw [behind_data]
    exact hd.upd hU hdb
  · have hR : s.clockIn x = ({ s with left := s.left - 1 }, 15) := by
      unfold St.clockIn
      rw [if_neg hs0, if_neg hs2, if_neg hs3, if_pos hs]
      dsimp only
      rw [if_neg h1]
    have hb1 : (s.left - 1 == 0) = false := by simpa using h1
    have HR := Lib.hid hR
    clear hR
    go_enter Tryz.func98, Tryz.ntmps98
    go_wp2
    go_ret
    have hR := HR.out
    refine ⟨dv, by rw [hR]; rfl, by rw [hR]; exact HB1.out, ?_, fun k hk => .inl hk, HU1.out.mono (fun k _ e => .inl e)⟩
    rw [hR]
    exact hd.upd HU1.out hdb
set_option maxHeartbeats 1000000 in
theorem clock6 (ht : TableSaid) (b : Nat) (x : Int) (s : St) (jv bv dv : Value) (w : World) (h : CB w b s jv bv dv) (hd : Row w 3 dv (ints s.data)) (hdb : ∀ k, dv.ownBlock = some k → k ≠ b) (hj : JobV w jv s.job) (hsz : s.a.size = 4096) (hi : 0 ≤ s.told ∧ s.told ≤ 1099511627776) (had : 0 ≤ s.addr ∧ s.addr < 4096)
    (hdl : s.op.data = 1 ∧ 0 ≤ s.left ∧ s.left ≤ 7 ∨ s.op.data = 4 ∧ 0 ≤ s.left ∧ s.left ≤ 1) (hn : 0 ≤ s.now ∧ s.now ≤ 255) (hs : s.stage = 6) :
    Calls Tryz.prog 98 #[.pointer (some ⟨b, 0, none⟩), .int .i64 x] w (ClockPost b s jv bv dv w x) := by
  have c26 := h.cell 26
  simp only [St.list, List.getElem?_cons_succ, List.getElem?_cons_zero] at c26
  rw [hs] at c26
  have hR : s.clockIn x = s.says := by
    unfold St.clockIn
    rw [if_neg (by omega), if_neg (by omega), if_neg (by omega), if_neg (by omega), if_neg (by omega), if_pos hs]
  go_enter Tryz.func98, Tryz.ntmps98
  go_wp2_with fail
  refine (chip_says ht b s jv bv dv _ h hj hsz hi had hdl hn (byteAt_bd s s.told)).mono ?_
  rintro e w1 ⟨rfl, hB1, hU1⟩
  go_wp2
  go_ret
  refine ⟨dv, by rw [hR]; rfl, by rw [hR]; exact hB1, ?_, fun k hk => .inl hk, hU1.mono (fun k _ e => .inl e)⟩
  rw [hR, says_data]
  exact hd.upd hU1 hdb
theorem clock7 (b : Nat) (x : Int) (s : St) (jv bv dv : Value) (w : World) (h : CB w b s jv bv dv) (hd : Row w 3 dv (ints s.data)) (hdb : ∀ k, dv.ownBlock = some k → k ≠ b) (hs : s.stage = 7) :
    Calls Tryz.prog 98 #[.pointer (some ⟨b, 0, none⟩), .int .i64 x] w (ClockPost b s jv bv dv w x) := by
  have c26 := h.cell 26
  have c35 := h.cell 35
  have f35 := h.frozen 35
  simp only [St.list, List.getElem?_cons_succ, List.getElem?_cons_zero] at c26 c35
  rw [hs] at c26
  have hR : s.clockIn x = ({ s with beyond := true }, 15) := by
    unfold St.clockIn
    rw [if_neg (by omega), if_neg (by omega), if_neg (by omega), if_neg (by omega), if_neg (by omega), if_neg (by omega), if_pos hs]
  have HR := Lib.hid hR
  clear hR
  go_enter Tryz.func98, Tryz.ntmps98
  go_wp2
  go_ret
  have hR := HR.out
  have hU1 : Upd (fun k => k = b) w (w.setCell ⟨b, 35, none⟩ (.bool true)) := (Upd.refl _ w).setCell ⟨b, 35, none⟩ _ (fun _ => rfl)
  refine ⟨dv, by rw [hR]; rfl, by rw [hR]; exact h.set 35 _, ?_, fun k hk => .inl hk, hU1.mono (fun k _ e => .inl e)⟩
  rw [hR]
  exact hd.upd hU1 hdb
theorem clock1 (b : Nat) (x : Int) (s : St) (jv bv dv : Value) (w : World) (h : CB w b s jv bv dv) (hd : Row w 3 dv (ints s.data)) (_ : ∀ k, dv.ownBlock = some k → k ≠ b) (hs : s.stage = 1) :
    Calls Tryz.prog 98 #[.pointer (some ⟨b, 0, none⟩), .int .i64 x] w (ClockPost b s jv bv dv w x) := by
  have c26 := h.cell 26
  simp only [St.list, List.getElem?_cons_succ, List.getElem?_cons_zero] at c26
  rw [hs] at c26
  have hR : s.clockIn x = (s, 15) := by
    unfold St.clockIn
    rw [if_neg (by omega), if_neg (by omega), if_neg (by omega), if_neg (by omega), if_neg (by omega), if_neg (by omega), if_neg (by omega)]
  have HR := Lib.hid hR
  clear hR
  go_enter Tryz.func98, Tryz.ntmps98
  go_wp2
  go_ret
  have hR := HR.out
  exact ⟨dv, by rw [hR]; rfl, by rw [hR]; exact h, by rw [hR]; exact hd, fun k hk => .inl hk, Upd.refl _ w⟩
end Go.Proofs.YtepnljeojlbliaaGreat
namespace Go.Proofs.YtepnljeojlbliaaGreat
open Go.RowKit
theorem clock5_mk {b : Nat} {x : Int} {s : St} {jv bv dv : Value} {w w1 w2 : World} {g1 : Int} {g n cap : Nat} (hn : (ints s.data).length = n) (hU1 : Upd (fun k => k = b) w w1) (h2 : w2.ownsRow 0 3 1 (.slice (some ⟨g, 0, none⟩) (n + 1) cap) (n + 1) (ints s.data ++ [.int .i64 g1]))
    (hB2 : CB w2 b (s.takesIn x s.op.data) jv bv dv) (U3 : Upd (fun k => dv.ownBlock = some k) w1 w2) (h4 : dv.ownBlock = some g ∨ w1.heap.size ≤ g) (hdb : ∀ k, dv.ownBlock = some k → k ≠ b) (hbl : b < w1.heap.size) :
    ∃ dv', CB (w2.setCell ⟨b, 32, none⟩ (.slice (some ⟨g, 0, none⟩) (n + 1) cap)) b { s.takesIn x s.op.data with data := s.data ++ [g1] } jv bv dv' ∧ Row (w2.setCell ⟨b, 32, none⟩ (.slice (some ⟨g, 0, none⟩) (n + 1) cap)) 3 dv' (ints (s.data ++ [g1])) ∧ (∀ k, dv'.ownBlock = some k → dv.ownBlock = some k ∨ w.heap.size ≤ k) ∧
      Upd (fun k => k = b ∨ dv.ownBlock = some k) w (w2.setCell ⟨b, 32, none⟩ (.slice (some ⟨g, 0, none⟩) (n + 1) cap)) := by
  have hgb : g ≠ b := by
    rcases h4 with h4 | h4
    · exact hdb g h4
    · omega
  have hs := (Upd.refl (fun k => k = b) w2).setCell ⟨b, 32, none⟩ (.slice (some ⟨g, 0, none⟩) (n + 1) cap) (fun _ => rfl)
  have hw := hU1.size
  refine ⟨_, hB2.set 32 (.slice (some ⟨g, 0, none⟩) (n + 1) cap), ?_, ?_, ?_⟩
  · have hR : Row w2 3 (.slice (some ⟨g, 0, none⟩) (n + 1) cap) (ints (s.data ++ [g1])) := by
      unfold Row
      rw [ints_app, show ints [g1] = [Value.int .i64 g1] from rfl, List.length_append, hn]
      exact h2
    exact hR.upd hs (fun k hk e => hgb (by simp [Value.ownBlock] at hk; rw [hk, e]))
  · intro k hk
    simp [Value.ownBlock] at hk
    subst hk
    rcases h4 with h4 | h4
    · exact .inl h4
    · exact .inr (by omega)
  · exact ((hU1.mono (T := fun k => k = b ∨ dv.ownBlock = some k) (fun _ _ e => .inl e)).trans U3 (fun _ _ e => .inr e)).trans hs (fun _ _ e => .inl e)
set_option maxRecDepth 100000 in
set_option maxHeartbeats 1000000 in
theorem clock5 (b : Nat) (x : Int) (s : St) (jv bv dv : Value) (w : World) (h : CB w b s jv bv dv) (hd : Row w 3 dv (ints s.data)) (hdb : ∀ k, dv.ownBlock = some k → k ≠ b) (ha : s.op.mode = true → s.op.addr = 1 ∨ s.op.addr = 4) (hda : s.op.inn = true → s.op.data ≠ 0 → s.op.data = 1 ∨ s.op.data = 4)
    (hs : s.stage = 5) (hln : s.op.data = 1 ∨ s.op.data = 4) (hl : 1 ≤ s.left ∧ s.left ≤ 400) (hg : 0 ≤ s.got ∧ s.got ≤ 1073741824) (hlen : s.data.length ≤ 1048576) :
    Calls Tryz.prog 98 #[.pointer (some ⟨b, 0, none⟩), .int .i64 x] w (ClockPost b s jv bv dv w x) := by
  have c26 := h.cell 26
  have c24 := h.cell 24
  simp only [St.list, List.getElem?_cons_succ, List.getElem?_cons_zero] at c26 c24
  rw [hs] at c26
  go_enter Tryz.func98, Tryz.ntmps98
  go_wp2_with fail
  refine (cmd_takesIn b s jv bv dv x s.op.data _ h hln hg hl).mono ?_
  rintro e w1 ⟨rfl, hB1, hU1⟩
  by_cases h1 : s.left - 1 = 0
  · have hb1 : (s.left - 1 == 0) = true := by simpa using h1
    rw [hb1]
    obtain ⟨g1, hg1⟩ : ∃ g1, (s.takesIn x s.op.data).got = g1 := ⟨_, rfl⟩
    obtain ⟨da, dc, rfl, -⟩ := hd.form
    have c28 := hB1.cell 28
    have c32 := hB1.cell 32
    have f32 := hB1.frozen 32
    simp only [St.list, List.getElem?_cons_succ, List.getElem?_cons_zero] at c28 c32
    rw [hg1] at c28
    go_upto_region 20 with fail
    have hd1 := Lib.hid (hd.upd hU1 hdb)
    obtain ⟨i0, hi0, hz0, hz1, hz2⟩ := info_parts info_int
    have HB1 := Lib.hid hB1
    go_cut [] (fun wx => ∃ dv', CB wx b { s.takesIn x s.op.data with data := s.data ++ [g1] } jv bv dv' ∧ Row wx 3 dv' (ints (s.data ++ [g1])) ∧ (∀ k, dv'.ownBlock = some k → (Value.slice da (ints s.data).length dc).ownBlock = some k ∨ w.heap.size ≤ k) ∧ Upd (fun k => k = b ∨ (Value.slice da (ints s.data).length dc).ownBlock = some k) w wx)
    case first =>
      have U0 : Upd none' w1 (w1.alloc (.cells #[.int .i64 g1] 3)).drew := ((Upd.refl none' w1).alloc _).drew
      have hown := Lib.hid (hd1.out.upd U0 (fun _ _ f => f))
      have hnews : ∀ j u, [Value.int .i64 g1][j]? = some u → (w1.alloc (.cells #[.int .i64 g1] 3)).drew.cell? ((⟨w1.heap.size, 0, none⟩ : Addr).add j) = some u := World.news_of_block (cs := #[.int .i64 g1]) (Blk.new w1 [.int .i64 g1] 3).drew
      have HN := Lib.hid hnews
      have hbl := hB1.lt
      clear hnews
      go_region_law (refine step_append_lies _ rfl _ _ 33 rfl 0 3 i0 (.int .i64 0) 1 8 Tryz.underlying33 hi0 hz0 hz1 hz2 rfl (by decide) _ _ (ints s.data) rfl hown.out _ 1 1 [.int .i64 g1] rfl rfl HN.out (by intro u hu; simp at hu; subst hu; rfl) (by decide) (by simp [ints, maxLen]; omega) (by simp [ints]; omega) (Nat.zero_le _) _ rfl ?_; intro g cap w2 h2 h3 h4 h5; have U2 := (Upd.refl none' w1).trans U0 (fun _ _ f => f); have U3 := (U2.mono (T := fun k => (Value.slice da (ints s.data).length dc).ownBlock = some k) (fun _ _ f => f.elim)).grown h3 (fun k hk _ => hk); have HB2 := Lib.hid (HB1.out.upd U3 (fun e => hdb b e rfl)); have m32 := HB2.out.cell 32; have n32 := HB2.out.frozen 32; simp only [St.list, List.getElem?_cons_succ, List.getElem?_cons_zero] at m32)
      all_goals
        have h4' : (Value.slice da (ints s.data).length dc).ownBlock = some g ∨ w1.heap.size ≤ g := h4.imp_right (fun e => by rw [e]; simp)
        go_wp2_with fail
        go_meet
        exact clock5_mk rfl hU1 h2 HB2.out U3 h4' hdb hbl
    case rest =>
      obtain ⟨dv', hB3, hR3, hf3, hU3⟩ := hcut
      have hs0 : ¬ s.stage = 0 := by omega
      have hs2 : ¬ s.stage = 2 := by omega
      have hs3 : ¬ s.stage = 3 := by omega
      have hs4 : ¬ s.stage = 4 := by omega
      have hR : s.clockIn x = ({ s.takesIn x s.op.data with data := s.data ++ [g1] }.behind, 15) := by
        unfold St.clockIn
        rw [if_neg hs0, if_neg hs2, if_neg hs3, if_neg hs4, if_pos hs]
        dsimp only
        rw [if_pos (show (s.takesIn x s.op.data).left = 0 from h1), hg1]
        rfl
      have HR := Lib.hid hR
      have HR3 := Lib.hid hR3
      have HF3 := Lib.hid hf3
      have HU3 := Lib.hid hU3
      clear hR hR3 hf3 hU3 hs0 hs2 hs3 hs4
      go_wp2_with fail
      refine (cmd_behind b _ jv bv dv' _ hB3 ha hda).mono ?_
      rintro e w2 ⟨rfl, hB4, hU4⟩
      go_wp2
      go_ret
      have hU := HU3.out.trans hU4 (fun _ _ e => .inl e)
      have hR := HR.out
      have hne : ∀ k, dv'.ownBlock = some k → k ≠ b := fun k hk => by
        rcases HF3.out k hk with h5 | h5
        · exact hdb k h5
        · have := h.lt; omega
      refine ⟨dv', by rw [hR]; rfl, by rw [hR]; exact hB4, ?_, HF3.out, hU⟩
      rw [hR]
      dsimp only
      rw [behind_data]
      exact HR3.out.upd hU4 hne
  · have hb1 : (s.left - 1 == 0) = false := by simpa using h1
    have hR : s.clockIn x = (s.takesIn x s.op.data, 15) := by
      unfold St.clockIn
      rw [if_neg (by omega), if_neg (by omega), if_neg (by omega), if_neg (by omega), if_pos hs]
      dsimp only
      rw [if_neg (show ¬ (s.takesIn x s.op.data).left = 0 from h1)]
    rw [hb1]
    have HR := Lib.hid hR
    clear hR
    go_wp2
    go_ret
    have hR := HR.out
    refine ⟨dv, by rw [hR]; rfl, by rw [hR]; exact hB1, ?_, fun k hk => .inl hk, hU1.mono (fun k _ e => .inl e)⟩
    rw [hR]
    exact hd.upd hU1 hdb
end Go.Proofs.YtepnljeojlbliaaGreat
namespace Go.Proofs.YtepnljeojlbliaaGreat
open Go.RowKit
/-- The blocks that a chip owns. -/
def chipSet (b : Nat) (jv bv dv : Value) : Nat → Prop := fun k => k = b ∨ jv = .pointer (some ⟨k, 0, none⟩) ∨ bv.ownBlock = some k ∨ dv.ownBlock = some k
structure ChipV (w : World) (b : Nat) (s : St) (jv bv dv : Value) : Prop where
  cb : CB w b s jv bv dv
  job : JobV w jv s.job
  busy : RS w bv (ints s.busy)
  busyLt : ∀ k, bv.ownBlock = some k → k < w.heap.size
  data : Row w 3 dv (ints s.data)
  sj : ∀ k, jv = .pointer (some ⟨k, 0, none⟩) → k ≠ b
  sb : ∀ k, bv.ownBlock = some k → k ≠ b ∧ jv ≠ .pointer (some ⟨k, 0, none⟩)
  sd : ∀ k, dv.ownBlock = some k → k ≠ b ∧ jv ≠ .pointer (some ⟨k, 0, none⟩) ∧ bv.ownBlock ≠ some k
/-- Block b is a chip in the state s; it owns S. -/
def ChipAt (w : World) (b : Nat) (s : St) (S : Nat → Prop) : Prop := ∃ jv bv dv, ChipV w b s jv bv dv ∧ S = chipSet b jv bv dv
theorem JobV.lt {w : World} {jv : Value} {j : Option Job} (h : JobV w jv j) : ∀ k, jv = .pointer (some ⟨k, 0, none⟩) → k < w.heap.size := by
  intro k hk
  cases j with
  | none => rw [show jv = .pointer none from h] at hk; cases hk
  | some j =>
    obtain ⟨g, h1, h2⟩ := h
    rw [h1] at hk
    simp only [Value.pointer.injEq, Option.some.injEq, Addr.mk.injEq, and_true] at hk
    rw [← hk]
    exact h2.lt
theorem ChipV.jb {w : World} {b : Nat} {s : St} {jv bv dv : Value} (h : ChipV w b s jv bv dv) : jv ≠ .pointer (some ⟨b, 0, none⟩) := fun e => h.sj b e rfl
theorem ChipAt.lt {w : World} {b : Nat} {s : St} {S : Nat → Prop} (h : ChipAt w b s S) : ∀ k, S k → k < w.heap.size := by
  obtain ⟨jv, bv, dv, hv, rfl⟩ := h
  rintro k (rfl | hk | hk | hk)
  · exact hv.cb.lt
  · exact hv.job.lt k hk
  · exact hv.busyLt k hk
  · exact hv.data.lt k hk
theorem ChipAt.upd {w w' : World} {b : Nat} {s : St} {S T : Nat → Prop} (h : ChipAt w b s S) (u : Upd T w w') (hT : ∀ k, S k → ¬ T k) : ChipAt w' b s S := by
  obtain ⟨jv, bv, dv, hv, rfl⟩ := h
  exact ⟨jv, bv, dv, ⟨hv.cb.upd u (hT b (.inl rfl)), hv.job.upd u (fun g hg => hT g (.inr (.inl hg))), hv.busy.upd u (fun k _ hk => hT k (.inr (.inr (.inl hk)))), fun k hk => Nat.lt_of_lt_of_le (hv.busyLt k hk) u.size,
    hv.data.upd u (fun k hk => hT k (.inr (.inr (.inr hk)))), hv.sj, hv.sb, hv.sd⟩, rfl⟩
theorem chip_clockIn (ht : TableSaid) (b : Nat) (x : Int) (s : St) (jv bv dv : Value) (w : World) (hv : ChipV w b s jv bv dv) (N : Int) (hI : s.Inv N) (hN : N ≤ 1048576) :
    Calls Tryz.prog 98 #[.pointer (some ⟨b, 0, none⟩), .int .i64 x] w (ClockPost b s jv bv dv w x) := by
  obtain ⟨c, hc⟩ := hI.op
  obtain ⟨o1, o2, o3, o4, o5, o6⟩ := op_facts c
  rw [← hc] at o1 o2 o3 o4 o5 o6
  have ha : s.op.mode = true → s.op.addr = 1 ∨ s.op.addr = 4 := fun h => .inr (o1 h)
  have hda : s.op.inn = true → s.op.data ≠ 0 → s.op.data = 1 ∨ s.op.data = 4 := fun h _ => .inl (o2 h)
  have hdb : ∀ k, dv.ownBlock = some k → k ≠ b := fun k hk => (hv.sd k hk).1
  have hlen := hI.len
  have htold := hI.told
  rcases hI.part with ⟨hs, l1, l2, g0, gl⟩ | hs | ⟨hs, g0, hk⟩ | ⟨hs, ha4, l1, l2, g0, gl⟩ | ⟨hs, l1, l2⟩ | ⟨hs, hi, hd, l1, l2, g0, gl⟩ | ⟨hs, hi, hk⟩ | hs
  · exact clock0 b x s jv bv dv w hv.cb hv.job hv.jb hv.data hdb hs ⟨l1, l2⟩ g0 gl
  · exact clock1 b x s jv bv dv w hv.cb hv.data hdb hs
  · have : s.got + 1 ≤ 16777216 := by
      rcases hk with ⟨_, _, _, gl⟩ | ⟨_, _, _, gl⟩
      · exact got2 g0 gl
      · exact got16 g0 gl
    exact clock2 b x s jv bv dv w hv.cb hv.data hdb ha hda hs (by omega) (by omega) (by omega)
  · have := got16 g0 gl
    exact clock3 b x s jv bv dv w hv.cb hv.data hdb ha hda hs (by omega) (by omega) (by omega)
  · exact clock4 b x s jv bv dv w hv.cb hv.data hdb ha hda hs (by omega)
  · have := got2 g0 gl
    exact clock5 b x s jv bv dv w hv.cb hv.data hdb ha hda hs (.inl hd) (by omega) (by omega) (by omega)
  · exact clock6 ht b x s jv bv dv w hv.cb hv.data hdb hv.job hI.size (by omega) hI.addr (by omega) hI.now hs
  · exact clock7 b x s jv bv dv w hv.cb hv.data hdb hs
end Go.Proofs.YtepnljeojlbliaaGreat
namespace Go.Proofs.YtepnljeojlbliaaGreat
open Go.RowKit
theorem pass_inv {s : St} {N : Int} (h : s.Inv N) : s.pass.Inv N := by
  unfold St.pass
  split
  · exact h
  · rename_i j hj
    have hok := h.job j hj
    split
    · exact h
    · split
      · exact ⟨by rw [show (_ : St).a = j.cells s.a all255 from rfl, Job.cells_size]; exact h.size, fun _ e => (by cases e), h.addr, h.told, h.len, h.data, h.now, h.mode, h.op, h.wipes, h.busy, h.part⟩
      · rename_i hl
        refine ⟨h.size, ?_, h.addr, h.told, h.len, h.data, h.now, h.mode, h.op, h.wipes, h.busy, h.part⟩
        intro j' e
        have e' : some { j with left := j.left - 1 } = some j' := e
        simp only [Option.some.injEq] at e'
        subst e'
        exact ⟨hok.1, by dsimp only; omega, by have := hok.2.2; dsimp only; omega⟩
theorem clock_inv {s : St} {N : Int} (h : s.Inv N) (x : Int) : (s.clock x).1.Inv (N + 1) := by
  unfold St.clock
  dsimp only
  split
  · exact clockIn_inv (pass_inv h) x
  · exact (pass_inv h).mono (by omega)
theorem pass_keeps (s : St) : s.pass.busy = s.busy ∧ s.pass.data = s.data ∧ s.pass.sel = s.sel := by
  unfold St.pass
  repeat' split
  all_goals exact ⟨rfl, rfl, rfl⟩
/-- What a call leaves of a chip. -/
def ChipPost (b : Nat) (s' : St) (S : Nat → Prop) (w w' : World) : Prop := ∃ S', ChipAt w' b s' S' ∧ (∀ k, S' k → S k ∨ w.heap.size ≤ k) ∧ Upd S w w'
theorem ChipV.pass {w w1 : World} {b : Nat} {s : St} {jv jv' bv dv : Value} (hv : ChipV w b s jv bv dv) (hB : CB w1 b s.pass jv' bv dv) (hJ : JobV w1 jv' s.pass.job) (hjj : jv' = jv ∨ jv' = .pointer none) (hU : Upd (fun k => k = b ∨ jv = .pointer (some ⟨k, 0, none⟩)) w w1) :
    ChipV w1 b s.pass jv' bv dv ∧ ∀ k, chipSet b jv' bv dv k → chipSet b jv bv dv k := by
  obtain ⟨e1, e2, e3⟩ := pass_keeps s
  have hptr : ∀ k, jv' = .pointer (some ⟨k, 0, none⟩) → jv = .pointer (some ⟨k, 0, none⟩) := by
    intro k hk
    rcases hjj with h | h
    · rw [← h]; exact hk
    · rw [h] at hk; cases hk
  have h1 : RS w1 bv (ints s.pass.busy) := by
    rw [e1]
    refine hv.busy.upd hU (fun k _ hk e => ?_)
    rcases e with e | e
    · exact (hv.sb k hk).1 e
    · exact (hv.sb k hk).2 e
  have h2 : Row w1 3 dv (ints s.pass.data) := by
    rw [e2]
    refine hv.data.upd hU (fun k hk e => ?_)
    rcases e with e | e
    · exact (hv.sd k hk).1 e
    · exact (hv.sd k hk).2.1 e
  refine ⟨⟨hB, hJ, h1, fun k hk => Nat.lt_of_lt_of_le (hv.busyLt k hk) hU.size, h2, fun k hk => hv.sj k (hptr k hk), fun k hk => ⟨(hv.sb k hk).1, fun e => (hv.sb k hk).2 (hptr k e)⟩,
    fun k hk => ⟨(hv.sd k hk).1, fun e => (hv.sd k hk).2.1 (hptr k e), (hv.sd k hk).2.2⟩⟩, ?_⟩
  · rintro k (h | h | h | h)
    · exact .inl h
    · exact .inr (.inl (hptr k h))
    · exact .inr (.inr (.inl h))
    · exact .inr (.inr (.inr h))
theorem ChipV.clockIn {w w1 : World} {b : Nat} {s : St} {jv bv dv : Value} {x : Int} {e : Ending} (hv : ChipV w b s jv bv dv) (h : ClockPost b s jv bv dv w x e w1) : e = .returned (.int .i64 (s.clockIn x).2) ∧ ChipPost b (s.clockIn x).1 (chipSet b jv bv dv) w w1 := by
  obtain ⟨dv', he, hB, hR, hf, hU⟩ := h
  have hkeep : (s.clockIn x).1.job = s.job ∧ (s.clockIn x).1.busy = s.busy := by
    have kb : ∀ t : St, t.behind.job = t.job ∧ t.behind.busy = t.busy := fun t => by
      unfold St.behind
      repeat' split
      all_goals exact ⟨rfl, rfl⟩
    have kg : ∀ (t : St) (c : Int), (t.begins c).job = t.job ∧ (t.begins c).busy = t.busy := fun t c => by
      unfold St.begins
      dsimp only
      split
      · exact ⟨rfl, rfl⟩
      · split
        · exact ⟨rfl, rfl⟩
        · exact kb _
    have ks : s.says.1.job = s.job ∧ s.says.1.busy = s.busy := by
      have k1 : s.says1.job = s.job ∧ s.says1.busy = s.busy := by
        unfold St.says1
        split <;> exact ⟨rfl, rfl⟩
      unfold St.says
      dsimp only
      split <;> exact k1
    unfold St.clockIn
    dsimp only
    split
    · split
      · exact kg _ _
      · exact ⟨rfl, rfl⟩
    · split
      · split
        · exact kb _
        · exact ⟨rfl, rfl⟩
      · split
        · split
          · exact kb _
          · exact ⟨rfl, rfl⟩
        · split
          · split
            · exact kb _
            · exact ⟨rfl, rfl⟩
          · split
            · split
              · exact kb _
              · exact ⟨rfl, rfl⟩
            · split
              · exact ks
              · split <;> exact ⟨rfl, rfl⟩
  have hnew : ∀ k, dv'.ownBlock = some k → k ≠ b ∧ jv ≠ .pointer (some ⟨k, 0, none⟩) ∧ bv.ownBlock ≠ some k := by
    intro k hk
    rcases hf k hk with h1 | h1
    · exact hv.sd k h1
    · refine ⟨fun e => ?_, fun e => ?_, fun e => ?_⟩
      · have := hv.cb.lt; omega
      · have := hv.job.lt k e; omega
      · have := hv.busyLt k e; omega
  refine ⟨he, chipSet b jv bv dv', ⟨jv, bv, dv', ⟨hB, ?_, ?_, fun k hk => Nat.lt_of_lt_of_le (hv.busyLt k hk) hU.size, hR, hv.sj, hv.sb, hnew⟩, rfl⟩, ?_, ?_⟩
  · rw [hkeep.1]
    refine hv.job.upd hU (fun g hg e => ?_)
    rcases e with e | e
    · exact hv.sj g hg e
    · exact (hv.sd g e).2.1 hg
  · rw [hkeep.2]
    refine hv.busy.upd hU (fun k _ hk e => ?_)
    rcases e with e | e
    · exact (hv.sb k hk).1 e
    · exact (hv.sd k e).2.2 hk
  · rintro k (h | h | h | h)
    · exact .inl (.inl h)
    · exact .inl (.inr (.inl h))
    · exact .inl (.inr (.inr (.inl h)))
    · rcases hf k h with h1 | h1
      · exact .inl (.inr (.inr (.inr h1)))
      · exact .inr h1
  · refine hU.mono (fun k _ e => ?_)
    rcases e with e | e
    · exact .inl e
    · exact .inr (.inr (.inr e))
set_option maxRecDepth 100000 in
set_option maxHeartbeats 1000000 in
theorem chip_clock (ht : TableSaid) (b : Nat) (x : Int) (s : St) (S : Nat → Prop) (w : World) (h : ChipAt w b s S) (N : Int) (hI : s.Inv N) (hN : N ≤ 1048576) (hx : 0 ≤ x ∧ x ≤ 15) :
    Calls Tryz.prog 21 #[.pointer (some ⟨b, 0, none⟩), .int .i64 x] w fun e w' => e = .returned (.tuple #[.int .i64 (s.clock x).2, .int .i64 0]) ∧ ChipPost b (s.clock x).1 S w w' := by
  obtain ⟨jv, bv, dv, hv, rfl⟩ := h
  have HV := Lib.hid hv
  go_enter Tryz.func21, Tryz.ntmps21
  go_wp2_with fail
  refine (chip_pass b s jv bv dv _ hv.cb hv.job hI.job hI.size hv.jb).mono ?_
  rintro e w1 ⟨rfl, jv', hB1, hJ1, hjj, hU1⟩
  obtain ⟨hv1, hset⟩ := HV.out.pass hB1 hJ1 hjj hU1
  have c15 := hB1.cell 15
  simp only [St.list, List.getElem?_cons_succ, List.getElem?_cons_zero] at c15
  have hU1' : Upd (chipSet b jv bv dv) w w1 := hU1.mono (fun k _ e => e.elim .inl (fun e => .inr (.inl e)))
  cases hsel : s.pass.sel with
  | false =>
    have hR : s.clock x = (s.pass, 15) := by unfold St.clock; dsimp only; rw [hsel]; rfl
    rw [hsel] at c15
    have HV1 := Lib.hid hv1
    have HR := Lib.hid hR
    clear hv hv1 hR hB1 hJ1
    go_wp2
    go_ret2
    rw [HR.out]
    exact ⟨rfl, chipSet b jv' bv dv, ⟨jv', bv, dv, HV1.out, rfl⟩, fun k hk => .inl (hset k hk), hU1'⟩
  | true =>
    have hR : s.clock x = s.pass.clockIn x := by unfold St.clock; dsimp only; rw [hsel]; rfl
    rw [hsel] at c15
    have HV1 := Lib.hid hv1
    have HR := Lib.hid hR
    clear hv hv1 hR hB1 hJ1
    go_wp2_with fail
    refine (chip_clockIn ht b x s.pass jv' bv dv _ HV1.out N (pass_inv hI) hN).mono ?_
    intro e w2 hpost
    obtain ⟨rfl, S', hA, hS', hU2⟩ := HV1.out.clockIn hpost
    go_wp2
    go_ret2
    rw [HR.out]
    refine ⟨rfl, S', hA, fun k hk => ?_, hU1'.trans hU2 (fun k _ e => hset k e)⟩
    rcases hS' k hk with h1 | h1
    · exact .inl (hset k h1)
    · exact .inr (Nat.le_trans hU1'.size h1)
end Go.Proofs.YtepnljeojlbliaaGreat
namespace Go.Proofs.YtepnljeojlbliaaGreat
open Go.RowKit
/-- What a Select leaves ahead of a read that goes on. -/
def St.sel0 (s : St) : St := { s with sel := true, op := op0, stage := 0, left := 8, got := 0, addr := 0, mode := 0, moded := false, data := [], told := 0, now := 0, beyond := false }
theorem select_eq (s : St) : s.select = if s.goes then s.sel0.begins 235 else s.sel0 := rfl
theorem sel0_inv {s : St} {N : Int} (h : s.Inv N) : s.sel0.Inv N :=
  ⟨h.size, h.job, ⟨Int.le_refl 0, show (0 : Int) < 4096 by decide⟩, ⟨Int.le_refl 0, Int.le_trans h.told.1 h.told.2⟩, Int.le_trans h.told.1 h.told.2, fun x hx => (by cases hx), ⟨Int.le_refl 0, show (0 : Int) ≤ 255 by decide⟩, ⟨Int.le_refl 0, show (0 : Int) ≤ 255 by decide⟩, ⟨0, rfl⟩, h.wipes, h.busy, .inl ⟨rfl, show (1 : Int) ≤ 8 by decide, show (8 : Int) ≤ 8 by decide, Int.le_refl 0, show ((0 : Int) + 1) * 2 ^ (8 : Int).toNat ≤ 256 by decide⟩⟩
theorem select_inv {s : St} {N : Int} (h : s.Inv N) : s.select.Inv N := by
  rw [select_eq]
  split
  · exact begins_inv (sel0_inv h).b _
  · exact sel0_inv h
set_option maxHeartbeats 1000000 in
theorem sel0_world {w : World} {b : Nat} {s : St} {jv bv dv : Value} (h : CB w b s jv bv dv) :
    CB (((((((((((((((((w.setCell ⟨b, 15, none⟩ (.bool true)).setCell ⟨b, 20, none⟩ (.int .i64 0)).setCell ⟨b, 21, none⟩ (.int .i64 0)).setCell ⟨b, 22, none⟩ (.bool false)).setCell ⟨b, 23, none⟩ (.int .i64 0)).setCell ⟨b, 24, none⟩ (.int .i64 0)).setCell ⟨b, 25, none⟩ (.bool false)).setCell ⟨b, 26, none⟩ (.int .i64 0)).setCell ⟨b, 27, none⟩ (.int .i64 8)).setCell ⟨b, 28, none⟩ (.int .i64 0)).setCell ⟨b, 29, none⟩ (.int .i64 0)).setCell ⟨b, 30, none⟩ (.int .i64 0)).setCell ⟨b, 31, none⟩ (.bool false)).setCell ⟨b, 32, none⟩ (.slice none 0 0)).setCell ⟨b, 33, none⟩ (.int .i64 0)).setCell ⟨b, 34, none⟩ (.int .i64 0)).setCell ⟨b, 35, none⟩ (.bool false)) b s.sel0 jv bv (.slice none 0 0) := by
  have := (((((((((((((((((h.set 15 (.bool true)).set 20 (.int .i64 0)).set 21 (.int .i64 0)).set 22 (.bool false)).set 23 (.int .i64 0)).set 24 (.int .i64 0)).set 25 (.bool false)).set 26 (.int .i64 0)).set 27 (.int .i64 8)).set 28 (.int .i64 0)).set 29 (.int .i64 0)).set 30 (.int .i64 0)).set 31 (.bool false)).set 32 (.slice none 0 0)).set 33 (.int .i64 0)).set 34 (.int .i64 0)).set 35 (.bool false))
  simp only [St.list, List.set_cons_zero, List.set_cons_succ] at this
  exact this
theorem sel0_upd (w : World) (b : Nat) : Upd (fun k => k = b) w (((((((((((((((((w.setCell ⟨b, 15, none⟩ (.bool true)).setCell ⟨b, 20, none⟩ (.int .i64 0)).setCell ⟨b, 21, none⟩ (.int .i64 0)).setCell ⟨b, 22, none⟩ (.bool false)).setCell ⟨b, 23, none⟩ (.int .i64 0)).setCell ⟨b, 24, none⟩ (.int .i64 0)).setCell ⟨b, 25, none⟩ (.bool false)).setCell ⟨b, 26, none⟩ (.int .i64 0)).setCell ⟨b, 27, none⟩ (.int .i64 8)).setCell ⟨b, 28, none⟩ (.int .i64 0)).setCell ⟨b, 29, none⟩ (.int .i64 0)).setCell ⟨b, 30, none⟩ (.int .i64 0)).setCell ⟨b, 31, none⟩ (.bool false)).setCell ⟨b, 32, none⟩ (.slice none 0 0)).setCell ⟨b, 33, none⟩ (.int .i64 0)).setCell ⟨b, 34, none⟩ (.int .i64 0)).setCell ⟨b, 35, none⟩ (.bool false)) := ((((((((((((((((((Upd.refl (fun k => k = b) w).setCell ⟨b, 15, none⟩ (.bool true) (fun _ => rfl)).setCell ⟨b, 20, none⟩ (.int .i64 0) (fun _ => rfl)).setCell ⟨b, 21, none⟩ (.int .i64 0) (fun _ => rfl)).setCell ⟨b, 22, none⟩ (.bool false) (fun _ => rfl)).setCell ⟨b, 23, none⟩ (.int .i64 0) (fun _ => rfl)).setCell ⟨b, 24, none⟩ (.int .i64 0) (fun _ => rfl)).setCell ⟨b, 25, none⟩ (.bool false) (fun _ => rfl)).setCell ⟨b, 26, none⟩ (.int .i64 0) (fun _ => rfl)).setCell ⟨b, 27, none⟩ (.int .i64 8) (fun _ => rfl)).setCell ⟨b, 28, none⟩ (.int .i64 0) (fun _ => rfl)).setCell ⟨b, 29, none⟩ (.int .i64 0) (fun _ => rfl)).setCell ⟨b, 30, none⟩ (.int .i64 0) (fun _ => rfl)).setCell ⟨b, 31, none⟩ (.bool false) (fun _ => rfl)).setCell ⟨b, 32, none⟩ (.slice none 0 0) (fun _ => rfl)).setCell ⟨b, 33, none⟩ (.int .i64 0) (fun _ => rfl)).setCell ⟨b, 34, none⟩ (.int .i64 0) (fun _ => rfl)).setCell ⟨b, 35, none⟩ (.bool false) (fun _ => rfl))
theorem begins_keeps (t : St) (c : Int) : (t.begins c).job = t.job ∧ (t.begins c).busy = t.busy ∧ (t.begins c).data = t.data := by
  refine ⟨?_, ?_, begins_data t c⟩
  · unfold St.begins St.behind
    dsimp only
    repeat' split
    all_goals rfl
  · unfold St.begins St.behind
    dsimp only
    repeat' split
    all_goals rfl
set_option maxRecDepth 100000 in
set_option maxHeartbeats 1000000 in
theorem chip_select (b : Nat) (s : St) (S : Nat → Prop) (w : World) (hA : ChipAt w b s S) (hsel : s.sel = false) :
    Calls Tryz.prog 17 #[.pointer (some ⟨b, 0, none⟩)] w fun e w' => e = .returned (.int .i64 0) ∧ ChipPost b s.select S w w' := by
  obtain ⟨jv, bv, dv, hv, rfl⟩ := hA
  have h := hv.cb
  have HV := Lib.hid hv
  have hl := lane_many 1 (.inl rfl)
  have c17 := h.cell 17
  have c15 := h.cell 15
  have f15 := h.frozen 15
  have c20 := h.cell 20
  have f20 := h.frozen 20
  have c21 := h.cell 21
  have f21 := h.frozen 21
  have c22 := h.cell 22
  have f22 := h.frozen 22
  have c23 := h.cell 23
  have f23 := h.frozen 23
  have c24 := h.cell 24
  have f24 := h.frozen 24
  have c25 := h.cell 25
  have f25 := h.frozen 25
  have c26 := h.cell 26
  have f26 := h.frozen 26
  have c27 := h.cell 27
  have f27 := h.frozen 27
  have c28 := h.cell 28
  have f28 := h.frozen 28
  have c29 := h.cell 29
  have f29 := h.frozen 29
  have c30 := h.cell 30
  have f30 := h.frozen 30
  have c31 := h.cell 31
  have f31 := h.frozen 31
  have c32 := h.cell 32
  have f32 := h.frozen 32
  have c33 := h.cell 33
  have f33 := h.frozen 33
  have c34 := h.cell 34
  have f34 := h.frozen 34
  have c35 := h.cell 35
  have f35 := h.frozen 35
  simp only [St.list, List.getElem?_cons_succ, List.getElem?_cons_zero] at c15 c17 c20 c21 c22 c23 c24 c25 c26 c27 c28 c29 c30 c31 c32 c33 c34 c35
  rw [hsel] at c15
  have hW := Lib.hid (sel0_world h)
  have hU := Lib.hid (sel0_upd w b)
  have hdel : ∀ (w' : World) (t : St), CB w' b t jv bv (.slice none 0 0) → t.job = s.job → t.busy = s.busy → t.data = [] → Upd (fun k => k = b) w w' → ChipPost b t (chipSet b jv bv dv) w w' := by
    intro w' t hB e1 e2 e3 hu
    refine ⟨chipSet b jv bv (.slice none 0 0), ⟨jv, bv, .slice none 0 0, ⟨hB, ?_, ?_, fun k hk => Nat.lt_of_lt_of_le (HV.out.busyLt k hk) hu.size, ?_, HV.out.sj, HV.out.sb, fun k hk => (by simp [Value.ownBlock] at hk)⟩, rfl⟩, ?_, hu.mono (fun k _ e => .inl e)⟩
    · rw [e1]; exact HV.out.job.upd hu (fun g hg => HV.out.sj g hg)
    · rw [e2]; exact HV.out.busy.upd hu (fun k _ hk => (HV.out.sb k hk).1)
    · rw [e3]; exact Row.nil w' _
    · rintro k (e | e | e | e)
      · exact .inl (.inl e)
      · exact .inl (.inr (.inl e))
      · exact .inl (.inr (.inr (.inl e)))
      · simp [Value.ownBlock] at e
  have HD := Lib.hid hdel
  clear hdel hv h
  cases hg : s.goes with
  | false =>
    rw [hg] at c17
    have hR : s.select = s.sel0 := by rw [select_eq, hg]; rfl
    have HR := Lib.hid hR
    clear hR
    go_enter Tryz.func17, Tryz.ntmps17
    go_wp2_with (go_at_call 92; refine (hl _).mono ?_; rintro e w' ⟨rfl, rfl⟩)
    go_ret
    rw [HR.out]
    exact ⟨rfl, HD.out _ _ hW.out rfl rfl rfl hU.out⟩
  | true =>
    rw [hg] at c17
    have hR : s.select = s.sel0.begins 235 := by rw [select_eq, hg]; rfl
    have HR := Lib.hid hR
    clear hR
    go_enter Tryz.func17, Tryz.ntmps17
    go_wp2_with (go_at_call 92; refine (hl _).mono ?_; rintro e w' ⟨rfl, rfl⟩)
    refine (chip_begins b 235 s.sel0 jv bv (.slice none 0 0) _ hW.out (HV.out.job.upd hU.out (fun g hg => HV.out.sj g hg))).mono ?_
    rintro e w2 ⟨rfl, hB2, hU2⟩
    go_wp2
    go_ret
    rw [HR.out]
    obtain ⟨k1, k2, k3⟩ := begins_keeps s.sel0 235
    exact ⟨rfl, HD.out _ _ hB2 k1 k2 k3 (hU.out.trans hU2 (fun _ _ k => k))⟩
theorem chip_select_no (b : Nat) (s : St) (S : Nat → Prop) (w : World) (hA : ChipAt w b s S) (hsel : s.sel = true) :
    Calls Tryz.prog 17 #[.pointer (some ⟨b, 0, none⟩)] w fun e w' => e = .returned (.int .i64 600) ∧ w = w' := by
  obtain ⟨jv, bv, dv, hv, rfl⟩ := hA
  have c15 := hv.cb.cell 15
  simp only [St.list, List.getElem?_cons_succ, List.getElem?_cons_zero] at c15
  rw [hsel] at c15
  go_enter Tryz.func17, Tryz.ntmps17
  go_wp2
  go_ret
  exact ⟨rfl, rfl⟩
theorem chip_select_nil (w : World) :
    Calls Tryz.prog 17 #[.pointer none] w fun e w' => e = .returned (.int .i64 1) ∧ w = w' := by
  go_enter Tryz.func17, Tryz.ntmps17
  go_wp2
  go_ret
  exact ⟨rfl, rfl⟩
end Go.Proofs.YtepnljeojlbliaaGreat
