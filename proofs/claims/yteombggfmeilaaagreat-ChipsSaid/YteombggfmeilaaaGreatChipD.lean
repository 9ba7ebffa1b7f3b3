/- The walk over a clock of a command. · The walk over a clock of a command: stages without a number, the answer, the end. · The walk over a clock of a command: data that go. · A chip in memory, whole; the walks over Clock and over a clock of a command. · The walk over Clock. · The walk over Select. · The walks over whole, stat.Protected. · The walk over a page's bytes. · The walk over starts. · The walk over ends: what is no program, no erase. -/
import Derived.Test.YteombggfmeilaaaGreatChipC
import Derived.Test.YteombggfmeilaaaGreatChipM
import Derived.Test.YteombggfmeilaaaGreatLow
import Derived.Deep.AppendLies
import Derived.Deep.RegionLaw
import Derived.Laws.MakeOwn
namespace Go.Proofs.YteombggfmeilaaaGreat
open Go.RowKit
/-- What a clock of a command leaves. -/
def ClockPost (b : Nat) (s : St) (jv bv dv : Value) (w : World) (x : Int) (e : Ending) (w' : World) : Prop :=
  ∃ dv', e = .returned (.int .i64 (s.clockIn x).2) ∧ CB w' b (s.clockIn x).1 jv bv dv' ∧ Row w' 3 dv' (ints (s.clockIn x).1.data) ∧ (∀ k, dv'.ownBlock = some k → dv.ownBlock = some k ∨ w.heap.size ≤ k) ∧ Upd (fun k => k = b ∨ dv.ownBlock = some k) w w'
theorem behind_data (s : St) : s.behind.data = s.data := by
  unfold St.behind
  repeat' split
  all_goals rfl
theorem begins_data (s : St) (c : Int) : (s.begins c).data = s.data := by
  unfold St.begins
  dsimp only
  split
  · rfl
  · split
    · rfl
    · rw [behind_data]
theorem tmod4096 {z : Int} (h : 0 ≤ z) : z.tmod 4096 = z % 4096 := Int.tmod_eq_emod_of_nonneg h
theorem takesIn_got {s : St} {x lanes : Int} (hg : 0 ≤ s.got) : 0 ≤ (s.takesIn x lanes).got := by
  unfold St.takesIn
  dsimp only
  split
  · have := Int.emod_nonneg x (show (2 : Int) ≠ 0 by decide); omega
  · have := Int.emod_nonneg x (show (16 : Int) ≠ 0 by decide); omega
theorem bd256 {g l : Int} (hg : 0 ≤ g) (h : (g + 1) * 2 ^ l.toNat ≤ 256) : g ≤ 1073741824 := by have := got2 hg h; omega
set_option maxHeartbeats 1000000 in
theorem clock0 (b : Nat) (x : Int) (s : St) (jv bv dv : Value) (w : World) (h : CB w b s jv bv dv) (hj : JobV w jv s.job) (hjb : jv ≠ .pointer (some ⟨b, 0, none⟩)) (hd : Row w 3 dv (ints s.data)) (hdb : ∀ k, dv.ownBlock = some k → k ≠ b)
    (hs : s.stage = 0) (hl : 1 ≤ s.left ∧ s.left ≤ 8) (hg : 0 ≤ s.got) (hgl : (s.got + 1) * 2 ^ s.left.toNat ≤ 256) :
    Calls Tryz.prog 98 #[.pointer (some ⟨b, 0, none⟩), .int .i64 x] w (ClockPost b s jv bv dv w x) := by
  have c26 := h.cell 26
  simp only [St.list, List.getElem?_cons_succ, List.getElem?_cons_zero] at c26
  rw [hs] at c26
  have hgb := bd256 hg hgl
  go_enter Tryz.func98, Tryz.ntmps98
  go_wp2_with fail
  refine (cmd_takesIn b s jv bv dv x 1 _ h (.inl rfl) ⟨hg, hgb⟩ (by omega)).mono ?_
  rintro e w1 ⟨rfl, hB1, hU1⟩
  by_cases h1 : s.left - 1 = 0
  · have hb1 : (s.left - 1 == 0) = true := by simpa using h1
    have hR : s.clockIn x = ((s.takesIn x 1).begins (s.takesIn x 1).got, 15) := by
      unfold St.clockIn
      rw [if_pos hs]
      dsimp only
      rw [if_pos (show (s.takesIn x 1).left = 0 from h1)]
    rw [hb1]
    have c28 := hB1.cell 28
    simp only [St.list, List.getElem?_cons_succ, List.getElem?_cons_zero] at c28
    have hj1 := hj.upd hU1 (fun g hg e => hjb (by rw [hg, e]))
    go_wp2_with fail
    refine (chip_begins b _ _ jv bv dv _ hB1 hj1).mono ?_
    rintro e w2 ⟨rfl, hB2, hU2⟩
    go_wp2
    go_ret
    have hU := hU1.trans hU2 (fun _ _ k => k)
    refine ⟨dv, by rw [hR]; rfl, by rw [hR]; exact hB2, ?_, fun k hk => .inl hk, hU.mono (fun k _ e => .inl e)⟩
    rw [hR]
    dsimp only
    rw [begins_data]
    exact hd.upd hU hdb
  · have hb1 : (s.left - 1 == 0) = false := by simpa using h1
    have hR : s.clockIn x = (s.takesIn x 1, 15) := by
      unfold St.clockIn
      rw [if_pos hs]
      dsimp only
      rw [if_neg (show ¬ (s.takesIn x 1).left = 0 from h1)]
    rw [hb1]
    go_wp2
    go_ret
    refine ⟨dv, by rw [hR]; rfl, by rw [hR]; exact hB1, ?_, fun k hk => .inl hk, hU1.mono (fun k _ e => .inl e)⟩
    rw [hR]
    exact hd.upd hU1 hdb
set_option maxHeartbeats 1000000 in
theorem clock2 (b : Nat) (x : Int) (s : St) (jv bv dv : Value) (w : World) (h : CB w b s jv bv dv) (hd : Row w 3 dv (ints s.data)) (hdb : ∀ k, dv.ownBlock = some k → k ≠ b) (ha : s.op.mode = true → s.op.addr = 1 ∨ s.op.addr = 4) (hda : s.op.inn = true → s.op.data ≠ 0 → s.op.data = 1 ∨ s.op.data = 4)
    (hs : s.stage = 2) (hln : s.op.addr = 1 ∨ s.op.addr = 4) (hl : 1 ≤ s.left ∧ s.left ≤ 400) (hg : 0 ≤ s.got ∧ s.got ≤ 1073741824) :
    Calls Tryz.prog 98 #[.pointer (some ⟨b, 0, none⟩), .int .i64 x] w (ClockPost b s jv bv dv w x) := by
  have c26 := h.cell 26
  have c21 := h.cell 21
  simp only [St.list, List.getElem?_cons_succ, List.getElem?_cons_zero] at c26 c21
  rw [hs] at c26
  go_enter Tryz.func98, Tryz.ntmps98
  go_wp2_with fail
  refine (cmd_takesIn b s jv bv dv x s.op.addr _ h hln hg hl).mono ?_
  rintro e w1 ⟨rfl, hB1, hU1⟩
  have hs0 : ¬ s.stage = 0 := by omega
  by_cases h1 : s.left - 1 = 0
  · have hb1 : (s.left - 1 == 0) = true := by simpa using h1
    have hR : s.clockIn x = ({ s.takesIn x s.op.addr with addr := (s.takesIn x s.op.addr).got % 4096 }.behind, 15) := by
      unfold St.clockIn
      rw [if_neg hs0, if_pos hs]
      dsimp only
      rw [if_pos (show (s.takesIn x s.op.addr).left = 0 from h1)]
    rw [hb1]
    have hgn := takesIn_got (x := x) (lanes := s.op.addr) hg.1
    have hop : (s.takesIn x s.op.addr).op = s.op := rfl
    have c28 := hB1.cell 28
    have c29 := hB1.cell 29
    have f29 := hB1.frozen 29
    simp only [St.list, List.getElem?_cons_succ, List.getElem?_cons_zero] at c28 c29
    have hdt : { s.takesIn x s.op.addr with addr := (s.takesIn x s.op.addr).got % 4096 }.behind.data = s.data := by rw [behind_data]; rfl
    obtain ⟨g1, hg1⟩ : ∃ g1, (s.takesIn x s.op.addr).got = g1 := ⟨_, rfl⟩
    rw [hg1] at c28 hgn
    have hB2 : CB (w1.setCell ⟨b, 29, none⟩ (.int .i64 (g1 % 4096))) b { s.takesIn x s.op.addr with addr := (s.takesIn x s.op.addr).got % 4096 } jv bv dv := by rw [hg1]; exact hB1.set 29 _
    have hU2 : Upd (fun k => k = b) w (w1.setCell ⟨b, 29, none⟩ (.int .i64 (g1 % 4096))) := hU1.setCell ⟨b, 29, none⟩ _ (fun _ => rfl)
    have HB2 := Lib.hid hB2
    have HU2 := Lib.hid hU2
    have HR := Lib.hid hR
    have HG := Lib.hid hg1
    have htm := tmod4096 hgn
    clear hB1 hU1 hR hB2 hU2 hg1
    go_wp2_with fail
    refine (cmd_behind b _ jv bv dv _ HB2.out ha hda).mono ?_
    rintro e w2 ⟨rfl, hB3, hU3⟩
    go_wp2
    go_ret
    have hU := HU2.out.trans hU3 (fun _ _ k => k)
    have hR := HR.out
    refine ⟨dv, by rw [hR]; rfl, by rw [hR]; exact hB3, ?_, fun k hk => .inl hk, hU.mono (fun k _ e => .inl e)⟩
    rw [hR]
    dsimp only
    rw [hdt]
    exact hd.upd hU hdb
  · have hb1 : (s.left - 1 == 0) = false := by simpa using h1
    have hR : s.clockIn x = (s.takesIn x s.op.addr, 15) := by
      unfold St.clockIn
      rw [if_neg hs0, if_pos hs]
      dsimp only
      rw [if_neg (show ¬ (s.takesIn x s.op.addr).left = 0 from h1)]
    rw [hb1]
    have HR := Lib.hid hR
    clear hR
    go_wp2
    go_ret
    have hR := HR.out
    refine ⟨dv, by rw [hR]; rfl, by rw [hR]; exact hB1, ?_, fun k hk => .inl hk, hU1.mono (fun k _ e => .inl e)⟩
    rw [hR]
    exact hd.upd hU1 hdb
set_option maxHeartbeats 1000000 in
theorem clock3 (b : Nat) (x : Int) (s : St) (jv bv dv : Value) (w : World) (h : CB w b s jv bv dv) (hd : Row w 3 dv (ints s.data)) (hdb : ∀ k, dv.ownBlock = some k → k ≠ b) (ha : s.op.mode = true → s.op.addr = 1 ∨ s.op.addr = 4) (hda : s.op.inn = true → s.op.data ≠ 0 → s.op.data = 1 ∨ s.op.data = 4)
    (hs : s.stage = 3) (hln : s.op.addr = 1 ∨ s.op.addr = 4) (hl : 1 ≤ s.left ∧ s.left ≤ 400) (hg : 0 ≤ s.got ∧ s.got ≤ 1073741824) :
    Calls Tryz.prog 98 #[.pointer (some ⟨b, 0, none⟩), .int .i64 x] w (ClockPost b s jv bv dv w x) := by
  have c26 := h.cell 26
  have c21 := h.cell 21
  simp only [St.list, List.getElem?_cons_succ, List.getElem?_cons_zero] at c26 c21
  rw [hs] at c26
  go_enter Tryz.func98, Tryz.ntmps98
  go_wp2_with fail
  refine (cmd_takesIn b s jv bv dv x s.op.addr _ h hln hg hl).mono ?_
  rintro e w1 ⟨rfl, hB1, hU1⟩
  have hs0 : ¬ s.stage = 0 := by omega
  have hs2 : ¬ s.stage = 2 := by omega
  by_cases h1 : s.left - 1 = 0
  · have hb1 : (s.left - 1 == 0) = true := by simpa using h1
    have hR : s.clockIn x = ({ s.takesIn x s.op.addr with mode := (s.takesIn x s.op.addr).got, moded := true }.behind, 15) := by
      unfold St.clockIn
      rw [if_neg hs0, if_neg hs2, if_pos hs]
      dsimp only
      rw [if_pos (show (s.takesIn x s.op.addr).left = 0 from h1)]
    rw [hb1]
    have hgn := takesIn_got (x := x) (lanes := s.op.addr) hg.1
    have hop : (s.takesIn x s.op.addr).op = s.op := rfl
    have c28 := hB1.cell 28
    have c30 := hB1.cell 30
    have f30 := hB1.frozen 30
    have c31 := hB1.cell 31
    have f31 := hB1.frozen 31
    simp only [St.list, List.getElem?_cons_succ, List.getElem?_cons_zero] at c28 c30 c31
    have hdt : { s.takesIn x s.op.addr with mode := (s.takesIn x s.op.addr).got, moded := true }.behind.data = s.data := by rw [behind_data]; rfl
    obtain ⟨g1, hg1⟩ : ∃ g1, (s.takesIn x s.op.addr).got = g1 := ⟨_, rfl⟩
    rw [hg1] at c28 hgn
    have hB2 : CB ((w1.setCell ⟨b, 30, none⟩ (.int .i64 g1)).setCell ⟨b, 31, none⟩ (.bool true)) b { s.takesIn x s.op.addr with mode := (s.takesIn x s.op.addr).got, moded := true } jv bv dv := by rw [hg1]; exact (hB1.set 30 _).set 31 _
    have hU2 : Upd (fun k => k = b) w ((w1.setCell ⟨b, 30, none⟩ (.int .i64 g1)).setCell ⟨b, 31, none⟩ (.bool true)) := (hU1.setCell ⟨b, 30, none⟩ _ (fun _ => rfl)).setCell ⟨b, 31, none⟩ _ (fun _ => rfl)
    have HB2 := Lib.hid hB2
    have HU2 := Lib.hid hU2
    have HR := Lib.hid hR
    have HG := Lib.hid hg1
    clear hB1 hU1 hR hB2 hU2 hg1
    go_wp2_with fail
    refine (cmd_behind b _ jv bv dv _ HB2.out ha hda).mono ?_
    rintro e w2 ⟨rfl, hB3, hU3⟩
    go_wp2
    go_ret
    have hU := HU2.out.trans hU3 (fun _ _ k => k)
    have hR := HR.out
    refine ⟨dv, by rw [hR]; rfl, by rw [hR]; exact hB3, ?_, fun k hk => .inl hk, hU.mono (fun k _ e => .inl e)⟩
    rw [hR]
    dsimp only
    rw [hdt]
    exact hd.upd hU hdb
  · have hb1 : (s.left - 1 == 0) = false := by simpa using h1
    have hR : s.clockIn x = (s.takesIn x s.op.addr, 15) := by
      unfold St.clockIn
      rw [if_neg hs0, if_neg hs2, if_pos hs]
      dsimp only
      rw [if_neg (show ¬ (s.takesIn x s.op.addr).left = 0 from h1)]
    rw [hb1]
    have HR := Lib.hid hR
    clear hR
    go_wp2
    go_ret
    have hR := HR.out
    refine ⟨dv, by rw [hR]; rfl, by rw [hR]; exact hB1, ?_, fun k hk => .inl hk, hU1.mono (fun k _ e => .inl e)⟩
    rw [hR]
    exact hd.upd hU1 hdb
end Go.Proofs.YteombggfmeilaaaGreat
namespace Go.Proofs.YteombggfmeilaaaGreat
open Go.RowKit
theorem says_data (s : St) : s.says.1.data = s.data := by
  have h1 : s.says1.data = s.data := by
    unfold St.says1
    split <;> rfl
  unfold St.says
  dsimp only
  split
  · exact h1
  · exact h1
set_option maxHeartbeats 1000000 in
theorem clock4 (b : Nat) (x : Int) (s : St) (jv bv dv : Value) (w : World) (h : CB w b s jv bv dv) (hd : Row w 3 dv (ints s.data)) (hdb : ∀ k, dv.ownBlock = some k → k ≠ b) (ha : s.op.mode = true → s.op.addr = 1 ∨ s.op.addr = 4) (hda : s.op.inn = true → s.op.data ≠ 0 → s.op.data = 1 ∨ s.op.data = 4)
    (hs : s.stage = 4) (hl : 1 ≤ s.left ∧ s.left ≤ 400) :
    Calls Tryz.prog 98 #[.pointer (some ⟨b, 0, none⟩), .int .i64 x] w (ClockPost b s jv bv dv w x) := by
  have c26 := h.cell 26
  have c27 := h.cell 27
  have f27 := h.frozen 27
  simp only [St.list, List.getElem?_cons_succ, List.getElem?_cons_zero] at c26 c27
  rw [hs] at c26
  have hs0 : ¬ s.stage = 0 := by omega
  have hs2 : ¬ s.stage = 2 := by omega
  have hs3 : ¬ s.stage = 3 := by omega
  have hB1 : CB (w.setCell ⟨b, 27, none⟩ (.int .i64 (s.left - 1))) b { s with left := s.left - 1 } jv bv dv := h.set 27 _
  have hU1 : Upd (fun k => k = b) w (w.setCell ⟨b, 27, none⟩ (.int .i64 (s.left - 1))) := (Upd.refl _ w).setCell ⟨b, 27, none⟩ _ (fun _ => rfl)
  have HB1 := Lib.hid hB1
  have HU1 := Lib.hid hU1
  clear hB1 hU1
  by_cases h1 : s.left - 1 = 0
  · have hR : s.clockIn x = ({ s with left := s.left - 1 }.behind, 15) := by
      unfold St.clockIn
      rw [if_neg hs0, if_neg hs2, if_neg hs3, if_pos hs]
      dsimp only
      rw [if_pos h1]
    have hb1 : (s.left - 1 == 0) = true := by simpa using h1
    have HR := Lib.hid hR
    clear hR h1
    go_enter Tryz.func98, Tryz.ntmps98
    go_wp2_with fail
    refine (cmd_behind b _ jv bv dv _ HB1.out ha hda).mono ?_
    rintro e w2 ⟨rfl, hB3, hU3⟩
    go_wp2
    go_ret
    have hU := HU1.out.trans hU3 (fun _ _ k => k)
    have hR := HR.out
    refine ⟨dv, by rw [hR]; rfl, by rw [hR]; exact hB3, ?_, fun k hk => .inl hk, hU.mono (fun k _ e => .inl e)⟩
    rw [hR]
    dsimp only
    rw [behind_data]
    exact hd.upd hU hdb
  · have hR : s.clockIn x = ({ s with left := s.left - 1 }, 15) := by
      unfold St.clockIn
      rw [if_neg hs0, if_neg hs2, if_neg hs3, if_pos hs]
      dsimp only
      rw [if_neg h1]
    have hb1 : (s.left - 1 == 0) = false := by simpa using h1
    have HR := Lib.hid hR
    clear hR
    go_enter Tryz.func98, Tryz.ntmps98
    go_wp2
    go_ret
    have hR := HR.out
    refine ⟨dv, by rw [hR]; rfl, by rw [hR]; exact HB1.out, ?_, fun k hk => .inl hk, HU1.out.mono (fun k _ e => .inl e)⟩
    rw [hR]
    exact hd.upd HU1.out hdb
set_option maxHeartbeats 1000000 in
theorem clock6 (ht : TableSaid) (b : Nat) (x : Int) (s : St) (jv bv dv : Value) (w : World) (h : CB w b s jv bv dv) (hd : Row w 3 dv (ints s.data)) (hdb : ∀ k, dv.ownBlock = some k → k ≠ b) (hj : JobV w jv s.job) (hsz : s.a.size = 4096) (hi : 0 ≤ s.told ∧ s.told ≤ 1099511627776) (had : 0 ≤ s.addr ∧ s.addr < 4096)
    (hdl : s.op.data = 1 ∧ 0 ≤ s.left ∧ s.left ≤ 7 ∨ s.op.data = 4 ∧ 0 ≤ s.left ∧ s.left ≤ 1) (hn : 0 ≤ s.now ∧ s.now ≤ 255) (hs : s.stage = 6) :
    Calls Tryz.prog 98 #[.pointer (some ⟨b, 0, none⟩), .int .i64 x] w (ClockPost b s jv bv dv w x) := by
  have c26 := h.cell 26
  simp only [St.list, List.getElem?_cons_succ, List.getElem?_cons_zero] at c26
  rw [hs] at c26
  have hR : s.clockIn x = s.says := by
    unfold St.clockIn
    rw [if_neg (by omega), if_neg (by omega), if_neg (by omega), if_neg (by omega), if_neg (by omega), if_pos hs]
  go_enter Tryz.func98, Tryz.ntmps98
  go_wp2_with fail
  refine (chip_says ht b s jv bv dv _ h hj hsz hi had hdl hn (byteAt_bd s s.told)).mono ?_
  rintro e w1 ⟨rfl, hB1, hU1⟩
  go_wp2
  go_ret
  refine ⟨dv, by rw [hR]; rfl, by rw [hR]; exact hB1, ?_, fun k hk => .inl hk, hU1.mono (fun k _ e => .inl e)⟩
  rw [hR, says_data]
  exact hd.upd hU1 hdb
theorem clock7 (b : Nat) (x : Int) (s : St) (jv bv dv : Value) (w : World) (h : CB w b s jv bv dv) (hd : Row w 3 dv (ints s.data)) (hdb : ∀ k, dv.ownBlock = some k → k ≠ b) (hs : s.stage = 7) :
    Calls Tryz.prog 98 #[.pointer (some ⟨b, 0, none⟩), .int .i64 x] w (ClockPost b s jv bv dv w x) := by
  have c26 := h.cell 26
  have c35 := h.cell 35
  have f35 := h.frozen 35
  simp only [St.list, List.getElem?_cons_succ, List.getElem?_cons_zero] at c26 c35
  rw [hs] at c26
  have hR : s.clockIn x = ({ s with beyond := true }, 15) := by
    unfold St.clockIn
    rw [if_neg (by omega), if_neg (by omega), if_neg (by omega), if_neg (by omega), if_neg (by omega), if_neg (by omega), if_pos hs]
  have HR := Lib.hid hR
  clear hR
  go_enter Tryz.func98, Tryz.ntmps98
  go_wp2
  go_ret
  have hR := HR.out
  have hU1 : Upd (fun k => k = b) w (w.setCell ⟨b, 35, none⟩ (.bool true)) := (Upd.refl _ w).setCell ⟨b, 35, none⟩ _ (fun _ => rfl)
  refine ⟨dv, by rw [hR]; rfl, by rw [hR]; exact h.set 35 _, ?_, fun k hk => .inl hk, hU1.mono (fun k _ e => .inl e)⟩
  rw [hR]
  exact hd.upd hU1 hdb
theorem clock1 (b : Nat) (x : Int) (s : St) (jv bv dv : Value) (w : World) (h : CB w b s jv bv dv) (hd : Row w 3 dv (ints s.data)) (_ : ∀ k, dv.ownBlock = some k → k ≠ b) (hs : s.stage = 1) :
    Calls Tryz.prog 98 #[.pointer (some ⟨b, 0, none⟩), .int .i64 x] w (ClockPost b s jv bv dv w x) := by
  have c26 := h.cell 26
  simp only [St.list, List.getElem?_cons_succ, List.getElem?_cons_zero] at c26
  rw [hs] at c26
  have hR : s.clockIn x = (s, 15) := by
    unfold St.clockIn
    rw [if_neg (by omega), if_neg (by omega), if_neg (by omega), if_neg (by omega), if_neg (by omega), if_neg (by omega), if_neg (by omega)]
  have HR := Lib.hid hR
  clear hR
  go_enter Tryz.func98, Tryz.ntmps98
  go_wp2
  go_ret
  have hR := HR.out
  exact ⟨dv, by rw [hR]; rfl, by rw [hR]; exact h, by rw [hR]; exact hd, fun k hk => .inl hk, Upd.refl _ w⟩
end Go.Proofs.YteombggfmeilaaaGreat
namespace Go.Proofs.YteombggfmeilaaaGreat
open Go.RowKit
theorem clock5_mk {b : Nat} {x : Int} {s : St} {jv bv dv : Value} {w w1 w2 : World} {g1 : Int} {g n cap : Nat} (hn : (ints s.data).length = n) (hU1 : Upd (fun k => k = b) w w1) (h2 : w2.ownsRow 0 3 1 (.slice (some ⟨g, 0, none⟩) (n + 1) cap) (n + 1) (ints s.data ++ [.int .i64 g1]))
    (hB2 : CB w2 b (s.takesIn x s.op.data) jv bv dv) (U3 : Upd (fun k => dv.ownBlock = some k) w1 w2) (h4 : dv.ownBlock = some g ∨ w1.heap.size ≤ g) (hdb : ∀ k, dv.ownBlock = some k → k ≠ b) (hbl : b < w1.heap.size) :
    ∃ dv', CB (w2.setCell ⟨b, 32, none⟩ (.slice (some ⟨g, 0, none⟩) (n + 1) cap)) b { s.takesIn x s.op.data with data := s.data ++ [g1] } jv bv dv' ∧ Row (w2.setCell ⟨b, 32, none⟩ (.slice (some ⟨g, 0, none⟩) (n + 1) cap)) 3 dv' (ints (s.data ++ [g1])) ∧ (∀ k, dv'.ownBlock = some k → dv.ownBlock = some k ∨ w.heap.size ≤ k) ∧
      Upd (fun k => k = b ∨ dv.ownBlock = some k) w (w2.setCell ⟨b, 32, none⟩ (.slice (some ⟨g, 0, none⟩) (n + 1) cap)) := by
  have hgb : g ≠ b := by
    rcases h4 with h4 | h4
    · exact hdb g h4
    · omega
  have hs := (Upd.refl (fun k => k = b) w2).setCell ⟨b, 32, none⟩ (.slice (some ⟨g, 0, none⟩) (n + 1) cap) (fun _ => rfl)
  have hw := hU1.size
  refine ⟨_, hB2.set 32 (.slice (some ⟨g, 0, none⟩) (n + 1) cap), ?_, ?_, ?_⟩
  · have hR : Row w2 3 (.slice (some ⟨g, 0, none⟩) (n + 1) cap) (ints (s.data ++ [g1])) := by
      unfold Row
      rw [ints_app, show ints [g1] = [Value.int .i64 g1] from rfl, List.length_append, hn]
      exact h2
    exact hR.upd hs (fun k hk e => hgb (by simp [Value.ownBlock] at hk; rw [hk, e]))
  · intro k hk
    simp [Value.ownBlock] at hk
    subst hk
    rcases h4 with h4 | h4
    · exact .inl h4
    · exact .inr (by omega)
  · exact ((hU1.mono (T := fun k => k = b ∨ dv.ownBlock = some k) (fun _ _ e => .inl e)).trans U3 (fun _ _ e => .inr e)).trans hs (fun _ _ e => .inl e)
set_option maxRecDepth 100000 in
set_option maxHeartbeats 1000000 in
theorem clock5 (b : Nat) (x : Int) (s : St) (jv bv dv : Value) (w : World) (h : CB w b s jv bv dv) (hd : Row w 3 dv (ints s.data)) (hdb : ∀ k, dv.ownBlock = some k → k ≠ b) (ha : s.op.mode = true → s.op.addr = 1 ∨ s.op.addr = 4) (hda : s.op.inn = true → s.op.data ≠ 0 → s.op.data = 1 ∨ s.op.data = 4)
    (hs : s.stage = 5) (hln : s.op.data = 1 ∨ s.op.data = 4) (hl : 1 ≤ s.left ∧ s.left ≤ 400) (hg : 0 ≤ s.got ∧ s.got ≤ 1073741824) (hlen : s.data.length ≤ 1048576) :
    Calls Tryz.prog 98 #[.pointer (some ⟨b, 0, none⟩), .int .i64 x] w (ClockPost b s jv bv dv w x) := by
  have c26 := h.cell 26
  have c24 := h.cell 24
  simp only [St.list, List.getElem?_cons_succ, List.getElem?_cons_zero] at c26 c24
  rw [hs] at c26
  go_enter Tryz.func98, Tryz.ntmps98
  go_wp2_with fail
  refine (cmd_takesIn b s jv bv dv x s.op.data _ h hln hg hl).mono ?_
  rintro e w1 ⟨rfl, hB1, hU1⟩
  by_cases h1 : s.left - 1 = 0
  · have hb1 : (s.left - 1 == 0) = true := by simpa using h1
    rw [hb1]
    obtain ⟨g1, hg1⟩ : ∃ g1, (s.takesIn x s.op.data).got = g1 := ⟨_, rfl⟩
    obtain ⟨da, dc, rfl, -⟩ := hd.form
    have c28 := hB1.cell 28
    have c32 := hB1.cell 32
    have f32 := hB1.frozen 32
    simp only [St.list, List.getElem?_cons_succ, List.getElem?_cons_zero] at c28 c32
    rw [hg1] at c28
    go_upto_region 20 with fail
    have hd1 := Lib.hid (hd.upd hU1 hdb)
    obtain ⟨i0, hi0, hz0, hz1, hz2⟩ := info_parts info_int
    have HB1 := Lib.hid hB1
    go_cut [] (fun wx => ∃ dv', CB wx b { s.takesIn x s.op.data with data := s.data ++ [g1] } jv bv dv' ∧ Row wx 3 dv' (ints (s.data ++ [g1])) ∧ (∀ k, dv'.ownBlock = some k → (Value.slice da (ints s.data).length dc).ownBlock = some k ∨ w.heap.size ≤ k) ∧ Upd (fun k => k = b ∨ (Value.slice da (ints s.data).length dc).ownBlock = some k) w wx)
    case first =>
      have U0 : Upd none' w1 (w1.alloc (.cells #[.int .i64 g1] 3)).drew := ((Upd.refl none' w1).alloc _).drew
      have hown := Lib.hid (hd1.out.upd U0 (fun _ _ f => f))
      have hnews : ∀ j u, [Value.int .i64 g1][j]? = some u → (w1.alloc (.cells #[.int .i64 g1] 3)).drew.cell? ((⟨w1.heap.size, 0, none⟩ : Addr).add j) = some u := World.news_of_block (cs := #[.int .i64 g1]) (Blk.new w1 [.int .i64 g1] 3).drew
      have HN := Lib.hid hnews
      have hbl := hB1.lt
      clear hnews
      go_region_law (refine step_append_lies _ rfl _ _ 33 rfl 0 3 i0 (.int .i64 0) 1 8 Tryz.underlying33 hi0 hz0 hz1 hz2 rfl (by decide) _ _ (ints s.data) rfl hown.out _ 1 1 [.int .i64 g1] rfl rfl HN.out (by intro u hu; simp at hu; subst hu; rfl) (by decide) (by simp [ints, maxLen]; omega) (by simp [ints]; omega) (Nat.zero_le _) _ rfl ?_; intro g cap w2 h2 h3 h4 h5; have U2 := (Upd.refl none' w1).trans U0 (fun _ _ f => f); have U3 := (U2.mono (T := fun k => (Value.slice da (ints s.data).length dc).ownBlock = some k) (fun _ _ f => f.elim)).grown h3 (fun k hk _ => hk); have HB2 := Lib.hid (HB1.out.upd U3 (fun e => hdb b e rfl)); have m32 := HB2.out.cell 32; have n32 := HB2.out.frozen 32; simp only [St.list, List.getElem?_cons_succ, List.getElem?_cons_zero] at m32)
      all_goals
        have h4' : (Value.slice da (ints s.data).length dc).ownBlock = some g ∨ w1.heap.size ≤ g := h4.imp_right (fun e => by rw [e]; simp)
        go_wp2_with fail
        go_meet
        exact clock5_mk rfl hU1 h2 HB2.out U3 h4' hdb hbl
    case rest =>
      obtain ⟨dv', hB3, hR3, hf3, hU3⟩ := hcut
      have hs0 : ¬ s.stage = 0 := by omega
      have hs2 : ¬ s.stage = 2 := by omega
      have hs3 : ¬ s.stage = 3 := by omega
      have hs4 : ¬ s.stage = 4 := by omega
      have hR : s.clockIn x = ({ s.takesIn x s.op.data with data := s.data ++ [g1] }.behind, 15) := by
        unfold St.clockIn
        rw [if_neg hs0, if_neg hs2, if_neg hs3, if_neg hs4, if_pos hs]
        dsimp only
        rw [if_pos (show (s.takesIn x s.op.data).left = 0 from h1), hg1]
        rfl
      have HR := Lib.hid hR
      have HR3 := Lib.hid hR3
      have HF3 := Lib.hid hf3
      have HU3 := Lib.hid hU3
      clear hR hR3 hf3 hU3 hs0 hs2 hs3 hs4
      go_wp2_with fail
      refine (cmd_behind b _ jv bv dv' _ hB3 ha hda).mono ?_
      rintro e w2 ⟨rfl, hB4, hU4⟩
      go_wp2
      go_ret
      have hU := HU3.out.trans hU4 (fun _ _ e => .inl e)
      have hR := HR.out
      have hne : ∀ k, dv'.ownBlock = some k → k ≠ b := fun k hk => by
        rcases HF3.out k hk with h5 | h5
        · exact hdb k h5
        · have := h.lt; omega
      refine ⟨dv', by rw [hR]; rfl, by rw [hR]; exact hB4, ?_, HF3.out, hU⟩
      rw [hR]
      dsimp only
      rw [behind_data]
      exact HR3.out.upd hU4 hne
  · have hb1 : (s.left - 1 == 0) = false := by simpa using h1
    have hR : s.clockIn x = (s.takesIn x s.op.data, 15) := by
      unfold St.clockIn
      rw [if_neg (by omega), if_neg (by omega), if_neg (by omega), if_neg (by omega), if_pos hs]
      dsimp only
      rw [if_neg (show ¬ (s.takesIn x s.op.data).left = 0 from h1)]
    rw [hb1]
    have HR := Lib.hid hR
    clear hR
    go_wp2
    go_ret
    have hR := HR.out
    refine ⟨dv, by rw [hR]; rfl, by rw [hR]; exact hB1, ?_, fun k hk => .inl hk, hU1.mono (fun k _ e => .inl e)⟩
    rw [hR]
    exact hd.upd hU1 hdb
end Go.Proofs.YteombggfmeilaaaGreat
namespace Go.Proofs.YteombggfmeilaaaGreat
open Go.RowKit
/-- The blocks that a chip owns. -/
def chipSet (b : Nat) (jv bv dv : Value) : Nat → Prop := fun k => k = b ∨ jv = .pointer (some ⟨k, 0, none⟩) ∨ bv.ownBlock = some k ∨ dv.ownBlock = some k
structure ChipV (w : World) (b : Nat) (s : St) (jv bv dv : Value) : Prop where
  cb : CB w b s jv bv dv
  job : JobV w jv s.job
  busy : RS w bv (ints s.busy)
  busyLt : ∀ k, bv.ownBlock = some k → k < w.heap.size
  data : Row w 3 dv (ints s.data)
  sj : ∀ k, jv = .pointer (some ⟨k, 0, none⟩) → k ≠ b
  sb : ∀ k, bv.ownBlock = some k → k ≠ b ∧ jv ≠ .pointer (some ⟨k, 0, none⟩)
  sd : ∀ k, dv.ownBlock = some k → k ≠ b ∧ jv ≠ .pointer (some ⟨k, 0, none⟩) ∧ bv.ownBlock ≠ some k
/-- Block b is a chip in the state s; it owns S. -/
def ChipAt (w : World) (b : Nat) (s : St) (S : Nat → Prop) : Prop := ∃ jv bv dv, ChipV w b s jv bv dv ∧ S = chipSet b jv bv dv
theorem JobV.lt {w : World} {jv : Value} {j : Option Job} (h : JobV w jv j) : ∀ k, jv = .pointer (some ⟨k, 0, none⟩) → k < w.heap.size := by
  intro k hk
  cases j with
  | none => rw [show jv = .pointer none from h] at hk; cases hk
  | some j =>
    obtain ⟨g, h1, h2⟩ := h
    rw [h1] at hk
    simp only [Value.pointer.injEq, Option.some.injEq, Addr.mk.injEq, and_true] at hk
    rw [← hk]
    exact h2.lt
theorem ChipV.jb {w : World} {b : Nat} {s : St} {jv bv dv : Value} (h : ChipV w b s jv bv dv) : jv ≠ .pointer (some ⟨b, 0, none⟩) := fun e => h.sj b e rfl
theorem ChipAt.lt {w : World} {b : Nat} {s : St} {S : Nat → Prop} (h : ChipAt w b s S) : ∀ k, S k → k < w.heap.size := by
  obtain ⟨jv, bv, dv, hv, rfl⟩ := h
  rintro k (rfl | hk | hk | hk)
  · exact hv.cb.lt
  · exact hv.job.lt k hk
  · exact hv.busyLt k hk
  · exact hv.data.lt k hk
theorem ChipAt.upd {w w' : World} {b : Nat} {s : St} {S T : Nat → Prop} (h : ChipAt w b s S) (u : Upd T w w') (hT : ∀ k, S k → ¬ T k) : ChipAt w' b s S := by
  obtain ⟨jv, bv, dv, hv, rfl⟩ := h
  exact ⟨jv, bv, dv, ⟨hv.cb.upd u (hT b (.inl rfl)), hv.job.upd u (fun g hg => hT g (.inr (.inl hg))), hv.busy.upd u (fun k _ hk => hT k (.inr (.inr (.inl hk)))), fun k hk => Nat.lt_of_lt_of_le (hv.busyLt k hk) u.size,
    hv.data.upd u (fun k hk => hT k (.inr (.inr (.inr hk)))), hv.sj, hv.sb, hv.sd⟩, rfl⟩
theorem chip_clockIn (ht : TableSaid) (b : Nat) (x : Int) (s : St) (jv bv dv : Value) (w : World) (hv : ChipV w b s jv bv dv) (N : Int) (hI : s.Inv N) (hN : N ≤ 1048576) :
    Calls Tryz.prog 98 #[.pointer (some ⟨b, 0, none⟩), .int .i64 x] w (ClockPost b s jv bv dv w x) := by
  obtain ⟨c, hc⟩ := hI.op
  obtain ⟨o1, o2, o3, o4, o5, o6⟩ := op_facts c
  rw [← hc] at o1 o2 o3 o4 o5 o6
  have ha : s.op.mode = true → s.op.addr = 1 ∨ s.op.addr = 4 := fun h => .inr (o1 h)
  have hda : s.op.inn = true → s.op.data ≠ 0 → s.op.data = 1 ∨ s.op.data = 4 := fun h _ => .inl (o2 h)
  have hdb : ∀ k, dv.ownBlock = some k → k ≠ b := fun k hk => (hv.sd k hk).1
  have hlen := hI.len
  have htold := hI.told
  rcases hI.part with ⟨hs, l1, l2, g0, gl⟩ | hs | ⟨hs, g0, hk⟩ | ⟨hs, ha4, l1, l2, g0, gl⟩ | ⟨hs, l1, l2⟩ | ⟨hs, hi, hd, l1, l2, g0, gl⟩ | ⟨hs, hi, hk⟩ | hs
  · exact clock0 b x s jv bv dv w hv.cb hv.job hv.jb hv.data hdb hs ⟨l1, l2⟩ g0 gl
  · exact clock1 b x s jv bv dv w hv.cb hv.data hdb hs
  · have : s.got + 1 ≤ 16777216 := by
      rcases hk with ⟨_, _, _, gl⟩ | ⟨_, _, _, gl⟩
      · exact got2 g0 gl
      · exact got16 g0 gl
    exact clock2 b x s jv bv dv w hv.cb hv.data hdb ha hda hs (by omega) (by omega) (by omega)
  · have := got16 g0 gl
    exact clock3 b x s jv bv dv w hv.cb hv.data hdb ha hda hs (by omega) (by omega) (by omega)
  · exact clock4 b x s jv bv dv w hv.cb hv.data hdb ha hda hs (by omega)
  · have := got2 g0 gl
    exact clock5 b x s jv bv dv w hv.cb hv.data hdb ha hda hs (.inl hd) (by omega) (by omega) (by omega)
  · exact clock6 ht b x s jv bv dv w hv.cb hv.data hdb hv.job hI.size (by omega) hI.addr (by omega) hI.now hs
  · exact clock7 b x s jv bv dv w hv.cb hv.data hdb hs
end Go.Proofs.YteombggfmeilaaaGreat
namespace Go.Proofs.YteombggfmeilaaaGreat
open Go.RowKit
theorem pass_inv {s : St} {N : Int} (h : s.Inv N) : s.pass.Inv N := by
  unfold St.pass
  split
  · exact h
  · rename_i j hj
    have hok := h.job j hj
    split
    · exact h
    · split
      · exact ⟨by rw [show (_ : St).a = j.cells s.a all255 from rfl, Job.cells_size]; exact h.size, fun _ e => (by cases e), h.addr, h.told, h.len, h.data, h.now, h.mode, h.op, h.wipes, h.busy, h.part⟩
      · rename_i hl
        refine ⟨h.size, ?_, h.addr, h.told, h.len, h.data, h.now, h.mode, h.op, h.wipes, h.busy, h.part⟩
        intro j' e
        have e' : some { j with left := j.left - 1 } = some j' := e
        simp only [Option.some.injEq] at e'
        subst e'
        exact ⟨hok.1, by dsimp only; omega, by have := hok.2.2; dsimp only; omega⟩
theorem clock_inv {s : St} {N : Int} (h : s.Inv N) (x : Int) : (s.clock x).1.Inv (N + 1) := by
  unfold St.clock
  dsimp only
  split
  · exact clockIn_inv (pass_inv h) x
  · exact (pass_inv h).mono (by omega)
theorem pass_keeps (s : St) : s.pass.busy = s.busy ∧ s.pass.data = s.data ∧ s.pass.sel = s.sel := by
  unfold St.pass
  repeat' split
  all_goals exact ⟨rfl, rfl, rfl⟩
/-- What a call leaves of a chip. -/
def ChipPost (b : Nat) (s' : St) (S : Nat → Prop) (w w' : World) : Prop := ∃ S', ChipAt w' b s' S' ∧ (∀ k, S' k → S k ∨ w.heap.size ≤ k) ∧ Upd S w w'
theorem ChipV.pass {w w1 : World} {b : Nat} {s : St} {jv jv' bv dv : Value} (hv : ChipV w b s jv bv dv) (hB : CB w1 b s.pass jv' bv dv) (hJ : JobV w1 jv' s.pass.job) (hjj : jv' = jv ∨ jv' = .pointer none) (hU : Upd (fun k => k = b ∨ jv = .pointer (some ⟨k, 0, none⟩)) w w1) :
    ChipV w1 b s.pass jv' bv dv ∧ ∀ k, chipSet b jv' bv dv k → chipSet b jv bv dv k := by
  obtain ⟨e1, e2, e3⟩ := pass_keeps s
  have hptr : ∀ k, jv' = .pointer (some ⟨k, 0, none⟩) → jv = .pointer (some ⟨k, 0, none⟩) := by
    intro k hk
    rcases hjj with h | h
    · rw [← h]; exact hk
    · rw [h] at hk; cases hk
  have h1 : RS w1 bv (ints s.pass.busy) := by
    rw [e1]
    refine hv.busy.upd hU (fun k _ hk e => ?_)
    rcases e with e | e
    · exact (hv.sb k hk).1 e
    · exact (hv.sb k hk).2 e
  have h2 : Row w1 3 dv (ints s.pass.data) := by
    rw [e2]
    refine hv.data.upd hU (fun k hk e => ?_)
    rcases e with e | e
    · exact (hv.sd k hk).1 e
    · exact (hv.sd k hk).2.1 e
  refine ⟨⟨hB, hJ, h1, fun k hk => Nat.lt_of_lt_of_le (hv.busyLt k hk) hU.size, h2, fun k hk => hv.sj k (hptr k hk), fun k hk => ⟨(hv.sb k hk).1, fun e => (hv.sb k hk).2 (hptr k e)⟩,
    fun k hk => ⟨(hv.sd k hk).1, fun e => (hv.sd k hk).2.1 (hptr k e), (hv.sd k hk).2.2⟩⟩, ?_⟩
  · rintro k (h | h | h | h)
    · exact .inl h
    · exact .inr (.inl (hptr k h))
    · exact .inr (.inr (.inl h))
    · exact .inr (.inr (.inr h))
theorem ChipV.clockIn {w w1 : World} {b : Nat} {s : St} {jv bv dv : Value} {x : Int} {e : Ending} (hv : ChipV w b s jv bv dv) (h : ClockPost b s jv bv dv w x e w1) : e = .returned (.int .i64 (s.clockIn x).2) ∧ ChipPost b (s.clockIn x).1 (chipSet b jv bv dv) w w1 := by
  obtain ⟨dv', he, hB, hR, hf, hU⟩ := h
  have hkeep : (s.clockIn x).1.job = s.job ∧ (s.clockIn x).1.busy = s.busy := by
    have kb : ∀ t : St, t.behind.job = t.job ∧ t.behind.busy = t.busy := fun t => by
      unfold St.behind
      repeat' split
      all_goals exact ⟨rfl, rfl⟩
    have kg : ∀ (t : St) (c : Int), (t.begins c).job = t.job ∧ (t.begins c).busy = t.busy := fun t c => by
      unfold St.begins
      dsimp only
      split
      · exact ⟨rfl, rfl⟩
      · split
        · exact ⟨rfl, rfl⟩
        · exact kb _
    have ks : s.says.1.job = s.job ∧ s.says.1.busy = s.busy := by
      have k1 : s.says1.job = s.job ∧ s.says1.busy = s.busy := by
        unfold St.says1
        split <;> exact ⟨rfl, rfl⟩
      unfold St.says
      dsimp only
      split <;> exact k1
    unfold St.clockIn
    dsimp only
    split
    · split
      · exact kg _ _
      · exact ⟨rfl, rfl⟩
    · split
      · split
        · exact kb _
        · exact ⟨rfl, rfl⟩
      · split
        · split
          · exact kb _
          · exact ⟨rfl, rfl⟩
        · split
          · split
            · exact kb _
            · exact ⟨rfl, rfl⟩
          · split
            · split
              · exact kb _
              · exact ⟨rfl, rfl⟩
            · split
              · exact ks
              · split <;> exact ⟨rfl, rfl⟩
  have hnew : ∀ k, dv'.ownBlock = some k → k ≠ b ∧ jv ≠ .pointer (some ⟨k, 0, none⟩) ∧ bv.ownBlock ≠ some k := by
    intro k hk
    rcases hf k hk with h1 | h1
    · exact hv.sd k h1
    · refine ⟨fun e => ?_, fun e => ?_, fun e => ?_⟩
      · have := hv.cb.lt; omega
      · have := hv.job.lt k e; omega
      · have := hv.busyLt k e; omega
  refine ⟨he, chipSet b jv bv dv', ⟨jv, bv, dv', ⟨hB, ?_, ?_, fun k hk => Nat.lt_of_lt_of_le (hv.busyLt k hk) hU.size, hR, hv.sj, hv.sb, hnew⟩, rfl⟩, ?_, ?_⟩
  · rw [hkeep.1]
    refine hv.job.upd hU (fun g hg e => ?_)
    rcases e with e | e
    · exact hv.sj g hg e
    · exact (hv.sd g e).2.1 hg
  · rw [hkeep.2]
    refine hv.busy.upd hU (fun k _ hk e => ?_)
    rcases e with e | e
    · exact (hv.sb k hk).1 e
    · exact (hv.sd k e).2.2 hk
  · rintro k (h | h | h | h)
    · exact .inl (.inl h)
    · exact .inl (.inr (.inl h))
    · exact .inl (.inr (.inr (.inl h)))
    · rcases hf k h with h1 | h1
      · exact .inl (.inr (.inr (.inr h1)))
      · exact .inr h1
  · refine hU.mono (fun k _ e => ?_)
    rcases e with e | e
    · exact .inl e
    · exact .inr (.inr (.inr e))
set_option maxRecDepth 100000 in
set_option maxHeartbeats 1000000 in
theorem chip_clock (ht : TableSaid) (b : Nat) (x : Int) (s : St) (S : Nat → Prop) (w : World) (h : ChipAt w b s S) (N : Int) (hI : s.Inv N) (hN : N ≤ 1048576) (hx : 0 ≤ x ∧ x ≤ 15) :
    Calls Tryz.prog 21 #[.pointer (some ⟨b, 0, none⟩), .int .i64 x] w fun e w' => e = .returned (.tuple #[.int .i64 (s.clock x).2, .int .i64 0]) ∧ ChipPost b (s.clock x).1 S w w' := by
  obtain ⟨jv, bv, dv, hv, rfl⟩ := h
  have HV := Lib.hid hv
  go_enter Tryz.func21, Tryz.ntmps21
  go_wp2_with fail
  refine (chip_pass b s jv bv dv _ hv.cb hv.job hI.job hI.size hv.jb).mono ?_
  rintro e w1 ⟨rfl, jv', hB1, hJ1, hjj, hU1⟩
  obtain ⟨hv1, hset⟩ := HV.out.pass hB1 hJ1 hjj hU1
  have c15 := hB1.cell 15
  simp only [St.list, List.getElem?_cons_succ, List.getElem?_cons_zero] at c15
  have hU1' : Upd (chipSet b jv bv dv) w w1 := hU1.mono (fun k _ e => e.elim .inl (fun e => .inr (.inl e)))
  cases hsel : s.pass.sel with
  | false =>
    have hR : s.clock x = (s.pass, 15) := by unfold St.clock; dsimp only; rw [hsel]; rfl
    rw [hsel] at c15
    have HV1 := Lib.hid hv1
    have HR := Lib.hid hR
    clear hv hv1 hR hB1 hJ1
    go_wp2
    go_ret2
    rw [HR.out]
    exact ⟨rfl, chipSet b jv' bv dv, ⟨jv', bv, dv, HV1.out, rfl⟩, fun k hk => .inl (hset k hk), hU1'⟩
  | true =>
    have hR : s.clock x = s.pass.clockIn x := by unfold St.clock; dsimp only; rw [hsel]; rfl
    rw [hsel] at c15
    have HV1 := Lib.hid hv1
    have HR := Lib.hid hR
    clear hv hv1 hR hB1 hJ1
    go_wp2_with fail
    refine (chip_clockIn ht b x s.pass jv' bv dv _ HV1.out N (pass_inv hI) hN).mono ?_
    intro e w2 hpost
    obtain ⟨rfl, S', hA, hS', hU2⟩ := HV1.out.clockIn hpost
    go_wp2
    go_ret2
    rw [HR.out]
    refine ⟨rfl, S', hA, fun k hk => ?_, hU1'.trans hU2 (fun k _ e => hset k e)⟩
    rcases hS' k hk with h1 | h1
    · exact .inl (hset k h1)
    · exact .inr (Nat.le_trans hU1'.size h1)
end Go.Proofs.YteombggfmeilaaaGreat
namespace Go.Proofs.YteombggfmeilaaaGreat
open Go.RowKit
/-- What a Select leaves ahead of a read that goes on. -/
def St.sel0 (s : St) : St := { s with sel := true, op := op0, stage := 0, left := 8, got := 0, addr := 0, mode := 0, moded := false, data := [], told := 0, now := 0, beyond := false }
theorem select_eq (s : St) : s.select = if s.goes then s.sel0.begins 235 else s.sel0 := rfl
theorem sel0_inv {s : St} {N : Int} (h : s.Inv N) : s.sel0.Inv N :=
  ⟨h.size, h.job, ⟨Int.le_refl 0, show (0 : Int) < 4096 by decide⟩, ⟨Int.le_refl 0, Int.le_trans h.told.1 h.told.2⟩, Int.le_trans h.told.1 h.told.2, fun x hx => (by cases hx), ⟨Int.le_refl 0, show (0 : Int) ≤ 255 by decide⟩, ⟨Int.le_refl 0, show (0 : Int) ≤ 255 by decide⟩, ⟨0, rfl⟩, h.wipes, h.busy, .inl ⟨rfl, show (1 : Int) ≤ 8 by decide, show (8 : Int) ≤ 8 by decide, Int.le_refl 0, show ((0 : Int) + 1) * 2 ^ (8 : Int).toNat ≤ 256 by decide⟩⟩
theorem select_inv {s : St} {N : Int} (h : s.Inv N) : s.select.Inv N := by
  rw [select_eq]
  split
  · exact begins_inv (sel0_inv h).b _
  · exact sel0_inv h
set_option maxHeartbeats 1000000 in
theorem sel0_world {w : World} {b : Nat} {s : St} {jv bv dv : Value} (h : CB w b s jv bv dv) :
    CB (((((((((((((((((w.setCell ⟨b, 15, none⟩ (.bool true)).setCell ⟨b, 20, none⟩ (.int .i64 0)).setCell ⟨b, 21, none⟩ (.int .i64 0)).setCell ⟨b, 22, none⟩ (.bool false)).setCell ⟨b, 23, none⟩ (.int .i64 0)).setCell ⟨b, 24, none⟩ (.int .i64 0)).setCell ⟨b, 25, none⟩ (.bool false)).setCell ⟨b, 26, none⟩ (.int .i64 0)).setCell ⟨b, 27, none⟩ (.int .i64 8)).setCell ⟨b, 28, none⟩ (.int .i64 0)).setCell ⟨b, 29, none⟩ (.int .i64 0)).setCell ⟨b, 30, none⟩ (.int .i64 0)).setCell ⟨b, 31, none⟩ (.bool false)).setCell ⟨b, 32, none⟩ (.slice none 0 0)).setCell ⟨b, 33, none⟩ (.int .i64 0)).setCell ⟨b, 34, none⟩ (.int .i64 0)).setCell ⟨b, 35, none⟩ (.bool false)) b s.sel0 jv bv (.slice none 0 0) := by
  have := (((((((((((((((((h.set 15 (.bool true)).set 20 (.int .i64 0)).set 21 (.int .i64 0)).set 22 (.bool false)).set 23 (.int .i64 0)).set 24 (.int .i64 0)).set 25 (.bool false)).set 26 (.int .i64 0)).set 27 (.int .i64 8)).set 28 (.int .i64 0)).set 29 (.int .i64 0)).set 30 (.int .i64 0)).set 31 (.bool false)).set 32 (.slice none 0 0)).set 33 (.int .i64 0)).set 34 (.int .i64 0)).set 35 (.bool false))
  simp only [St.list, List.set_cons_zero, List.set_cons_succ] at this
  exact this
theorem sel0_upd (w : World) (b : Nat) : Upd (fun k => k = b) w (((((((((((((((((w.setCell ⟨b, 15, none⟩ (.bool true)).setCell ⟨b, 20, none⟩ (.int .i64 0)).setCell ⟨b, 21, none⟩ (.int .i64 0)).setCell ⟨b, 22, none⟩ (.bool false)).setCell ⟨b, 23, none⟩ (.int .i64 0)).setCell ⟨b, 24, none⟩ (.int .i64 0)).setCell ⟨b, 25, none⟩ (.bool false)).setCell ⟨b, 26, none⟩ (.int .i64 0)).setCell ⟨b, 27, none⟩ (.int .i64 8)).setCell ⟨b, 28, none⟩ (.int .i64 0)).setCell ⟨b, 29, none⟩ (.int .i64 0)).setCell ⟨b, 30, none⟩ (.int .i64 0)).setCell ⟨b, 31, none⟩ (.bool false)).setCell ⟨b, 32, none⟩ (.slice none 0 0)).setCell ⟨b, 33, none⟩ (.int .i64 0)).setCell ⟨b, 34, none⟩ (.int .i64 0)).setCell ⟨b, 35, none⟩ (.bool false)) := ((((((((((((((((((Upd.refl (fun k => k = b) w).setCell ⟨b, 15, none⟩ (.bool true) (fun _ => rfl)).setCell ⟨b, 20, none⟩ (.int .i64 0) (fun _ => rfl)).setCell ⟨b, 21, none⟩ (.int .i64 0) (fun _ => rfl)).setCell ⟨b, 22, none⟩ (.bool false) (fun _ => rfl)).setCell ⟨b, 23, none⟩ (.int .i64 0) (fun _ => rfl)).setCell ⟨b, 24, none⟩ (.int .i64 0) (fun _ => rfl)).setCell ⟨b, 25, none⟩ (.bool false) (fun _ => rfl)).setCell ⟨b, 26, none⟩ (.int .i64 0) (fun _ => rfl)).setCell ⟨b, 27, none⟩ (.int .i64 8) (fun _ => rfl)).setCell ⟨b, 28, none⟩ (.int .i64 0) (fun _ => rfl)).setCell ⟨b, 29, none⟩ (.int .i64 0) (fun _ => rfl)).setCell ⟨b, 30, none⟩ (.int .i64 0) (fun _ => rfl)).setCell ⟨b, 31, none⟩ (.bool false) (fun _ => rfl)).setCell ⟨b, 32, none⟩ (.slice none 0 0) (fun _ => rfl)).setCell ⟨b, 33, none⟩ (.int .i64 0) (fun _ => rfl)).setCell ⟨b, 34, none⟩ (.int .i64 0) (fun _ => rfl)).setCell ⟨b, 35, none⟩ (.bool false) (fun _ => rfl))
theorem begins_keeps (t : St) (c : Int) : (t.begins c).job = t.job ∧ (t.begins c).busy = t.busy ∧ (t.begins c).data = t.data := by
  refine ⟨?_, ?_, begins_data t c⟩
  · unfold St.begins St.behind
    dsimp only
    repeat' split
    all_goals rfl
  · unfold St.begins St.behind
    dsimp only
    repeat' split
    all_goals rfl
set_option maxRecDepth 100000 in
set_option maxHeartbeats 1000000 in
theorem chip_select (b : Nat) (s : St) (S : Nat → Prop) (w : World) (hA : ChipAt w b s S) (hsel : s.sel = false) :
    Calls Tryz.prog 17 #[.pointer (some ⟨b, 0, none⟩)] w fun e w' => e = .returned (.int .i64 0) ∧ ChipPost b s.select S w w' := by
  obtain ⟨jv, bv, dv, hv, rfl⟩ := hA
  have h := hv.cb
  have HV := Lib.hid hv
  have hl := lane_many 1 (.inl rfl)
  have c17 := h.cell 17
  have c15 := h.cell 15
  have f15 := h.frozen 15
  have c20 := h.cell 20
  have f20 := h.frozen 20
  have c21 := h.cell 21
  have f21 := h.frozen 21
  have c22 := h.cell 22
  have f22 := h.frozen 22
  have c23 := h.cell 23
  have f23 := h.frozen 23
  have c24 := h.cell 24
  have f24 := h.frozen 24
  have c25 := h.cell 25
  have f25 := h.frozen 25
  have c26 := h.cell 26
  have f26 := h.frozen 26
  have c27 := h.cell 27
  have f27 := h.frozen 27
  have c28 := h.cell 28
  have f28 := h.frozen 28
  have c29 := h.cell 29
  have f29 := h.frozen 29
  have c30 := h.cell 30
  have f30 := h.frozen 30
  have c31 := h.cell 31
  have f31 := h.frozen 31
  have c32 := h.cell 32
  have f32 := h.frozen 32
  have c33 := h.cell 33
  have f33 := h.frozen 33
  have c34 := h.cell 34
  have f34 := h.frozen 34
  have c35 := h.cell 35
  have f35 := h.frozen 35
  simp only [St.list, List.getElem?_cons_succ, List.getElem?_cons_zero] at c15 c17 c20 c21 c22 c23 c24 c25 c26 c27 c28 c29 c30 c31 c32 c33 c34 c35
  rw [hsel] at c15
  have hW := Lib.hid (sel0_world h)
  have hU := Lib.hid (sel0_upd w b)
  have hdel : ∀ (w' : World) (t : St), CB w' b t jv bv (.slice none 0 0) → t.job = s.job → t.busy = s.busy → t.data = [] → Upd (fun k => k = b) w w' → ChipPost b t (chipSet b jv bv dv) w w' := by
    intro w' t hB e1 e2 e3 hu
    refine ⟨chipSet b jv bv (.slice none 0 0), ⟨jv, bv, .slice none 0 0, ⟨hB, ?_, ?_, fun k hk => Nat.lt_of_lt_of_le (HV.out.busyLt k hk) hu.size, ?_, HV.out.sj, HV.out.sb, fun k hk => (by simp [Value.ownBlock] at hk)⟩, rfl⟩, ?_, hu.mono (fun k _ e => .inl e)⟩
    · rw [e1]; exact HV.out.job.upd hu (fun g hg => HV.out.sj g hg)
    · rw [e2]; exact HV.out.busy.upd hu (fun k _ hk => (HV.out.sb k hk).1)
    · rw [e3]; exact Row.nil w' _
    · rintro k (e | e | e | e)
      · exact .inl (.inl e)
      · exact .inl (.inr (.inl e))
      · exact .inl (.inr (.inr (.inl e)))
      · simp [Value.ownBlock] at e
  have HD := Lib.hid hdel
  clear hdel hv h
  cases hg : s.goes with
  | false =>
    rw [hg] at c17
    have hR : s.select = s.sel0 := by rw [select_eq, hg]; rfl
    have HR := Lib.hid hR
    clear hR
    go_enter Tryz.func17, Tryz.ntmps17
    go_wp2_with (go_at_call 92; refine (hl _).mono ?_; rintro e w' ⟨rfl, rfl⟩)
    go_ret
    rw [HR.out]
    exact ⟨rfl, HD.out _ _ hW.out rfl rfl rfl hU.out⟩
  | true =>
    rw [hg] at c17
    have hR : s.select = s.sel0.begins 235 := by rw [select_eq, hg]; rfl
    have HR := Lib.hid hR
    clear hR
    go_enter Tryz.func17, Tryz.ntmps17
    go_wp2_with (go_at_call 92; refine (hl _).mono ?_; rintro e w' ⟨rfl, rfl⟩)
    refine (chip_begins b 235 s.sel0 jv bv (.slice none 0 0) _ hW.out (HV.out.job.upd hU.out (fun g hg => HV.out.sj g hg))).mono ?_
    rintro e w2 ⟨rfl, hB2, hU2⟩
    go_wp2
    go_ret
    rw [HR.out]
    obtain ⟨k1, k2, k3⟩ := begins_keeps s.sel0 235
    exact ⟨rfl, HD.out _ _ hB2 k1 k2 k3 (hU.out.trans hU2 (fun _ _ k => k))⟩
theorem chip_select_no (b : Nat) (s : St) (S : Nat → Prop) (w : World) (hA : ChipAt w b s S) (hsel : s.sel = true) :
    Calls Tryz.prog 17 #[.pointer (some ⟨b, 0, none⟩)] w fun e w' => e = .returned (.int .i64 600) ∧ w = w' := by
  obtain ⟨jv, bv, dv, hv, rfl⟩ := hA
  have c15 := hv.cb.cell 15
  simp only [St.list, List.getElem?_cons_succ, List.getElem?_cons_zero] at c15
  rw [hsel] at c15
  go_enter Tryz.func17, Tryz.ntmps17
  go_wp2
  go_ret
  exact ⟨rfl, rfl⟩
theorem chip_select_nil (w : World) :
    Calls Tryz.prog 17 #[.pointer none] w fun e w' => e = .returned (.int .i64 1) ∧ w = w' := by
  go_enter Tryz.func17, Tryz.ntmps17
  go_wp2
  go_ret
  exact ⟨rfl, rfl⟩
end Go.Proofs.YteombggfmeilaaaGreat
namespace Go.Proofs.YteombggfmeilaaaGreat
open Go.RowKit
theorem quiet_eq {P : Program} {f : FuncId} {args : Array Value} {w0 : World} {u : UW w0} {v : Value} (h : Calls P f args u.val fun e w' => e = .returned v ∧ u.val = w') :
    Calls P f args u.val fun e w'' => e = .returned v ∧ ∃ u' : UW w0, w'' = u'.val :=
  h.mono fun _ _ ⟨he, hu⟩ => ⟨he, u, hu.symm⟩
set_option maxHeartbeats 1000000 in
theorem cmd_whole (b : Nat) (s : St) (jv bv dv : Value) (w : World) (h : CB w b s jv bv dv) (hda : s.op.inn = true → s.op.data = 1) :
    Calls Tryz.prog 154 #[.pointer (some ⟨b, 20, none⟩)] w fun e w' => e = .returned (.bool s.whole) ∧ Upd none' w w' := by
  have c25 := h.cell 25
  have c24 := h.cell 24
  have c26 := h.cell 26
  have c27 := h.cell 27
  have c35 := h.cell 35
  simp only [St.list, List.getElem?_cons_succ, List.getElem?_cons_zero] at c24 c25 c26 c27 c35
  cases hi : s.op.inn with
  | true =>
    have hd := hda hi
    rw [hi] at c25
    rw [hd] at c24
    by_cases h5 : s.stage = 5
    · rw [h5] at c26
      obtain ⟨q, hq⟩ : ∃ q, (s.left == 8) = q := ⟨_, rfl⟩
      have hR : s.whole = q := by
        rw [← hq]
        simp only [St.whole, hi, hd, h5, if_true, true_and]
        rfl
      have HR := Lib.hid hR
      have l24 : ∀ u : UW w, u.val.cell? ⟨b, 24, none⟩ = some (.int .i64 1) := fun u => by rw [← c24]; exact u.upd.cell h.lt (fun f => f)
      have l26 : ∀ u : UW w, u.val.cell? ⟨b, 26, none⟩ = some (.int .i64 5) := fun u => by rw [← c26]; exact u.upd.cell h.lt (fun f => f)
      have l27 : ∀ u : UW w, u.val.cell? ⟨b, 27, none⟩ = some (.int .i64 s.left) := fun u => by rw [← c27]; exact u.upd.cell h.lt (fun f => f)
      clear hR hi hd h5 hda
      go_enter Tryz.func154, Tryz.ntmps154
      go_upto_region 2 with fail
      refine wp_region_upd_lit w (Upd.refl none' w) (by kernel_rfl) (by kernel_rfl) ?_
      repeat (go_big_quiet_step ((go_at_call 92; exact quiet_eq (lane_many 1 (.inl rfl) _))))
      refine wpQuiet_nil ?_
      rintro _ ⟨⟨w1, hU1⟩, rfl⟩
      go_wp2
      go_ret
      exact ⟨by rw [HR.out]; rfl, hU1⟩
    · have hb5 : (s.stage == 5) = false := by simpa using h5
      have hR : s.whole = false := by
        simp only [St.whole, hi, hd, if_true]
        exact decide_eq_false (fun e => h5 e.1)
      have HR := Lib.hid hR
      have l26 : ∀ u : UW w, u.val.cell? ⟨b, 26, none⟩ = some (.int .i64 s.stage) := fun u => by rw [← c26]; exact u.upd.cell h.lt (fun f => f)
      clear hR hi hd hda
      go_enter Tryz.func154, Tryz.ntmps154
      go_upto_region 2 with fail
      refine wp_region_upd_lit w (Upd.refl none' w) (by kernel_rfl) (by kernel_rfl) ?_
      repeat (go_big_quiet_step (fail))
      refine wpQuiet_nil ?_
      rintro _ ⟨⟨w1, hU1⟩, rfl⟩
      go_wp2
      go_ret
      exact ⟨by rw [HR.out]; rfl, hU1⟩
  | false =>
    rw [hi] at c25
    by_cases hd : s.op.data = 0
    · rw [hd] at c24
      by_cases h7 : s.stage = 7
      · rw [h7] at c26
        have hR : s.whole = !s.beyond := by
          simp only [St.whole, hi, hd, h7]
          simp
        have HR := Lib.hid hR
        clear hR hi hd h7 hda
        cases hb : s.beyond with
        | true =>
          rw [hb] at c35
          have HB := Lib.hid hb
          clear hb
          go_enter Tryz.func154, Tryz.ntmps154
          go_wp2
          go_ret
          exact ⟨by rw [HR.out, HB.out]; rfl, Upd.refl _ _⟩
        | false =>
          rw [hb] at c35
          have HB := Lib.hid hb
          clear hb
          go_enter Tryz.func154, Tryz.ntmps154
          go_wp2
          go_ret
          exact ⟨by rw [HR.out, HB.out]; rfl, Upd.refl _ _⟩
      · have hb7 : (s.stage == 7) = false := by simpa using h7
        have hR : s.whole = false := by
          simp only [St.whole, hi, hd]
          simp [h7]
        have HR := Lib.hid hR
        clear hR hi hd hda
        go_enter Tryz.func154, Tryz.ntmps154
        go_wp2
        go_ret
        exact ⟨by rw [HR.out]; rfl, Upd.refl _ _⟩
    · have hbd : (s.op.data == 0) = false := by simpa using hd
      have hR : s.whole = true := by
        simp only [St.whole, hi]
        simp [hd]
      have HR := Lib.hid hR
      clear hR hi hda
      go_enter Tryz.func154, Tryz.ntmps154
      go_wp2
      go_ret
      exact ⟨by rw [HR.out]; rfl, Upd.refl _ _⟩
theorem stat_image (a : Int) (w : World) (h : 0 ≤ a) :
    Calls Tryz.prog 134 #[.int .i64 a] w fun e w' => e = .returned (.bool (decide (a < 2048))) ∧ w = w' := by
  by_cases h1 : a < 2048
  all_goals
    go_enter Tryz.func134, Tryz.ntmps134
    go_wp2
    go_ret
    exact ⟨by simp [h1], rfl⟩
theorem stat_protected (p : Bool) (a : Int) (w : World) (h : 0 ≤ a) (h2 : a < 4096) :
    Calls Tryz.prog 190 #[.bool p, .int .i64 a] w fun e w' => e = .returned (.tuple #[.bool (p && decide (a < 2048)), .int .i64 0]) ∧ w = w' := by
  cases p
  · go_enter Tryz.func190, Tryz.ntmps190
    go_wp2
    go_ret2
    exact ⟨rfl, rfl⟩
  · have hi := stat_image a w h
    go_enter Tryz.func190, Tryz.ntmps190
    go_wp2_with fail
    refine hi.mono ?_
    rintro e w' ⟨rfl, rfl⟩
    go_wp2
    go_ret2
    exact ⟨rfl, rfl⟩
end Go.Proofs.YteombggfmeilaaaGreat
namespace Go.Proofs.YteombggfmeilaaaGreat
open Go.RowKit
theorem make_bytes32 (u : World) : (Instr.makeSlice 23 (.int .i64 32) (.int .i64 32)).run Tryz.prog u = .ok (.slice (some ⟨u.heap.size, 0, none⟩) 32 32) (u.alloc (.cells (bytesV (List.replicate 32 0)).toArray 5)) := by
  have := run_make (P := Tryz.prog) u 23 5 Tryz.t5 (.int .u8 0) Tryz.underlying23 (by kernel_rfl) (by kernel_rfl) .i64 .i64 32 32 (by decide) (by decide) (by show ((1 : Nat) : Int) * 32 ≤ _; decide) (by decide)
  rw [this, show madeCells (Value.int .u8 0).cells (Int.toNat 32 * Tryz.t5.size) = (bytesV (List.replicate 32 0)).toArray from by kernel_rfl]
  rfl
theorem page_len (addr : Int) (data : List Int) : (pageOf addr data).length = 32 := by
  have key : ∀ (l : List (Int × Nat)) (a : List UInt8), (l.foldl (fun (l : List UInt8) (x : Int × Nat) => l.set ((addr + x.2) % 32).toNat (UInt8.ofNat (x.1 % 256).toNat)) a).length = a.length := by
    intro l
    induction l with
    | nil => intro a; rfl
    | cons x l ih => intro a; rw [List.foldl_cons, ih, List.length_set]
  unfold pageOf
  rw [key, List.length_replicate]
theorem page_snoc (addr : Int) (data : List Int) (x : Int) : pageOf addr (data ++ [x]) = (pageOf addr data).set ((addr + data.length) % 32).toNat (UInt8.ofNat (x % 256).toNat) := by
  unfold pageOf
  rw [List.zipIdx_append, List.foldl_append]
  simp
theorem fill_step (i : Nat) (h : i < 32) : (List.replicate i (255 : UInt8) ++ List.replicate (32 - i) 0).set i 255 = List.replicate (i + 1) 255 ++ List.replicate (32 - (i + 1)) 0 := by
  apply List.ext_getElem
  · simp; omega
  · intro j h1 h2
    simp only [List.getElem_set, List.getElem_append, List.length_replicate, List.getElem_replicate]
    split
    · subst_vars; simp
    · split <;> split <;> first | rfl | omega
theorem u8_wrap_of (x : Int) : IntKind.u8.wrap x = ((UInt8.ofNat (x % 256).toNat).toNat : Int) := by
  have h : IntKind.u8.wrap x = x % 256 := by first | exact IntKind.wrap_u8 x | rfl
  rw [h, UInt8.toNat_ofNat']
  omega
theorem page_at (addr : Int) (i : Nat) (h0 : 0 ≤ addr) : ∃ q : Nat, (addr + (i : Int)).tmod 32 = (q : Int) ∧ q < 32 ∧ ((addr + (i : Int)) % 32).toNat = q := by
  refine ⟨((addr + (i : Int)) % 32).toNat, ?_, by omega, rfl⟩
  rw [Int.tmod_eq_emod_of_nonneg (by omega)]
  omega
set_option maxHeartbeats 1000000 in
theorem cmd_page (b : Nat) (s : St) (jv bv dv : Value) (w : World) (h : CB w b s jv bv dv) (hd : Row w 3 dv (ints s.data)) (had : 0 ≤ s.addr ∧ s.addr < 4096) (hlen : s.data.length ≤ 1048577) :
    Calls Tryz.prog 156 #[.pointer (some ⟨b, 20, none⟩)] w fun e w' => e = .returned (.string ⟨(pageOf s.addr s.data).toArray⟩) ∧ Upd none' w w' := by
  have hmk := make_bytes32
  obtain ⟨da, dc, rfl, hdc, -, hform⟩ := hd.form
  rw [ints_len] at hdc h hd
  have HB := Lib.hid h
  have HD := Lib.hid hd
  clear hd h
  go_enter Tryz.func156, Tryz.ntmps156
  go_wp2_with fail
  clear hmk
  go_loopw [10] (fun iv wr => ∃ i : Nat, i ≤ 32 ∧ iv = .int .i64 i ∧ Upd none' w wr ∧ Buf wr w.heap.size (List.replicate i 255 ++ List.replicate (32 - i) 0) 5) (fun iv _ => 32 - (intOf iv).toNat)
  case atStart =>
    refine ⟨0, by omega, rfl, (Upd.refl none' w).alloc _, ?_⟩
    exact ⟨[], (0, 0), by simp only [List.replicate_zero, List.nil_append, List.append_nil]; exact heap_alloc_new w _, .inl rfl⟩
  case round =>
    obtain ⟨i, hi, rfl, hU, hB⟩ := hrel
    by_cases hlt : i < 32
    · have hl32 : (List.replicate i (255 : UInt8) ++ List.replicate (32 - i) 0).length = 32 := by simp; omega
      have hc := hB.cell (j := i) (by rw [hl32]; exact hlt)
      have hf := hB.frozen (j := i) (by rw [hl32]; exact hlt)
      have hB2 := hB.set (j := i) (by rw [hl32]; exact hlt) 255
      rw [fill_step i hlt] at hB2
      have HB2 := Lib.hid hB2
      have hU2 := hU.setCell ⟨w.heap.size, i, none⟩ (.int .u8 255) (fun h => absurd h (by dsimp only; omega))
      clear hB2 hl32
      go_wp2
      exact ⟨⟨i + 1, by omega, by go_num, hU2, HB2.out⟩, by simp [intOf]; omega⟩
    · have hieq : i = 32 := by omega
      subst hieq
      have hB' : Buf wr w.heap.size (pageOf s.addr []) 5 := by rw [Nat.sub_self, List.replicate_zero, List.append_nil] at hB; exact hB
      have hcb := HB.out.upd hU (fun f => f)
      have c32 := hcb.cell 32
      simp only [St.list, List.getElem?_cons_succ, List.getElem?_cons_zero] at c32
      have HU := Lib.hid hU
      have HB' := Lib.hid hB'
      clear hB hU hB' hcb
      go_wp2_with fail
      go_loopw [22] (fun iv w2 => ∃ i : Nat, i ≤ s.data.length ∧ iv = .int .i64 i ∧ Upd none' w w2 ∧ Buf w2 w.heap.size (pageOf s.addr (s.data.take i)) 5) (fun iv _ => s.data.length - (intOf iv).toNat)
      case atStart => exact ⟨0, by omega, rfl, HU.out, by rw [List.take_zero]; exact HB'.out⟩
      case round =>
        rename World => W2
        clear c32
        obtain ⟨i, hi, rfl, hU, hB⟩ := hrel
        by_cases hlt : i < s.data.length
        · obtain ⟨x, hx⟩ : ∃ x, s.data.getD i 0 = x := ⟨_, rfl⟩
          have hne : ∃ g, da = some ⟨g, 0, none⟩ ∧ W2.cell? ⟨g, i, none⟩ = some (.int .i64 x) := by
            cases da with
            | none =>
              have := HD.out.form
              obtain ⟨ao, cap, e1, _, hn, _⟩ := this
              simp only [Value.slice.injEq] at e1
              have := (hn e1.1.symm).1
              have hl := ints_len s.data
              rw [this] at hl
              simp at hl
              omega
            | some ad =>
              obtain ⟨g, rfl, h1, h2, h3, h4⟩ := hform ad rfl
              refine ⟨g, rfl, ?_⟩
              rw [hU.cell (p := ⟨g, i, none⟩) h2 (fun f => f), h3 i (by rw [ints_len]; exact hlt), ints_at _ _ hlt, hx]
          obtain ⟨g, rfl, hcx⟩ := hne
          obtain ⟨q, hq1, hq2, hq3⟩ := page_at s.addr i had.1
          have hcb := HB.out.upd hU (fun f => f)
          have c29 := hcb.cell 29
          simp only [St.list, List.getElem?_cons_succ, List.getElem?_cons_zero] at c29
          have hpl := page_len s.addr (s.data.take i)
          have hc := hB.cell (j := q) (by rw [hpl]; exact hq2)
          have hf := hB.frozen (j := q) (by rw [hpl]; exact hq2)
          have hB2 := hB.set (j := q) (by rw [hpl]; exact hq2) (UInt8.ofNat (x % 256).toNat)
          have htk : s.data.take (i + 1) = s.data.take i ++ [x] := by
            rw [List.take_add_one, ← hx]
            simp [List.getD_eq_getElem?_getD, List.getElem?_eq_getElem hlt]
          have hps : (pageOf s.addr (s.data.take i)).set q (UInt8.ofNat (x % 256).toNat) = pageOf s.addr (s.data.take (i + 1)) := by
            rw [htk, page_snoc, List.length_take, Nat.min_eq_left hi, hq3]
          rw [hps] at hB2
          have hx8 := u8_wrap_of x
          obtain ⟨v8, hv8⟩ : ∃ v8 : UInt8, UInt8.ofNat (x % 256).toNat = v8 := ⟨_, rfl⟩
          rw [hv8] at hx8 hB2
          have HB2 := Lib.hid hB2
          have hU2 := Lib.hid (hU.setCell ⟨w.heap.size, q, none⟩ (.int .u8 (v8.toNat : Int)) (fun h => absurd h (by dsimp only; omega)))
          clear hB2 hps htk hpl hcb hB hU hform hx hv8 hq3
          go_wp2
          exact ⟨⟨i + 1, by omega, by go_num, hU2.out, HB2.out⟩, by simp [intOf]; omega⟩
        · have hieq : i = s.data.length := by omega
          subst hieq
          rw [List.take_length] at hB
          have hst := run_string_buf hB 23 5 9 Tryz.underlying23 Tryz.underlying5 Tryz.underlying9 32 32 (page_len _ _)
          go_wp2
          go_ret
          exact ⟨rfl, hU⟩
end Go.Proofs.YteombggfmeilaaaGreat
namespace Go.Proofs.YteombggfmeilaaaGreat
open Go.RowKit
/-- What starts leaves. -/
def StartsPost (b g : Nat) (s : St) (j : Job) (jv bv dv : Value) (w w' : World) : Prop := ∃ jv' bv', ChipV w' b (s.starts j) jv' bv' dv ∧ (∀ k, chipSet b jv' bv' dv k → chipSet b jv bv dv k ∨ k = g) ∧ Upd (fun k => k = b ∨ k = g) w w'
theorem starts_keeps (s : St) (j : Job) : (s.starts j).data = s.data := by
  unfold St.starts
  repeat' split
  all_goals rfl
theorem starts_fin {w w' : World} {b g : Nat} {s : St} {jv bv bv' dv : Value} {j : Job} {L : Int} (hv : ChipV w b s jv bv dv) (sep : ¬ chipSet b jv bv dv g) (hB : CB w' b (s.starts j) (.pointer (some ⟨g, 0, none⟩)) bv' dv) (hG : Blk w' g (jobCells { j with left := L }) 152)
    (hj : (s.starts j).job = some { j with left := L }) (hbusy : RS w bv' (ints (s.starts j).busy)) (hbown : ∀ k, bv'.ownBlock = some k → bv.ownBlock = some k) (hU : Upd (fun k => k = b ∨ k = g) w w') : StartsPost b g s j jv bv dv w w' := by
  have hptr : ∀ k, (Value.pointer (some ⟨g, 0, none⟩) = .pointer (some ⟨k, 0, none⟩)) → k = g := by
    intro k hk
    simp only [Value.pointer.injEq, Option.some.injEq, Addr.mk.injEq, and_true] at hk
    exact hk.symm
  refine ⟨_, bv', ⟨hB, ?_, ?_, ?_, ?_, ?_, ?_, ?_⟩, ?_, hU⟩
  · rw [hj]; exact ⟨g, rfl, hG⟩
  · refine hbusy.upd hU (fun k _ hk e => ?_)
    have hk' := hbown k hk
    rcases e with e | e
    · exact (hv.sb k hk').1 e
    · exact sep (.inr (.inr (.inl (by rw [← e]; exact hk'))))
  · exact fun k hk => Nat.lt_of_lt_of_le (hv.busyLt k (hbown k hk)) hU.size
  · rw [starts_keeps]
    refine hv.data.upd hU (fun k hk e => ?_)
    rcases e with e | e
    · exact (hv.sd k hk).1 e
    · exact sep (.inr (.inr (.inr (by rw [← e]; exact hk))))
  · intro k hk e
    exact sep (.inl (by rw [← hptr k hk, e]))
  · intro k hk
    exact ⟨(hv.sb k (hbown k hk)).1, fun e => sep (.inr (.inr (.inl (by rw [← hptr k e]; exact hbown k hk))))⟩
  · intro k hk
    exact ⟨(hv.sd k hk).1, fun e => sep (.inr (.inr (.inr (by rw [← hptr k e]; exact hk)))), fun e => (hv.sd k hk).2.2 (hbown k e)⟩
  · rintro k (e | e | e | e)
    · exact .inl (.inl e)
    · exact .inr (hptr k e)
    · exact .inl (.inr (.inr (.inl (hbown k e))))
    · exact .inl (.inr (.inr (.inr e)))
theorem wipes_cell {w : World} {b : Nat} {s : St} {jv bv dv : Value} (h : CB w b s jv bv dv) (i : Nat) (hi : i < 8) : w.cell? ⟨b, 3 + i, none⟩ = some (.int .i64 (s.wipes i)) := by
  rw [h.cell]
  rcases (show i = 0 ∨ i = 1 ∨ i = 2 ∨ i = 3 ∨ i = 4 ∨ i = 5 ∨ i = 6 ∨ i = 7 by omega) with rfl | rfl | rfl | rfl | rfl | rfl | rfl | rfl <;> rfl
theorem wipes_set {w : World} {b : Nat} {s : St} {jv bv dv : Value} (h : CB w b s jv bv dv) (i : Nat) (hi : i < 8) (v : Int) : CB (w.setCell ⟨b, 3 + i, none⟩ (.int .i64 v)) b { s with wipes := fun k => if (k : Int) = (i : Int) then v else s.wipes k } jv bv dv := by
  have := h.set (3 + i) (.int .i64 v)
  rcases (show i = 0 ∨ i = 1 ∨ i = 2 ∨ i = 3 ∨ i = 4 ∨ i = 5 ∨ i = 6 ∨ i = 7 by omega) with rfl | rfl | rfl | rfl | rfl | rfl | rfl | rfl <;> exact this
theorem RS.tail {w : World} {a : Option Addr} {n c : Nat} {x : Value} {vs : List Value} (h : RS w (.slice a n c) (x :: vs)) : ∃ b o, a = some ⟨b, o, none⟩ ∧ n = vs.length + 1 ∧ n ≤ c ∧ w.cell? ⟨b, o, none⟩ = some x ∧ b < w.heap.size ∧ RS w (.slice (some ⟨b, o + 1, none⟩) vs.length (c - 1)) vs := by
  obtain ⟨hl, a', cap, e, h4, h5⟩ := h
  simp only [List.length_cons, Value.slice.injEq] at e h4 hl
  obtain ⟨rfl, rfl, rfl⟩ := e
  obtain ⟨b, o, rfl, h7, h8⟩ := h5 (by simp)
  refine ⟨b, o, rfl, rfl, h4, by have := h8 0 (by simp); simpa using this, h7, by omega, some ⟨b, o + 1, none⟩, c - 1, rfl, by omega, fun _ => ⟨b, o + 1, rfl, h7, fun j hj => ?_⟩⟩
  have := h8 (j + 1) (by simp; omega)
  rw [show o + 1 + j = o + (j + 1) by omega, this]
  simp
set_option maxRecDepth 100000 in
set_option maxHeartbeats 4000000 in
theorem chip_starts (b g : Nat) (j : Job) (s : St) (jv bv dv : Value) (w : World) (hv : ChipV w b s jv bv dv) (sep : ¬ chipSet b jv bv dv g) (hg : Blk w g (jobCells j) 152) (had : 0 ≤ s.addr ∧ s.addr < 4096) (hsec : j.sector = -1 ∨ 0 ≤ j.sector ∧ j.sector < 8)
    (hwp : ∀ k, 0 ≤ s.wipes k ∧ s.wipes k ≤ 1048577) :
    Calls Tryz.prog 155 #[.pointer (some ⟨b, 0, none⟩), .pointer (some ⟨g, 0, none⟩)] w fun e w' => e = .returned (.tuple #[]) ∧ StartsPost b g s j jv bv dv w w' := by
  have h := hv.cb
  have hgb : g ≠ b := fun e => sep (.inl e)
  have c1 := h.cell 1
  have c16 := h.cell 16
  have c29 := h.cell 29
  have f16 := h.frozen 16
  simp only [St.list, List.getElem?_cons_succ, List.getElem?_cons_zero] at c1 c16 c29
  have HV := Lib.hid hv
  have HS := Lib.hid sep
  have same : s.starts j = s → StartsPost b g s j jv bv dv w w := fun e => ⟨jv, bv, by rw [e]; exact HV.out, fun k hk => .inl hk, Upd.refl _ _⟩
  cases hen : s.en with
  | false =>
    have hR : s.starts j = s := by unfold St.starts; rw [if_pos (by rw [hen]; rfl)]
    rw [hen] at c16
    have HR := Lib.hid (same hR)
    clear same hR hv h sep
    go_enter Tryz.func155, Tryz.ntmps155
    go_wp2
    refine bodyPost_ret (results_none rfl _ _ _) rfl ?_
    exact ⟨rfl, HR.out⟩
  | true =>
    rw [hen] at c16
    clear same
    have l1 : ∀ u : UW w, u.val.cell? ⟨b, 1, none⟩ = some (.bool s.prot) := fun u => by rw [← c1]; exact u.upd.cell h.lt (fun f => f)
    have l29 : ∀ u : UW w, u.val.cell? ⟨b, 29, none⟩ = some (.int .i64 s.addr) := fun u => by rw [← c29]; exact u.upd.cell h.lt (fun f => f)
    obtain ⟨p, hp⟩ : ∃ p, (s.prot && decide (s.addr < 2048)) = p := ⟨_, rfl⟩
    have hpr : ∀ W, Calls Tryz.prog 190 #[.bool s.prot, .int .i64 s.addr] W fun e w' => e = .returned (.tuple #[.bool p, .int .i64 0]) ∧ W = w' := fun W => hp ▸ stat_protected s.prot s.addr W had.1 had.2
    have HP := Lib.hid hpr
    clear hpr hv h sep
    go_enter Tryz.func155, Tryz.ntmps155
    go_upto_region 1 with fail
    refine wp_region_upd_lit w (Upd.refl none' w) (by kernel_rfl) (by kernel_rfl) ?_
    repeat (go_big_quiet_step ((go_at_call 190; exact quiet_eq (HP.out _))))
    refine wpQuiet_nil ?_
    rintro w1 ⟨⟨w1', hU1⟩, hw1⟩
    have hw1' : w1 = w1' := hw1
    subst hw1'
    clear hw1
    have hv1 : ChipV w1 b s jv bv dv := ⟨HV.out.cb.upd hU1 (fun f => f), HV.out.job.upd hU1 (fun _ _ f => f), HV.out.busy.upd hU1 (fun _ _ _ f => f), fun k hk => Nat.lt_of_lt_of_le (HV.out.busyLt k hk) hU1.size, HV.out.data.upd hU1 (fun _ _ f => f), HV.out.sj, HV.out.sb, HV.out.sd⟩
    have hg1 := hg.upd hU1 (fun f => f)
    have mk : StartsPost b g s j jv bv dv w1 = StartsPost b g s j jv bv dv w1 := rfl
    clear mk
    have lift : ∀ w2, StartsPost b g s j jv bv dv w1 w2 → StartsPost b g s j jv bv dv w w2 := fun w2 ⟨a1, a2, a3, a4, a5⟩ => ⟨a1, a2, a3, a4, (hU1.mono (fun _ _ f => f.elim)).trans a5 (fun _ _ e => e)⟩
    have HL := Lib.hid lift
    have HV1 := Lib.hid hv1
    have hB1 := hv1.cb
    clear l1 l29 c1 c16 c29 f16 lift HV hU1 hg
    have c16 := hB1.cell 16
    have f16 := hB1.frozen 16
    have c18 := hB1.cell 18
    have f18 := hB1.frozen 18
    have c19 := hB1.cell 19
    have f19 := hB1.frozen 19
    simp only [St.list, List.getElem?_cons_succ, List.getElem?_cons_zero] at c16 c18 c19
    cases p with
    | true =>
      have hR : s.starts j = { s with en := false } := by
        unfold St.starts
        rw [if_neg (by rw [hen]; decide)]
        simp at hp
        rw [if_pos hp]
      have HR := Lib.hid hR
      have hfin := Lib.hid (hB1.set 16 (.bool false))
      clear hR hp hv1 hB1
      go_wp2
      refine bodyPost_ret (results_none rfl _ _ _) rfl ?_
      have hU2 := (Upd.refl (fun k => k = b ∨ k = g) w1).setCell ⟨b, 16, none⟩ (.bool false) (fun _ => .inl rfl)
      have hU3 := (Upd.refl (fun k => k = b) w1).setCell ⟨b, 16, none⟩ (.bool false) (fun _ => rfl)
      refine ⟨rfl, HL.out _ ⟨jv, bv, ?_, fun k hk => .inl hk, hU2⟩⟩
      rw [HR.out]
      exact ⟨hfin.out, HV1.out.job.upd hU3 (fun k hk => HV1.out.sj k hk), HV1.out.busy.upd hU3 (fun k _ hk => (HV1.out.sb k hk).1), fun k hk => Nat.lt_of_lt_of_le (HV1.out.busyLt k hk) hU3.size, HV1.out.data.upd hU3 (fun k hk => (HV1.out.sd k hk).1), HV1.out.sj, HV1.out.sb, HV1.out.sd⟩
    | false =>
      have hnp : ¬ (s.prot = true ∧ s.addr < 2048) := by simp at hp; intro e; have := hp e.1; omega
      have g0 := hg1.cell 0
      have g3 := hg1.cell 3
      have gf3 := hg1.frozen 3
      simp only [jobCells, List.getElem?_cons_succ, List.getElem?_cons_zero] at g0 g3
      have HG1 := Lib.hid hg1
      have HB1 := Lib.hid hB1
      have HNP := Lib.hid hnp
      have HEN := Lib.hid hen
      clear hp hv1 hB1 hg1 hnp hen
      obtain ⟨L, hL⟩ : ∃ L, (match s.busy with | [] => (8 : Int) | d :: _ => d) = L := ⟨_, rfl⟩
      have hb0 := HV1.out.busy
      obtain ⟨_, ba, bc, rfl, -⟩ := id hb0
      go_upto_if 40 with (fail)
      go_cut [] (fun wx => ∃ bv', CB wx b { s with busy := s.busy.tail } jv bv' dv ∧ Blk wx g (jobCells { j with left := L }) 152 ∧ RS w1 bv' (ints s.busy.tail) ∧ (∀ k, bv'.ownBlock = some k → (Value.slice ba (ints s.busy).length bc).ownBlock = some k) ∧ Upd (fun k => k = b ∨ k = g) w1 wx)
      case first =>
        cases hbz : s.busy with
        | nil =>
          rw [hbz] at hb0 hL
          have hL' : (8 : Int) = L := hL
          subst hL'
          clear hb0
          rw [hbz] at c19
          rw [show (ints []).length = 0 from rfl] at c19 ⊢
          have HC := Lib.hid (HB1.out.upd ((Upd.refl (fun k => k = g) w1).setCell ⟨g, 3, none⟩ (.int .i64 8) (fun _ => rfl)) (Ne.symm hgb))
          have HD := Lib.hid (HG1.out.set 3 (.int .i64 8))
          have HE := Lib.hid ((Upd.refl (fun k => k = b ∨ k = g) w1).setCell ⟨g, 3, none⟩ (.int .i64 8) (fun _ => .inr rfl))
          clear c16 f16 c18 f18 g0
          go_wp2_with fail
          go_meet
          try rw [hbz]
          exact ⟨(.slice ba (ints s.busy).length bc), HC.out, HD.out, by have hbb := HV1.out.busy; rw [show (ints ([] : List Int).tail) = ints s.busy by rw [hbz]; rfl]; exact hbb, fun k hk => by rw [hbz] at hk; exact hk, HE.out⟩
        | cons d ds =>
          rw [hbz] at hb0 hL
          have hL' : d = L := hL
          subst hL'
          rw [hbz] at c19
          obtain ⟨qb, qo, rfl, hn, hc, hq, hql, hbt⟩ := RS.tail hb0
          rw [show (ints (d :: ds)).length = ds.length + 1 by simp [ints]] at c19 hc ⊢
          rw [List.length_map] at hbt
          have hqb : qb ≠ b := (HV1.out.sb qb rfl).1
          have hqg : qb ≠ g := fun e => HS.out (.inr (.inr (.inl (by rw [← e]; rfl))))
          have hbg : b ≠ g := Ne.symm hgb
          clear hb0 hn
          by_cases hbc : bc = 1
          · have hds : ds = [] := List.eq_nil_of_length_eq_zero (by omega)
            subst hds
            subst hbc
            rw [show ([] : List Int).length + 1 = 1 from rfl] at c19 ⊢
            have HC := Lib.hid (((HB1.out.upd ((Upd.refl (fun k => k = g) w1).setCell ⟨g, 3, none⟩ (.int .i64 8) (fun _ => rfl)) (Ne.symm hgb)).upd ((Upd.refl (fun k => k = g) _).setCell ⟨g, 3, none⟩ (.int .i64 d) (fun _ => rfl)) (Ne.symm hgb)).set 19 (.slice (some ⟨qb, qo, none⟩) 0 0))
            have HD := Lib.hid (((HG1.out.set 3 (.int .i64 8)).set 3 (.int .i64 d)).set_ne (c := b) 19 (.slice (some ⟨qb, qo, none⟩) 0 0) hgb)
            have HE := Lib.hid ((((Upd.refl (fun k => k = b ∨ k = g) w1).setCell ⟨g, 3, none⟩ (.int .i64 8) (fun _ => .inr rfl)).setCell ⟨g, 3, none⟩ (.int .i64 d) (fun _ => .inr rfl)).setCell ⟨b, 19, none⟩ (.slice (some ⟨qb, qo, none⟩) 0 0) (fun _ => .inl rfl))
            clear c16 f16 c18 f18 g0
            go_wp2_with fail
            go_meet
            try rw [hbz]
            exact ⟨(.slice (some ⟨qb, qo, none⟩) 0 0), HC.out, HD.out, ⟨by simp [ints], some ⟨qb, qo, none⟩, 0, rfl, Nat.le_refl _, fun h => absurd rfl h⟩, fun k hk => hk, HE.out⟩
          · have hbc2 : bc - 1 ≠ 0 := by omega
            have HC := Lib.hid (((HB1.out.upd ((Upd.refl (fun k => k = g) w1).setCell ⟨g, 3, none⟩ (.int .i64 8) (fun _ => rfl)) (Ne.symm hgb)).upd ((Upd.refl (fun k => k = g) _).setCell ⟨g, 3, none⟩ (.int .i64 d) (fun _ => rfl)) (Ne.symm hgb)).set 19 (.slice (some ⟨qb, qo + 1, none⟩) ds.length (bc - 1)))
            have HD := Lib.hid (((HG1.out.set 3 (.int .i64 8)).set 3 (.int .i64 d)).set_ne (c := b) 19 (.slice (some ⟨qb, qo + 1, none⟩) ds.length (bc - 1)) hgb)
            have HE := Lib.hid ((((Upd.refl (fun k => k = b ∨ k = g) w1).setCell ⟨g, 3, none⟩ (.int .i64 8) (fun _ => .inr rfl)).setCell ⟨g, 3, none⟩ (.int .i64 d) (fun _ => .inr rfl)).setCell ⟨b, 19, none⟩ (.slice (some ⟨qb, qo + 1, none⟩) ds.length (bc - 1)) (fun _ => .inl rfl))
            clear c16 f16 c18 f18 g0
            go_wp2_with fail
            go_meet
            try rw [hbz]
            exact ⟨(.slice (some ⟨qb, qo + 1, none⟩) ds.length (bc - 1)), HC.out, HD.out, hbt, fun k hk => hk, HE.out⟩
      case rest =>
        obtain ⟨bv', hB2, hG2, hrs, hf, hU2⟩ := hcut
        rename World => X
        have HRS := Lib.hid hrs
        have HF := Lib.hid hf
        have HLL := Lib.hid hL
        clear hrs hf hL hb0 c16 f16 c18 f18 c19 f19 g0 g3 gf3
        have m0 := hG2.cell 0
        have m18 := hB2.cell 18
        have m18f := hB2.frozen 18
        simp only [jobCells, St.list, List.getElem?_cons_succ, List.getElem?_cons_zero] at m0 m18
        rcases hsec with hm1 | ⟨hs0, hs8⟩
        · rw [hm1] at m0
          have hB3 := hB2
          have hG3 := hG2
          have hU3 := hU2
          have HB4 := Lib.hid (hB3.set 18 (.pointer (some ⟨g, 0, none⟩)))
          have HG4 := Lib.hid (hG3.set_ne (c := b) 18 (.pointer (some ⟨g, 0, none⟩)) hgb)
          have HU4 := Lib.hid (hU3.setCell ⟨b, 18, none⟩ (.pointer (some ⟨g, 0, none⟩)) (fun _ => .inl rfl))
          clear hB2 hG2 hU2 hB3 hG3 hU3
          go_wp2
          go_end0
          have hR : s.starts j = { s with busy := s.busy.tail, wipes := s.wipes, job := some { j with left := L } } := by
            unfold St.starts
            rw [if_neg (by rw [HEN.out]; decide), if_neg HNP.out]
            dsimp only
            congr 1
            · funext k
              rw [if_neg (by omega)]
            · rw [← HLL.out]; cases s.busy <;> rfl
          refine ⟨rfl, HL.out _ (starts_fin (bv' := bv') (L := L) HV1.out HS.out ?_ HG4.out ?_ ?_ HF.out HU4.out)⟩
          · rw [hR]; exact HB4.out
          · rw [hR]
          · rw [hR]; exact HRS.out
        · obtain ⟨sn, hsn2⟩ : ∃ sn : Nat, j.sector = (sn : Int) := ⟨j.sector.toNat, by omega⟩
          rw [hsn2] at m0
          have hsn : sn < 8 := by omega
          have hB3 := wipes_set hB2 sn hsn (s.wipes sn + 1)
          have hG3 := hG2.set_ne (c := b) (3 + sn) (.int .i64 (s.wipes sn + 1)) hgb
          have hU3 := hU2.setCell ⟨b, 3 + sn, none⟩ (.int .i64 (s.wipes sn + 1)) (fun _ => .inl rfl)
          have hcw2 : X.cell? ⟨b, 3 + sn, none⟩ = some (.int .i64 (s.wipes sn)) := wipes_cell hB2 sn hsn
          have hcf2 := hB2.frozen (3 + sn)
          have hwb := hwp sn
          have HB4 := Lib.hid (hB3.set 18 (.pointer (some ⟨g, 0, none⟩)))
          have HG4 := Lib.hid (hG3.set_ne (c := b) 18 (.pointer (some ⟨g, 0, none⟩)) hgb)
          have HU4 := Lib.hid (hU3.setCell ⟨b, 18, none⟩ (.pointer (some ⟨g, 0, none⟩)) (fun _ => .inl rfl))
          clear hB2 hG2 hU2 hB3 hG3 hU3
          go_upto_region 9 with fail
          go_region
          go_wp2
          go_end0
          have hR : s.starts j = { s with busy := s.busy.tail, wipes := (fun k => if (k : Int) = (sn : Int) then s.wipes sn + 1 else s.wipes k), job := some { j with left := L } } := by
            unfold St.starts
            rw [if_neg (by rw [HEN.out]; decide), if_neg HNP.out]
            dsimp only
            congr 1
            · funext k
              rw [hsn2]
              by_cases hk : (k : Int) = (sn : Int)
              · rw [if_pos hk, if_pos hk]
                have : k = sn := by omega
                rw [this]
              · rw [if_neg hk, if_neg hk]
            · rw [← HLL.out]; cases s.busy <;> rfl
          refine ⟨rfl, HL.out _ (starts_fin (bv' := bv') (L := L) HV1.out HS.out ?_ HG4.out.drew ?_ ?_ HF.out HU4.out.drew)⟩
          · rw [hR]; exact HB4.out.drew
          · rw [hR]
          · rw [hR]; exact HRS.out
end Go.Proofs.YteombggfmeilaaaGreat
namespace Go.Proofs.YteombggfmeilaaaGreat
open Go.RowKit
theorem ChipV.cbSet {w w' : World} {b : Nat} {s t : St} {jv bv dv : Value} (hv : ChipV w b s jv bv dv) (hB : CB w' b t jv bv dv) (hU : Upd (fun k => k = b) w w') (e1 : t.job = s.job) (e2 : t.busy = s.busy) (e3 : t.data = s.data) : ChipPost b t (chipSet b jv bv dv) w w' := by
  refine ⟨chipSet b jv bv dv, ⟨jv, bv, dv, ⟨hB, ?_, ?_, fun k hk => Nat.lt_of_lt_of_le (hv.busyLt k hk) hU.size, ?_, hv.sj, hv.sb, hv.sd⟩, rfl⟩, fun k hk => .inl hk, hU.mono (fun k _ e => .inl e)⟩
  · rw [e1]; exact hv.job.upd hU (fun g hg => hv.sj g hg)
  · rw [e2]; exact hv.busy.upd hU (fun k _ hk => (hv.sb k hk).1)
  · rw [e3]; exact hv.data.upd hU (fun k hk => (hv.sd k hk).1)
theorem ChipV.post {w w' : World} {b : Nat} {s : St} {jv bv dv : Value} (hv : ChipV w b s jv bv dv) (hU : Upd none' w w') : ChipPost b s (chipSet b jv bv dv) w w' :=
  ⟨_, ⟨jv, bv, dv, ⟨hv.cb.upd hU (fun f => f), hv.job.upd hU (fun _ _ f => f), hv.busy.upd hU (fun _ _ _ f => f), fun k hk => Nat.lt_of_lt_of_le (hv.busyLt k hk) hU.size, hv.data.upd hU (fun _ _ f => f), hv.sj, hv.sb, hv.sd⟩, rfl⟩, fun _ hk => .inl hk, hU.mono (fun _ _ f => f.elim)⟩
theorem ChipV.upd0 {w w' : World} {b : Nat} {s : St} {jv bv dv : Value} (hv : ChipV w b s jv bv dv) (hU : Upd none' w w') : ChipV w' b s jv bv dv :=
  ⟨hv.cb.upd hU (fun f => f), hv.job.upd hU (fun _ _ f => f), hv.busy.upd hU (fun _ _ _ f => f), fun k hk => Nat.lt_of_lt_of_le (hv.busyLt k hk) hU.size, hv.data.upd hU (fun _ _ f => f), hv.sj, hv.sb, hv.sd⟩
set_option maxRecDepth 100000 in
set_option maxHeartbeats 2000000 in
theorem ends_none (b : Nat) (s : St) (jv bv dv : Value) (w : World) (hv : ChipV w b s jv bv dv) (hda : s.op.inn = true → s.op.data = 1) (hs : s.stage = 0 ∨ s.stage = 1 ∨ s.whole = false) :
    Calls Tryz.prog 95 #[.pointer (some ⟨b, 0, none⟩)] w fun e w' => e = .returned (.tuple #[]) ∧ ChipPost b s (chipSet b jv bv dv) w w' := by
  have h := hv.cb
  have c26 := h.cell 26
  simp only [St.list, List.getElem?_cons_succ, List.getElem?_cons_zero] at c26
  have HV := Lib.hid hv
  have hwh := fun W (hW : Upd none' w W) => cmd_whole b s jv bv dv W (h.upd hW (fun f => f)) hda
  by_cases h0 : s.stage = 0
  · rw [h0] at c26
    clear hwh hs
    go_enter Tryz.func95, Tryz.ntmps95
    go_wp2
    refine bodyPost_ret (results_none rfl _ _ _) rfl ?_
    exact ⟨rfl, HV.out.post (Upd.refl _ _)⟩
  · have b0 : (s.stage == 0) = false := by simpa using h0
    by_cases h1 : s.stage = 1
    · rw [h1] at c26
      clear hwh hs
      go_enter Tryz.func95, Tryz.ntmps95
      go_wp2
      refine bodyPost_ret (results_none rfl _ _ _) rfl ?_
      exact ⟨rfl, HV.out.post (Upd.refl _ _)⟩
    · have b1 : (s.stage == 1) = false := by simpa using h1
      have hw : s.whole = false := by rcases hs with h | h | h <;> first | exact absurd h h0 | exact absurd h h1 | exact h
      rw [hw] at hwh
      have HW := Lib.hid hwh
      clear hwh hs hw
      go_enter Tryz.func95, Tryz.ntmps95
      go_wp2_with fail
      refine (HW.out _ (Upd.refl _ _)).mono ?_
      rintro e w1 ⟨rfl, hU1⟩
      go_wp2
      refine bodyPost_ret (results_none rfl _ _ _) rfl ?_
      exact ⟨rfl, HV.out.post hU1⟩
end Go.Proofs.YteombggfmeilaaaGreat
