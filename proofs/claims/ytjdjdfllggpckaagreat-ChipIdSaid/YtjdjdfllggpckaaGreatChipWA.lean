/- The walk over a clock of a command. -/
import Derived.Test.YtjdjdfllggpckaaGreatChipW9
import Derived.Test.YtjdjdfllggpckaaGreatChipI
import Derived.Test.YtjdjdfllggpckaaGreatInts
namespace Go.Proofs.YtjdjdfllggpckaaGreat
open Go.RowKit
/-- What a clock of a command leaves. -/
def ClockPost (b : Nat) (s : St) (jv bv dv : Value) (w : World) (x : Int) (e : Ending) (w' : World) : Prop :=
  ∃ dv', e = .returned (.int .i64 (s.clockIn x).2) ∧ CB w' b (s.clockIn x).1 jv bv dv' ∧ Row w' 3 dv' (ints (s.clockIn x).1.data) ∧ (∀ k, dv'.ownBlock = some k → dv.ownBlock = some k ∨ w.heap.size ≤ k) ∧ Upd (fun k => k = b ∨ dv.ownBlock = some k) w w'
theorem behind_data (s : St) : s.behind.data = s.data := by
  unfold St.behind
  repeat' split
  all_goals rfl
theorem begins_data (s : St) (c : Int) : (s.begins c).data = s.data := by
  unfold St.begins
  dsimp only
  split
  · rfl
  · split
    · rfl
    · rw [behind_data]
theorem tmod4096 {z : Int} (h : 0 ≤ z) : z.tmod 4096 = z % 4096 := Int.tmod_eq_emod_of_nonneg h
theorem takesIn_got {s : St} {x lanes : Int} (hg : 0 ≤ s.got) : 0 ≤ (s.takesIn x lanes).got := by
  unfold St.takesIn
  dsimp only
  split
  · have := Int.emod_nonneg x (show (2 : Int) ≠ 0 by decide); omega
  · have := Int.emod_nonneg x (show (16 : Int) ≠ 0 by decide); omega
theorem bd256 {g l : Int} (hg : 0 ≤ g) (h : (g + 1) * 2 ^ l.toNat ≤ 256) : g ≤ 1073741824 := by have := got2 hg h; omega
set_option maxHeartbeats 1000000 in
theorem clock0 (b : Nat) (x : Int) (s : St) (jv bv dv : Value) (w : World) (h : CB w b s jv bv dv) (hj : JobV w jv s.job) (hjb : jv ≠ .pointer (some ⟨b, 0, none⟩)) (hd : Row w 3 dv (ints s.data)) (hdb : ∀ k, dv.ownBlock = some k → k ≠ b)
    (hs : s.stage = 0) (hl : 1 ≤ s.left ∧ s.left ≤ 8) (hg : 0 ≤ s.got) (hgl : (s.got + 1) * 2 ^ s.left.toNat ≤ 256) :
    Calls Tryz.prog 45 #[.pointer (some ⟨b, 0, none⟩), .int .i64 x] w (ClockPost b s jv bv dv w x) := by
  have c26 := h.cell 26
  simp only [St.list, List.getElem?_cons_succ, List.getElem?_cons_zero] at c26
  rw [hs] at c26
  have hgb := bd256 hg hgl
  go_enter Tryz.func45, Tryz.ntmps45
  go_wp2_with fail
  refine (cmd_takesIn b s jv bv dv x 1 _ h (.inl rfl) ⟨hg, hgb⟩ (by omega)).mono ?_
  rintro e w1 ⟨rfl, hB1, hU1⟩
  by_cases h1 : s.left - 1 = 0
  · have hb1 : (s.left - 1 == 0) = true := by simpa using h1
    have hR : s.clockIn x = ((s.takesIn x 1).begins (s.takesIn x 1).got, 15) := by
      unfold St.clockIn
      rw [if_pos hs]
      dsimp only
      rw [if_pos (show (s.takesIn x 1).left = 0 from h1)]
    rw [hb1]
    have c28 := hB1.cell 28
    simp only [St.list, List.getElem?_cons_succ, List.getElem?_cons_zero] at c28
    have hj1 := hj.upd hU1 (fun g hg e => hjb (by rw [hg, e]))
    go_wp2_with fail
    refine (chip_begins b _ _ jv bv dv _ hB1 hj1).mono ?_
    rintro e w2 ⟨rfl, hB2, hU2⟩
    go_wp2
    go_ret
    have hU := hU1.trans hU2 (fun _ _ k => k)
    refine ⟨dv, by rw [hR]; rfl, by rw [hR]; exact hB2, ?_, fun k hk => .inl hk, hU.mono (fun k _ e => .inl e)⟩
    rw [hR]
    dsimp only
    rw [begins_data]
    exact hd.upd hU hdb
  · have hb1 : (s.left - 1 == 0) = false := by simpa using h1
    have hR : s.clockIn x = (s.takesIn x 1, 15) := by
      unfold St.clockIn
      rw [if_pos hs]
      dsimp only
      rw [if_neg (show ¬ (s.takesIn x 1).left = 0 from h1)]
    rw [hb1]
    go_wp2
    go_ret
    refine ⟨dv, by rw [hR]; rfl, by rw [hR]; exact hB1, ?_, fun k hk => .inl hk, hU1.mono (fun k _ e => .inl e)⟩
    rw [hR]
    exact hd.upd hU1 hdb
set_option maxHeartbeats 1000000 in
theorem clock2 (b : Nat) (x : Int) (s : St) (jv bv dv : Value) (w : World) (h : CB w b s jv bv dv) (hd : Row w 3 dv (ints s.data)) (hdb : ∀ k, dv.ownBlock = some k → k ≠ b) (ha : s.op.mode = true → s.op.addr = 1 ∨ s.op.addr = 4) (hda : s.op.inn = true → s.op.data ≠ 0 → s.op.data = 1 ∨ s.op.data = 4)
    (hs : s.stage = 2) (hln : s.op.addr = 1 ∨ s.op.addr = 4) (hl : 1 ≤ s.left ∧ s.left ≤ 400) (hg : 0 ≤ s.got ∧ s.got ≤ 1073741824) :
    Calls Tryz.prog 45 #[.pointer (some ⟨b, 0, none⟩), .int .i64 x] w (ClockPost b s jv bv dv w x) := by
  have c26 := h.cell 26
  have c21 := h.cell 21
  simp only [St.list, List.getElem?_cons_succ, List.getElem?_cons_zero] at c26 c21
  rw [hs] at c26
  go_enter Tryz.func45, Tryz.ntmps45
  go_wp2_with fail
  refine (cmd_takesIn b s jv bv dv x s.op.addr _ h hln hg hl).mono ?_
  rintro e w1 ⟨rfl, hB1, hU1⟩
  have hs0 : ¬ s.stage = 0 := by omega
  by_cases h1 : s.left - 1 = 0
  · have hb1 : (s.left - 1 == 0) = true := by simpa using h1
    have hR : s.clockIn x = ({ s.takesIn x s.op.addr with addr := (s.takesIn x s.op.addr).got % 4096 }.behind, 15) := by
      unfold St.clockIn
      rw [if_neg hs0, if_pos hs]
      dsimp only
      rw [if_pos (show (s.takesIn x s.op.addr).left = 0 from h1)]
    rw [hb1]
    have hgn := takesIn_got (x := x) (lanes := s.op.addr) hg.1
    have hop : (s.takesIn x s.op.addr).op = s.op := rfl
    have c28 := hB1.cell 28
    have c29 := hB1.cell 29
    have f29 := hB1.frozen 29
    simp only [St.list, List.getElem?_cons_succ, List.getElem?_cons_zero] at c28 c29
    have hdt : { s.takesIn x s.op.addr with addr := (s.takesIn x s.op.addr).got % 4096 }.behind.data = s.data := by rw [behind_data]; rfl
    obtain ⟨g1, hg1⟩ : ∃ g1, (s.takesIn x s.op.addr).got = g1 := ⟨_, rfl⟩
    rw [hg1] at c28 hgn
    have hB2 : CB (w1.setCell ⟨b, 29, none⟩ (.int .i64 (g1 % 4096))) b { s.takesIn x s.op.addr with addr := (s.takesIn x s.op.addr).got % 4096 } jv bv dv := by rw [hg1]; exact hB1.set 29 _
    have hU2 : Upd (fun k => k = b) w (w1.setCell ⟨b, 29, none⟩ (.int .i64 (g1 % 4096))) := hU1.setCell ⟨b, 29, none⟩ _ (fun _ => rfl)
    have HB2 := Lib.hid hB2
    have HU2 := Lib.hid hU2
    have HR := Lib.hid hR
    have HG := Lib.hid hg1
    have htm := tmod4096 hgn
    clear hB1 hU1 hR hB2 hU2 hg1
    go_wp2_with fail
    refine (cmd_behind b _ jv bv dv _ HB2.out ha hda).mono ?_
    rintro e w2 ⟨rfl, hB3, hU3⟩
    go_wp2
    go_ret
    have hU := HU2.out.trans hU3 (fun _ _ k => k)
    have hR := HR.out
    refine ⟨dv, by rw [hR]; rfl, by rw [hR]; exact hB3, ?_, fun k hk => .inl hk, hU.mono (fun k _ e => .inl e)⟩
    rw [hR]
    dsimp only
    rw [hdt]
    exact hd.upd hU hdb
  · have hb1 : (s.left - 1 == 0) = false := by simpa using h1
    have hR : s.clockIn x = (s.takesIn x s.op.addr, 15) := by
      unfold St.clockIn
      rw [if_neg hs0, if_pos hs]
      dsimp only
      rw [if_neg (show ¬ (s.takesIn x s.op.addr).left = 0 from h1)]
    rw [hb1]
    have HR := Lib.hid hR
    clear hR
    go_wp2
    go_ret
    have hR := HR.out
    refine ⟨dv, by rw [hR]; rfl, by rw [hR]; exact hB1, ?_, fun k hk => .inl hk, hU1.mono (fun k _ e => .inl e)⟩
    rw [hR]
    exact hd.upd hU1 hdb
set_option maxHeartbeats 1000000 in
theorem clock3 (b : Nat) (x : Int) (s : St) (jv bv dv : Value) (w : World) (h : CB w b s jv bv dv) (hd : Row w 3 dv (ints s.data)) (hdb : ∀ k, dv.ownBlock = some k → k ≠ b) (ha : s.op.mode = true → s.op.addr = 1 ∨ s.op.addr = 4) (hda : s.op.inn = true → s.op.data ≠ 0 → s.op.data = 1 ∨ s.op.data = 4)
    (hs : s.stage = 3) (hln : s.op.addr = 1 ∨ s.op.addr = 4) (hl : 1 ≤ s.left ∧ s.left ≤ 400) (hg : 0 ≤ s.got ∧ s.got ≤ 1073741824) :
    Calls Tryz.prog 45 #[.pointer (some ⟨b, 0, none⟩), .int .i64 x] w (ClockPost b s jv bv dv w x) := by
  have c26 := h.cell 26
  have c21 := h.cell 21
  simp only [St.list, List.getElem?_cons_succ, List.getElem?_cons_zero] at c26 c21
  rw [hs] at c26
  go_enter Tryz.func45, Tryz.ntmps45
  go_wp2_with fail
  refine (cmd_takesIn b s jv bv dv x s.op.addr _ h hln hg hl).mono ?_
  rintro e w1 ⟨rfl, hB1, hU1⟩
  have hs0 : ¬ s.stage = 0 := by omega
  have hs2 : ¬ s.stage = 2 := by omega
  by_cases h1 : s.left - 1 = 0
  · have hb1 : (s.left - 1 == 0) = true := by simpa using h1
    have hR : s.clockIn x = ({ s.takesIn x s.op.addr with mode := (s.takesIn x s.op.addr).got, moded := true }.behind, 15) := by
      unfold St.clockIn
      rw [if_neg hs0, if_neg hs2, if_pos hs]
      dsimp only
      rw [if_pos (show (s.takesIn x s.op.addr).left = 0 from h1)]
    rw [hb1]
    have hgn := takesIn_got (x := x) (lanes := s.op.addr) hg.1
    have hop : (s.takesIn x s.op.addr).op = s.op := rfl
    have c28 := hB1.cell 28
    have c30 := hB1.cell 30
    have f30 := hB1.frozen 30
    have c31 := hB1.cell 31
    have f31 := hB1.frozen 31
    simp only [St.list, List.getElem?_cons_succ, List.getElem?_cons_zero] at c28 c30 c31
    have hdt : { s.takesIn x s.op.addr with mode := (s.takesIn x s.op.addr).got, moded := true }.behind.data = s.data := by rw [behind_data]; rfl
    obtain ⟨g1, hg1⟩ : ∃ g1, (s.takesIn x s.op.addr).got = g1 := ⟨_, rfl⟩
    rw [hg1] at c28 hgn
    have hB2 : CB ((w1.setCell ⟨b, 30, none⟩ (.int .i64 g1)).setCell ⟨b, 31, none⟩ (.bool true)) b { s.takesIn x s.op.addr with mode := (s.takesIn x s.op.addr).got, moded := true } jv bv dv := by rw [hg1]; exact (hB1.set 30 _).set 31 _
    have hU2 : Upd (fun k => k = b) w ((w1.setCell ⟨b, 30, none⟩ (.int .i64 g1)).setCell ⟨b, 31, none⟩ (.bool true)) := (hU1.setCell ⟨b, 30, none⟩ _ (fun _ => rfl)).setCell ⟨b, 31, none⟩ _ (fun _ => rfl)
    have HB2 := Lib.hid hB2
    have HU2 := Lib.hid hU2
    have HR := Lib.hid hR
    have HG := Lib.hid hg1
    clear hB1 hU1 hR hB2 hU2 hg1
    go_wp2_with fail
    refine (cmd_behind b _ jv bv dv _ HB2.out ha hda).mono ?_
    rintro e w2 ⟨rfl, hB3, hU3⟩
    go_wp2
    go_ret
    have hU := HU2.out.trans hU3 (fun _ _ k => k)
    have hR := HR.out
    refine ⟨dv, by rw [hR]; rfl, by rw [hR]; exact hB3, ?_, fun k hk => .inl hk, hU.mono (fun k _ e => .inl e)⟩
    rw [hR]
    dsimp only
    rw [hdt]
    exact hd.upd hU hdb
  · have hb1 : (s.left - 1 == 0) = false := by simpa using h1
    have hR : s.clockIn x = (s.takesIn x s.op.addr, 15) := by
      unfold St.clockIn
      rw [if_neg hs0, if_neg hs2, if_pos hs]
      dsimp only
      rw [if_neg (show ¬ (s.takesIn x s.op.addr).left = 0 from h1)]
    rw [hb1]
    have HR := Lib.hid hR
    clear hR
    go_wp2
    go_ret
    have hR := HR.out
    refine ⟨dv, by rw [hR]; rfl, by rw [hR]; exact hB1, ?_, fun k hk => .inl hk, hU1.mono (fun k _ e => .inl e)⟩
    rw [hR]
    exact hd.upd hU1 hdb
end Go.Proofs.YtjdjdfllggpckaaGreat
