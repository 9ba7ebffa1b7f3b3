/- The walks over whole, stat.Protected. -/
import Derived.Test.YtjdjdfllggpckaaGreatChipWF
namespace Go.Proofs.YtjdjdfllggpckaaGreat
open Go.RowKit
theorem quiet_eq {P : Program} {f : FuncId} {args : Array Value} {w0 : World} {u : UW w0} {v : Value} (h : Calls P f args u.val fun e w' => e = .returned v ∧ u.val = w') :
    Calls P f args u.val fun e w'' => e = .returned v ∧ ∃ u' : UW w0, w'' = u'.val :=
  h.mono fun _ _ ⟨he, hu⟩ => ⟨he, u, hu.symm⟩
set_option maxHeartbeats 1000000 in
theorem cmd_whole (b : Nat) (s : St) (jv bv dv : Value) (w : World) (h : CB w b s jv bv dv) (hda : s.op.inn = true → s.op.data = 1) :
    Calls Tryz.prog 79 #[.pointer (some ⟨b, 20, none⟩)] w fun e w' => e = .returned (.bool s.whole) ∧ Upd none' w w' := by
  have c25 := h.cell 25
  have c24 := h.cell 24
  have c26 := h.cell 26
  have c27 := h.cell 27
  have c35 := h.cell 35
  simp only [St.list, List.getElem?_cons_succ, List.getElem?_cons_zero] at c24 c25 c26 c27 c35
  cases hi : s.op.inn with
  | true =>
    have hd := hda hi
    rw [hi] at c25
    rw [hd] at c24
    by_cases h5 : s.stage = 5
    · rw [h5] at c26
      obtain ⟨q, hq⟩ : ∃ q, (s.left == 8) = q := ⟨_, rfl⟩
      have hR : s.whole = q := by
        rw [← hq]
        simp only [St.whole, hi, hd, h5, if_true, true_and]
        rfl
      have HR := Lib.hid hR
      have l24 : ∀ u : UW w, u.val.cell? ⟨b, 24, none⟩ = some (.int .i64 1) := fun u => by rw [← c24]; exact u.upd.cell h.lt (fun f => f)
      have l26 : ∀ u : UW w, u.val.cell? ⟨b, 26, none⟩ = some (.int .i64 5) := fun u => by rw [← c26]; exact u.upd.cell h.lt (fun f => f)
      have l27 : ∀ u : UW w, u.val.cell? ⟨b, 27, none⟩ = some (.int .i64 s.left) := fun u => by rw [← c27]; exact u.upd.cell h.lt (fun f => f)
      clear hR hi hd h5 hda
      go_enter Tryz.func79, Tryz.ntmps79
      go_upto_region 2 with fail
      refine wp_region_upd_lit w (Upd.refl none' w) (by kernel_rfl) (by kernel_rfl) ?_
      repeat (go_big_quiet_step ((go_at_call 53; exact quiet_eq (lane_many 1 (.inl rfl) _))))
      refine wpQuiet_nil ?_
      rintro _ ⟨⟨w1, hU1⟩, rfl⟩
      go_wp2
      go_ret
      exact ⟨by rw [HR.out]; rfl, hU1⟩
    · have hb5 : (s.stage == 5) = false := by simpa using h5
      have hR : s.whole = false := by
        simp only [St.whole, hi, hd, if_true]
        exact decide_eq_false (fun e => h5 e.1)
      have HR := Lib.hid hR
      have l26 : ∀ u : UW w, u.val.cell? ⟨b, 26, none⟩ = some (.int .i64 s.stage) := fun u => by rw [← c26]; exact u.upd.cell h.lt (fun f => f)
      clear hR hi hd hda
      go_enter Tryz.func79, Tryz.ntmps79
      go_upto_region 2 with fail
      refine wp_region_upd_lit w (Upd.refl none' w) (by kernel_rfl) (by kernel_rfl) ?_
      repeat (go_big_quiet_step (fail))
      refine wpQuiet_nil ?_
      rintro _ ⟨⟨w1, hU1⟩, rfl⟩
      go_wp2
      go_ret
      exact ⟨by rw [HR.out]; rfl, hU1⟩
  | false =>
    rw [hi] at c25
    by_cases hd : s.op.data = 0
    · rw [hd] at c24
      by_cases h7 : s.stage = 7
      · rw [h7] at c26
        have hR : s.whole = !s.beyond := by
          simp only [St.whole, hi, hd, h7]
          simp
        have HR := Lib.hid hR
        clear hR hi hd h7 hda
        cases hb : s.beyond with
        | true =>
          rw [hb] at c35
          have HB := Lib.hid hb
          clear hb
          go_enter Tryz.func79, Tryz.ntmps79
          go_wp2
          go_ret
          exact ⟨by rw [HR.out, HB.out]; rfl, Upd.refl _ _⟩
        | false =>
          rw [hb] at c35
          have HB := Lib.hid hb
          clear hb
          go_enter Tryz.func79, Tryz.ntmps79
          go_wp2
          go_ret
          exact ⟨by rw [HR.out, HB.out]; rfl, Upd.refl _ _⟩
      · have hb7 : (s.stage == 7) = false := by simpa using h7
        have hR : s.whole = false := by
          simp only [St.whole, hi, hd]
          simp [h7]
        have HR := Lib.hid hR
        clear hR hi hd hda
        go_enter Tryz.func79, Tryz.ntmps79
        go_wp2
        go_ret
        exact ⟨by rw [HR.out]; rfl, Upd.refl _ _⟩
    · have hbd : (s.op.data == 0) = false := by simpa using hd
      have hR : s.whole = true := by
        simp only [St.whole, hi]
        simp [hd]
      have HR := Lib.hid hR
      clear hR hi hda
      go_enter Tryz.func79, Tryz.ntmps79
      go_wp2
      go_ret
      exact ⟨by rw [HR.out]; rfl, Upd.refl _ _⟩
theorem stat_image (a : Int) (w : World) (h : 0 ≤ a) :
    Calls Tryz.prog 99 #[.int .i64 a] w fun e w' => e = .returned (.bool (decide (a < 2048))) ∧ w = w' := by
  by_cases h1 : a < 2048
  all_goals
    go_enter Tryz.func99, Tryz.ntmps99
    go_wp2
    go_ret
    exact ⟨by simp [h1], rfl⟩
theorem stat_protected (p : Bool) (a : Int) (w : World) (h : 0 ≤ a) (h2 : a < 4096) :
    Calls Tryz.prog 96 #[.bool p, .int .i64 a] w fun e w' => e = .returned (.tuple #[.bool (p && decide (a < 2048)), .int .i64 0]) ∧ w = w' := by
  cases p
  · go_enter Tryz.func96, Tryz.ntmps96
    go_wp2
    go_ret2
    exact ⟨rfl, rfl⟩
  · have hi := stat_image a w h
    go_enter Tryz.func96, Tryz.ntmps96
    go_wp2_with fail
    refine hi.mono ?_
    rintro e w' ⟨rfl, rfl⟩
    go_wp2
    go_ret2
    exact ⟨rfl, rfl⟩
end Go.Proofs.YtjdjdfllggpckaaGreat
