/- line.Keep where it does not keep. -/
import Derived.Test.YtdlhhlebbnefkaaKeep
namespace Go.Proofs.Ytdlhhlebbnefkaa
open Go.RowKit
/-- Is it kept? -/
def keepB (xs : List Int) (ts : List ByteArray) (nx a : Int) (s : ByteArray) : Bool := mayB xs ts nx && (beginsB a && decide (s.size = 16))
theorem keep_no (w : World) (v u : Value) (xs : List Int) (ts : List ByteArray) (nx a : Int) (s : ByteArray) (hv : RS w v (ints xs)) (hu : RS w u (strs ts)) (hk : keepB xs ts nx a s = false) :
    Calls Try.prog 20 #[cacheV v u nx, .int .i64 a, .string s] w fun e w' => e = .returned (.tuple #[cacheV (.slice none 0 0) (.slice none 0 0) 0, .int .i64 1200]) ∧ Upd none' w w' := by
  have HV := Lib.hid hv
  have HU := Lib.hid hu
  obtain ⟨_, av, cap, rfl, _⟩ := hv
  obtain ⟨_, au, cap', rfl, _⟩ := hu
  obtain ⟨W0, hW0⟩ : ∃ W0, W0 = (w.alloc (.cells #[.slice av (ints xs).length cap, .slice au (strs ts).length cap', .int .i64 nx] 42)).alloc (.cells #[.slice none 0 0, .slice none 0 0, .int .i64 0] 42) := ⟨_, rfl⟩
  have hU0 : Upd none' w W0 := by rw [hW0]; exact ((Upd.refl none' w).alloc _).alloc _
  have hBb : Blk W0 (w.heap.size + 1) [.slice none 0 0, .slice none 0 0, .int .i64 0] 42 := by
    rw [hW0]; have := Blk.new (w.alloc (.cells #[.slice av (ints xs).length cap, .slice au (strs ts).length cap', .int .i64 nx] 42)) [.slice none 0 0, .slice none 0 0, .int .i64 0] 42; simpa using this
  have hm0 := line_may W0 _ _ xs ts nx (HV.out.upd hU0 (fun _ _ _ f => f)) (HU.out.upd hU0 (fun _ _ _ f => f))
  have HM := Lib.hid hm0
  clear hm0
  have HW := Lib.hid hW0
  clear hW0
  have HB : Hid (∀ w1, Upd none' W0 w1 → Blk w1 (w.heap.size + 1) [.slice none 0 0, .slice none 0 0, .int .i64 0] 42 ∧ Upd none' w (((w1.setCell ⟨w.heap.size + 1, 0, none⟩ (.slice none 0 0)).setCell ⟨w.heap.size + 1, 1, none⟩ (.slice none 0 0)).setCell ⟨w.heap.size + 1, 2, none⟩ (.int .i64 0))) :=
    fun w1 h => ⟨hBb.upd h (fun f => f), (((hU0.trans h (fun _ _ f => f)).setCell ⟨w.heap.size + 1, 0, none⟩ _ (fun h => absurd h (by dsimp only; omega))).setCell ⟨w.heap.size + 1, 1, none⟩ _ (fun h => absurd h (by dsimp only; omega))).setCell ⟨w.heap.size + 1, 2, none⟩ _ (fun h => absurd h (by dsimp only; omega))⟩
  clear hBb hU0
  unfold cacheV at HM ⊢
  unfold keepB at hk
  go_enter Try.func20, Try.ntmps20
  go_wp2_with fail
  refine (HW.out ▸ HM.out).mono ?_
  rintro e w1 ⟨rfl, hU1⟩
  have hU1' : Upd none' W0 w1 := HW.out ▸ hU1
  obtain ⟨hB, hU⟩ := HB.out w1 hU1'
  have m0 := hB.cell 0
  have m1 := hB.cell 1
  have m2 := hB.cell 2
  have y0 := hB.frozen 0
  have y1 := hB.frozen 1
  have y2 := hB.frozen 2
  have hB' := (((hB.set 0 (.slice none 0 0)).set 1 (.slice none 0 0)).set 2 (.int .i64 0))
  have x0 := hB'.cell 0
  have x1 := hB'.cell 1
  have x2 := hB'.cell 2
  have X0 := Lib.hid x0
  have X1 := Lib.hid x1
  have X2 := Lib.hid x2
  simp only [List.getElem?_cons_zero, List.getElem?_cons_succ] at m0 m1 m2
  have HB' := Lib.hid hB'
  clear HW hU1 hU1' hB' x0 x1 x2
  have HU2 := Lib.hid hU
  clear hU
  cases hm : mayB xs ts nx with
  | false =>
    go_wp2
    refine bodyPost_ret (v := .tuple #[.agg #[.slice none 0 0, .slice none 0 0, .int .i64 0], .int .i64 1200]) ?_ rfl ⟨rfl, HU2.out⟩
    have x0 := X0.out
    have x1 := X1.out
    have x2 := X2.out
    simp only [List.set_cons_zero, List.set_cons_succ, List.getElem?_cons_zero, List.getElem?_cons_succ] at x0 x1 x2
    generalize ((w1.setCell ⟨w.heap.size + 1, 0, none⟩ (.slice none 0 0)).setCell ⟨w.heap.size + 1, 1, none⟩ (.slice none 0 0)).setCell ⟨w.heap.size + 1, 2, none⟩ (.int .i64 0) = wf at *
    simp [results, Try.results20, go_sem, x0, x1, x2]
  | true =>
    cases hb : beginsB a with
    | false =>
      go_wp2_with (go_at_call 32; refine (line_begins w1 a).mono ?_; rintro e w2 ⟨rfl, rfl⟩; rw [hb])
      refine bodyPost_ret (v := .tuple #[.agg #[.slice none 0 0, .slice none 0 0, .int .i64 0], .int .i64 1200]) ?_ rfl ⟨rfl, HU2.out⟩
      have x0 := X0.out
      have x1 := X1.out
      have x2 := X2.out
      simp only [List.set_cons_zero, List.set_cons_succ, List.getElem?_cons_zero, List.getElem?_cons_succ] at x0 x1 x2
      generalize ((w1.setCell ⟨w.heap.size + 1, 0, none⟩ (.slice none 0 0)).setCell ⟨w.heap.size + 1, 1, none⟩ (.slice none 0 0)).setCell ⟨w.heap.size + 1, 2, none⟩ (.int .i64 0) = wf at *
      simp [results, Try.results20, go_sem, x0, x1, x2]
    | true =>
      have hs : s.size ≠ 16 := by intro h; rw [hm, hb, decide_eq_true h] at hk; cases hk
      have hs' : ((s.size : Int) == 16) = false := by simp; omega
      have hs2 : ((s.size : Int) != 16) = true := by simp [bne]; omega
      go_wp2_with (go_at_call 32; refine (line_begins w1 a).mono ?_; rintro e w2 ⟨rfl, rfl⟩; rw [hb])
      refine bodyPost_ret (v := .tuple #[.agg #[.slice none 0 0, .slice none 0 0, .int .i64 0], .int .i64 1200]) ?_ rfl ⟨rfl, HU2.out⟩
      have x0 := X0.out
      have x1 := X1.out
      have x2 := X2.out
      simp only [List.set_cons_zero, List.set_cons_succ, List.getElem?_cons_zero, List.getElem?_cons_succ] at x0 x1 x2
      generalize ((w1.setCell ⟨w.heap.size + 1, 0, none⟩ (.slice none 0 0)).setCell ⟨w.heap.size + 1, 1, none⟩ (.slice none 0 0)).setCell ⟨w.heap.size + 1, 2, none⟩ (.int .i64 0) = wf at *
      simp [results, Try.results20, go_sem, x0, x1, x2]
end Go.Proofs.Ytdlhhlebbnefkaa
