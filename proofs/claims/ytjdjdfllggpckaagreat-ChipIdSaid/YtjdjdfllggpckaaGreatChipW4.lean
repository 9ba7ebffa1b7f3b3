/- The walks over known. -/
import Derived.Test.YtjdjdfllggpckaaGreatChipW2
import Derived.Test.YtjdjdfllggpckaaGreatChipW3
import Derived.Test.YtjdjdfllggpckaaGreatOpOf
namespace Go.Proofs.YtjdjdfllggpckaaGreat
open Go.RowKit
theorem JobV.upd {S : Nat → Prop} {w w' : World} {jv : Value} {j : Option Job} (h : JobV w jv j) (u : Upd S w w') (hS : ∀ g, jv = .pointer (some ⟨g, 0, none⟩) → ¬ S g) : JobV w' jv j := by
  cases j with
  | none => exact h
  | some j => obtain ⟨g, h1, h2⟩ := h; exact ⟨g, h1, h2.upd u (hS g h1)⟩
set_option maxHeartbeats 1000000 in
theorem chip_known_yes (b : Nat) (c : Int) (hc : opIs c = true) (s : St) (jv bv dv : Value) (w : World) (h : CB w b s jv bv dv) (hj : JobV w jv s.job) :
    Calls Tryz.prog 75 #[.pointer (some ⟨b, 0, none⟩), .int .i64 c] w fun e w' =>
      e = .returned (.tuple #[.agg (opOf c).cells, .bool (s.takes (opOf c).byte)]) ∧ Upd none' w w' := by
  go_enter Tryz.func75, Tryz.ntmps75
  go_wp2_with fail
  refine (op_of c hc _).mono ?_
  rintro e w1 ⟨rfl, hU1⟩
  simp only [POp.cells]
  go_wp2_with fail
  have hz0 := (Blk.new w [.int .i64 0, .int .i64 0, .bool false, .int .i64 0, .int .i64 0, .bool false] 66).upd hU1 (fun f => f)
  have hlt0 := hz0.lt
  have hUw : Upd none' w w1 := ((Upd.refl none' w).alloc _).trans hU1 (fun _ _ f => f)
  have hq := Blk.new w1 [.int .i64 (opOf c).byte, .int .i64 (opOf c).addr, .bool (opOf c).mode, .int .i64 (opOf c).dummy, .int .i64 (opOf c).data, .bool (opOf c).inn] 66
  have hU2 : Upd none' w (w1.alloc (.cells #[.int .i64 (opOf c).byte, .int .i64 (opOf c).addr, .bool (opOf c).mode, .int .i64 (opOf c).dummy, .int .i64 (opOf c).data, .bool (opOf c).inn] 66)) := hUw.alloc _
  have hz := hz0.alloc (.cells #[.int .i64 (opOf c).byte, .int .i64 (opOf c).addr, .bool (opOf c).mode, .int .i64 (opOf c).dummy, .int .i64 (opOf c).data, .bool (opOf c).inn] 66)
  have hne : w1.heap.size ≠ w.heap.size := by omega
  generalize w1.alloc (.cells #[.int .i64 (opOf c).byte, .int .i64 (opOf c).addr, .bool (opOf c).mode, .int .i64 (opOf c).dummy, .int .i64 (opOf c).data, .bool (opOf c).inn] 66) = W2 at *
  generalize w1.heap.size = q at *
  have hrlt := h.lt
  obtain ⟨r, hr⟩ : ∃ r, r = w.heap.size := ⟨_, rfl⟩
  have hge : w.heap.size ≤ r := by omega
  have hbr : b ≠ r := by omega
  rw [← hr] at hz hne ⊢
  have hC2 : CB W2 b s jv bv dv := h.upd hU2 (fun f => f)
  have hj2 := hj.upd hU2 (fun _ _ f => f)
  have q0 := hq.cell 0
  have q1 := hq.cell 1
  have q2 := hq.cell 2
  have q3 := hq.cell 3
  have q4 := hq.cell 4
  have q5 := hq.cell 5
  have z0 := hz.cell 0
  have z1 := hz.cell 1
  have z2 := hz.cell 2
  have z3 := hz.cell 3
  have z4 := hz.cell 4
  have z5 := hz.cell 5
  have y0 := hz.frozen 0
  have y1 := hz.frozen 1
  have y2 := hz.frozen 2
  have y3 := hz.frozen 3
  have y4 := hz.frozen 4
  have y5 := hz.frozen 5
  simp only [List.getElem?_cons_succ, List.getElem?_cons_zero] at q0 q1 q2 q3 q4 q5 z0 z1 z2 z3 z4 z5
  clear hr hU1 hz0 hlt0 hrlt
  have hU3 := Upd.setCell hU2 ⟨r, 0, none⟩ (.int .i64 (opOf c).byte) (fun hk => absurd hk (by simp; omega))
  have hU4 := Upd.setCell hU3 ⟨r, 1, none⟩ (.int .i64 (opOf c).addr) (fun hk => absurd hk (by simp; omega))
  have hU5 := Upd.setCell hU4 ⟨r, 2, none⟩ (.bool (opOf c).mode) (fun hk => absurd hk (by simp; omega))
  have hU6 := Upd.setCell hU5 ⟨r, 3, none⟩ (.int .i64 (opOf c).dummy) (fun hk => absurd hk (by simp; omega))
  have hU7 := Upd.setCell hU6 ⟨r, 4, none⟩ (.int .i64 (opOf c).data) (fun hk => absurd hk (by simp; omega))
  have hU8 := (Upd.setCell hU7 ⟨r, 5, none⟩ (.bool (opOf c).inn) (fun hk => absurd hk (by simp; omega))).drew
  have HU8 := Lib.hid hU8
  clear hU3 hU4 hU5 hU6 hU7 hU8
  go_region_with (go_at_call 90; refine (chip_takes b q (opOf c).byte s jv bv dv _ ?_ ?_ ?_).mono ?_; exact hC2; exact hj2; exact q0; rintro e w' ⟨rfl, rfl⟩)
  all_goals go_wp2
  all_goals
    refine bodyPost_ret (v := .tuple #[.agg (opOf c).cells, .bool (s.takes (opOf c).byte)]) ?_ rfl ⟨rfl, HU8.out⟩
    simp [results, Tryz.results75, go_sem, POp.cells, Act.put, z0, z1, z2, z3, z4, z5]
set_option maxHeartbeats 1000000 in
theorem chip_known_no (b : Nat) (c : Int) (hc : opIs c = false) (s : St) (jv bv dv : Value) (w : World) (h : CB w b s jv bv dv) (hj : JobV w jv s.job) :
    Calls Tryz.prog 75 #[.pointer (some ⟨b, 0, none⟩), .int .i64 c] w fun e w' =>
      e = .returned (.tuple #[.agg op0.cells, .bool false]) ∧ Upd none' w w' := by
  go_enter Tryz.func75, Tryz.ntmps75
  go_wp2_with fail
  refine (op_of_no c hc _).mono ?_
  rintro e w1 ⟨rfl, hU1⟩
  simp only [POp.cells, op0]
  go_wp2_with fail
  have hz0 := (Blk.new w [.int .i64 0, .int .i64 0, .bool false, .int .i64 0, .int .i64 0, .bool false] 66).upd hU1 (fun f => f)
  have hlt0 := hz0.lt
  have hUw : Upd none' w w1 := ((Upd.refl none' w).alloc _).trans hU1 (fun _ _ f => f)
  have hq := Blk.new w1 [.int .i64 0, .int .i64 0, .bool false, .int .i64 0, .int .i64 0, .bool false] 66
  have hU2 : Upd none' w (w1.alloc (.cells #[.int .i64 0, .int .i64 0, .bool false, .int .i64 0, .int .i64 0, .bool false] 66)) := hUw.alloc _
  have hz := hz0.alloc (.cells #[.int .i64 0, .int .i64 0, .bool false, .int .i64 0, .int .i64 0, .bool false] 66)
  have hne : w1.heap.size ≠ w.heap.size := by omega
  generalize w1.alloc (.cells #[.int .i64 0, .int .i64 0, .bool false, .int .i64 0, .int .i64 0, .bool false] 66) = W2 at *
  generalize w1.heap.size = q at *
  have hrlt := h.lt
  obtain ⟨r, hr⟩ : ∃ r, r = w.heap.size := ⟨_, rfl⟩
  have hge : w.heap.size ≤ r := by omega
  have hbr : b ≠ r := by omega
  rw [← hr] at hz hne ⊢
  have hC2 : CB W2 b s jv bv dv := h.upd hU2 (fun f => f)
  have hj2 := hj.upd hU2 (fun _ _ f => f)
  have q0 := hq.cell 0
  have q1 := hq.cell 1
  have q2 := hq.cell 2
  have q3 := hq.cell 3
  have q4 := hq.cell 4
  have q5 := hq.cell 5
  have z0 := hz.cell 0
  have z1 := hz.cell 1
  have z2 := hz.cell 2
  have z3 := hz.cell 3
  have z4 := hz.cell 4
  have z5 := hz.cell 5
  have y0 := hz.frozen 0
  have y1 := hz.frozen 1
  have y2 := hz.frozen 2
  have y3 := hz.frozen 3
  have y4 := hz.frozen 4
  have y5 := hz.frozen 5
  simp only [List.getElem?_cons_succ, List.getElem?_cons_zero] at q0 q1 q2 q3 q4 q5 z0 z1 z2 z3 z4 z5
  clear hr hU1 hz0 hlt0 hrlt
  have hU3 := Upd.setCell hU2 ⟨r, 0, none⟩ (.int .i64 0) (fun hk => absurd hk (by simp; omega))
  have hU4 := Upd.setCell hU3 ⟨r, 1, none⟩ (.int .i64 0) (fun hk => absurd hk (by simp; omega))
  have hU5 := Upd.setCell hU4 ⟨r, 2, none⟩ (.bool false) (fun hk => absurd hk (by simp; omega))
  have hU6 := Upd.setCell hU5 ⟨r, 3, none⟩ (.int .i64 0) (fun hk => absurd hk (by simp; omega))
  have hU7 := Upd.setCell hU6 ⟨r, 4, none⟩ (.int .i64 0) (fun hk => absurd hk (by simp; omega))
  have hU8 := (Upd.setCell hU7 ⟨r, 5, none⟩ (.bool false) (fun hk => absurd hk (by simp; omega))).drew
  have HU8 := Lib.hid hU8
  clear hU3 hU4 hU5 hU6 hU7 hU8
  go_region
  all_goals go_wp2
  all_goals
    refine bodyPost_ret (v := .tuple #[.agg op0.cells, .bool false]) ?_ rfl ⟨rfl, HU8.out⟩
    simp [results, Tryz.results75, go_sem, POp.cells, op0, z0, z1, z2, z3, z4, z5]
end Go.Proofs.YtjdjdfllggpckaaGreat
