/- The walks over package stat. -/
import Derived.Test.YtjdjdfllggpckaaGreatChipM
import Derived.Test.YtjdjdfllggpckaaGreatProg
namespace Go.Proofs.YtjdjdfllggpckaaGreat
open Go.RowKit
theorem alike_trans {a b c : World} (h : b.Alike a) (g : c.Alike b) : c.Alike a := ⟨g.1.trans h.1, g.2.1.trans h.2.1, g.2.2.trans h.2.2⟩
theorem stat_so1 (p q : Nat) (x : Int) (y : Bool) (w : World) (hp : w.cell? ⟨p, 0, none⟩ = some (.int .i64 x)) (hq : w.cell? ⟨q, 0, none⟩ = some (.bool y)) :
    Calls Tryz.prog 88 #[.pointer (some ⟨p, 0, none⟩), .pointer (some ⟨q, 0, none⟩)] w fun e w' => e = .returned (.tuple #[.int .i64 x, .bool y]) ∧ w'.Alike w := by
  go_enter Tryz.func88, Tryz.ntmps88
  go_wp2
  go_region
  all_goals go_wp2
  all_goals go_ret2
  all_goals exact ⟨rfl, rfl, rfl, rfl⟩
def closV (p q : Nat) : Value := .func (.func 88) #[] #[.pointer (some ⟨p, 0, none⟩), .pointer (some ⟨q, 0, none⟩)]
theorem stat_so (x : Int) (y : Bool) (w : World) :
    Calls Tryz.prog 73 #[.int .i64 x, .bool y] w fun e w' => ∃ p q, e = .returned (closV p q) ∧ Upd none' w w' ∧ w.heap.size ≤ p ∧ w.heap.size ≤ q ∧ Blk w' p [.int .i64 x] 3 ∧ Blk w' q [.bool y] 4 := by
  have hmf : ∀ (fn : Fn) (first cap : Array Value) (w : World), (Instr.makeFunc fn first cap).run Tryz.prog w = .ok (.func fn first cap) w := fun _ _ _ _ => rfl
  go_enter Tryz.func73, Tryz.ntmps73
  go_wp2
  go_ret
  refine ⟨w.heap.size, w.heap.size + 1, rfl, ((Upd.refl none' w).alloc _).alloc _, Nat.le_refl _, by omega, ?_, ?_⟩
  · exact (Blk.new w [.int .i64 x] _).alloc _
  · have := Blk.new (w.alloc (.cells #[.int .i64 x] 3)) [.bool y] 4
    simpa using this
def sumOf : List (Int × Bool) → Int
  | [] => 0
  | (x, y) :: r => (if y then x else 0) + sumOf r
theorem sumOf_snoc (l : List (Int × Bool)) (x : Int) (y : Bool) : sumOf (l ++ [(x, y)]) = sumOf l + if y then x else 0 := by
  induction l with
  | nil => simp [sumOf]
  | cons a l ih => obtain ⟨p, q⟩ := a; simp [sumOf, ih]; omega
theorem sumOf_bd (l : List (Int × Bool)) (h : ∀ a ∈ l, 0 ≤ a.1 ∧ a.1 ≤ 1000) : 0 ≤ sumOf l ∧ sumOf l ≤ 1000 * l.length := by
  induction l with
  | nil => simp [sumOf]
  | cons a l ih =>
    obtain ⟨p, q⟩ := a
    have h1 := h (p, q) (by simp)
    have h2 := ih (fun a ha => h a (by simp [ha]))
    simp only [sumOf, List.length_cons]
    simp only at h1
    split <;> omega
set_option maxHeartbeats 1000000 in
theorem stat_sum (g cap : Nat) (l : List (Int × Bool)) (ps qs : List Nat) (w : World) (hl : l.length ≤ 100) (hb : ∀ a ∈ l, 0 ≤ a.1 ∧ a.1 ≤ 1000)
    (hc : ∀ j, j < l.length → w.cell? ⟨g, j, none⟩ = some (closV (ps.getD j 0) (qs.getD j 0)))
    (hx : ∀ j, j < l.length → w.cell? ⟨ps.getD j 0, 0, none⟩ = some (.int .i64 (l.getD j (0, false)).1))
    (hy : ∀ j, j < l.length → w.cell? ⟨qs.getD j 0, 0, none⟩ = some (.bool (l.getD j (0, false)).2)) :
    Calls Tryz.prog 72 #[.slice (some ⟨g, 0, none⟩) l.length cap] w fun e w' => e = .returned (.int .i64 (sumOf l)) ∧ w'.Alike w := by
  have HC := Lib.hid hc
  have HX := Lib.hid hx
  have HY := Lib.hid hy
  clear hc hx hy
  go_enter Tryz.func72, Tryz.ntmps72
  go_wp2
  go_loopw [3, 10] (fun ov iv wr => ∃ i : Nat, i ≤ l.length ∧ iv = .int .i64 i ∧ ov = .int .i64 (sumOf (l.take i)) ∧ wr.Alike w) (fun _ iv _ => l.length - (intOf iv).toNat)
  case atStart => exact ⟨0, by omega, rfl, rfl, rfl, rfl, rfl⟩
  case round =>
    obtain ⟨i, hi, rfl, rfl, hA⟩ := hrel
    by_cases hlt : i < l.length
    · have hc1 := (Alike.cell hA ⟨g, i, none⟩).trans (HC.out i hlt)
      have hx1 := (Alike.cell hA ⟨ps.getD i 0, 0, none⟩).trans (HX.out i hlt)
      have hy1 := (Alike.cell hA ⟨qs.getD i 0, 0, none⟩).trans (HY.out i hlt)
      have hbd := sumOf_bd (l.take i) (fun a ha => hb a (List.mem_of_mem_take ha))
      have hbl : (l.take i).length ≤ i := List.length_take_le _ _
      have hbi := hb (l.getD i (0, false)) (by simp [List.getD_eq_getElem?_getD, List.getElem?_eq_getElem hlt])
      have hts : l.take (i + 1) = l.take i ++ [l.getD i (0, false)] := by
        rw [List.take_add_one, List.getElem?_eq_getElem hlt]; simp [List.getD_eq_getElem?_getD, List.getElem?_eq_getElem hlt]
      have HT := Lib.hid hts
      clear hts hb
      generalize l.getD i (0, false) = xy at *
      obtain ⟨x, y⟩ := xy
      generalize ps.getD i 0 = p at *
      generalize qs.getD i 0 = q at *
      simp only [closV] at hc1
      simp only at hx1 hy1 hbi
      have hsum : sumOf (l.take (i + 1)) = sumOf (l.take i) + if y then x else 0 := by rw [HT.out, sumOf_snoc]
      have HS := Lib.hid hsum
      clear hsum
      generalize sumOf (l.take i) = acc at *
      go_wp2_with (go_at_call 88; refine (stat_so1 p q x y _ hx1 hy1).mono ?_; rintro e w1 ⟨rfl, hA1⟩)
      all_goals
        go_roundw
        case rel => exact ⟨i + 1, by omega, by go_num, by rw [HS.out]; simp [*], alike_trans hA hA1⟩
        case measure => simp [intOf]; omega
    · have hieq : i = l.length := by omega
      go_wp2
      go_ret
      refine ⟨?_, hA⟩
      rw [hieq, List.take_length]; rfl
def firstL (x y z : Bool) : List (Int × Bool) := [(1, x), (2, y), (4, z)]
set_option maxHeartbeats 1000000 in
theorem stat_first (x y z : Bool) (w : World) :
    Calls Tryz.prog 46 #[.bool x, .bool y, .bool z] w fun e w' => e = .returned (.int .i64 (first x y z)) ∧ Upd none' w w' := by
  have hfin : first x y z = sumOf [(1, x), (2, y), (4, z)] := by cases x <;> cases y <;> cases z <;> rfl
  have HF := Lib.hid hfin
  clear hfin
  go_enter Tryz.func46, Tryz.ntmps46
  go_wp2_with fail
  refine (stat_so 1 x w).mono ?_
  rintro e w1 ⟨p1, q1, rfl, hU1, hp1, hq1, hP1, hQ1⟩
  simp only [closV]
  go_wp2_with fail
  refine (stat_so 2 y w1).mono ?_
  rintro e w2 ⟨p2, q2, rfl, hU2, hp2, hq2, hP2, hQ2⟩
  simp only [closV]
  go_wp2_with fail
  refine (stat_so 4 z w2).mono ?_
  rintro e w3 ⟨p3, q3, rfl, hU3, hp3, hq3, hP3, hQ3⟩
  simp only [closV]
  have hP1' := (hP1.upd hU2 (fun f => f)).upd hU3 (fun f => f)
  have hQ1' := (hQ1.upd hU2 (fun f => f)).upd hU3 (fun f => f)
  have hP2' := hP2.upd hU3 (fun f => f)
  have hQ2' := hQ2.upd hU3 (fun f => f)
  have hUw := (hU1.trans hU2 (fun _ _ f => f)).trans hU3 (fun _ _ f => f)
  go_wp2_with fail
  have hN := Blk.new w3 [closV p1 q1, closV p2 q2, closV p3 q3] 106
  refine (stat_sum w3.heap.size 3 [(1, x), (2, y), (4, z)] [p1, p2, p3] [q1, q2, q3] _ (by simp) (by simp) ?_ ?_ ?_).mono ?_
  · intro j hj
    match j, hj with
    | 0, _ => exact hN.cell 0
    | 1, _ => exact hN.cell 1
    | 2, _ => exact hN.cell 2
  · intro j hj
    match j, hj with
    | 0, _ => exact (hP1'.alloc _).cell 0
    | 1, _ => exact (hP2'.alloc _).cell 0
    | 2, _ => exact (hP3.alloc _).cell 0
  · intro j hj
    match j, hj with
    | 0, _ => exact (hQ1'.alloc _).cell 0
    | 1, _ => exact (hQ2'.alloc _).cell 0
    | 2, _ => exact (hQ3.alloc _).cell 0
  rintro e w4 ⟨rfl, hA⟩
  go_wp2
  go_ret
  exact ⟨by rw [HF.out]; rfl, (hUw.alloc _).alike hA⟩
set_option maxHeartbeats 1000000 in
theorem stat_second (x y : Bool) (w : World) :
    Calls Tryz.prog 48 #[.bool x, .bool y] w fun e w' => e = .returned (.int .i64 (second x y)) ∧ Upd none' w w' := by
  have hfin : second x y = sumOf [(2, x), (128, y)] := by cases x <;> cases y <;> rfl
  have HF := Lib.hid hfin
  clear hfin
  go_enter Tryz.func48, Tryz.ntmps48
  go_wp2_with fail
  refine (stat_so 2 x w).mono ?_
  rintro e w1 ⟨p1, q1, rfl, hU1, hp1, hq1, hP1, hQ1⟩
  simp only [closV]
  go_wp2_with fail
  refine (stat_so 128 y w1).mono ?_
  rintro e w2 ⟨p2, q2, rfl, hU2, hp2, hq2, hP2, hQ2⟩
  simp only [closV]
  have hP1' := hP1.upd hU2 (fun f => f)
  have hQ1' := hQ1.upd hU2 (fun f => f)
  have hUw := hU1.trans hU2 (fun _ _ f => f)
  go_wp2_with fail
  have hN := Blk.new w2 [closV p1 q1, closV p2 q2] 106
  refine (stat_sum w2.heap.size 2 [(2, x), (128, y)] [p1, p2] [q1, q2] _ (by simp) (by simp) ?_ ?_ ?_).mono ?_
  · intro j hj
    match j, hj with
    | 0, _ => exact hN.cell 0
    | 1, _ => exact hN.cell 1
  · intro j hj
    match j, hj with
    | 0, _ => exact (hP1'.alloc _).cell 0
    | 1, _ => exact (hP2.alloc _).cell 0
  · intro j hj
    match j, hj with
    | 0, _ => exact (hQ1'.alloc _).cell 0
    | 1, _ => exact (hQ2.alloc _).cell 0
  rintro e w4 ⟨rfl, hA⟩
  go_wp2
  go_ret
  exact ⟨by rw [HF.out]; rfl, (hUw.alloc _).alike hA⟩
end Go.Proofs.YtjdjdfllggpckaaGreat
