/- lichenlaw0's Num, SameInts; a literal row that is read. -/
import Derived.Test.YteombggfmeilaaaGreatLow
import Derived.Lib.SliceRun
namespace Go.Proofs.YteombggfmeilaaaGreat
open Go.RowKit
theorem num_any (n : Int) (w : World) :
    Calls Tryz.prog 16 #[.int .i64 n] w fun e w' => e = .returned (.int .i64 n) ∧ w = w' := by
  go_enter Tryz.func16, Tryz.ntmps16
  go_wp2
  go_ret
  exact ⟨rfl, rfl⟩
theorem rs_lit (W : World) (xs : List Int) (h : xs.length ≤ 1048576) : RS (W.alloc (.cells (ints xs).toArray 3)) (.slice (some ⟨W.heap.size, 0, none⟩) xs.length xs.length) (ints xs) := by
  have hl := ints_len xs
  refine ⟨by omega, some ⟨W.heap.size, 0, none⟩, xs.length, by rw [hl], by omega, fun _ => ⟨W.heap.size, 0, rfl, by simp, fun j hj => ?_⟩⟩
  rw [Nat.zero_add]
  exact (Blk.new W (ints xs) 3).cell j
def sameB {α : Type} [DecidableEq α] (xs ys : List α) : Bool := decide (xs = ys)
theorem same_all {α : Type} [DecidableEq α] [Inhabited α] (d : α) (xs ys : List α) (hl : xs.length = ys.length) (h : ∀ j, j < xs.length → xs.getD j d = ys.getD j d) : sameB xs ys = true := by
  refine decide_eq_true (List.ext_getElem hl fun j h1 h2 => ?_)
  have := h j h1
  simpa [List.getD_eq_getElem?_getD, List.getElem?_eq_getElem h1, List.getElem?_eq_getElem h2] using this
theorem same_not {α : Type} [DecidableEq α] [Inhabited α] (d : α) (xs ys : List α) (j : Nat) (h : xs.getD j d ≠ ys.getD j d) : sameB xs ys = false :=
  decide_eq_false fun e => h (by rw [e])
set_option maxHeartbeats 1000000 in
theorem same_ints (w : World) (v u : Value) (xs ys : List Int) (hv : RS w v (ints xs)) (hu : RS w u (ints ys)) :
    Calls Tryz.prog 33 #[v, u] w fun e w' => e = .returned (.bool (sameB xs ys)) ∧ Upd none' w w' := by
  obtain ⟨h1, a, cap, rfl, h4, h5⟩ := hv
  obtain ⟨h1', a', cap', rfl, h4', h5'⟩ := hu
  have hlen : (ints xs).length = xs.length := by simp [ints]
  have hlen' : (ints ys).length = ys.length := by simp [ints]
  rw [hlen] at h1 h4 h5
  rw [hlen'] at h1' h4' h5'
  rw [hlen, hlen']
  clear hlen hlen'
  by_cases hl : xs.length = ys.length
  · obtain ⟨n, hn⟩ : ∃ n, ys.length = n := ⟨_, rfl⟩
    rw [hn] at hl h1' h4' h5' ⊢
    rw [hl] at h1 h4 h5 ⊢
    have hxs : xs ≠ [] ∨ n = 0 := by by_cases h : xs = []; exact .inr (by rw [← hl, h]; rfl); exact .inl h
    have hys : ys ≠ [] ∨ n = 0 := by by_cases h : ys = []; exact .inr (by rw [← hn, h]; rfl); exact .inl h
    have HXS := Lib.hid hxs
    have HYS := Lib.hid hys
    clear hxs hys
    have HX := Lib.hid hl
    have HY := Lib.hid hn
    clear hl hn
    go_enter Tryz.func33, Tryz.ntmps33
    go_wp2_with fail
    go_loopw [5] (fun iv wr => ∃ i : Nat, i ≤ n ∧ iv = .int .i64 i ∧ Upd none' w wr ∧ ∀ j, j < i → xs.getD j 0 = ys.getD j 0) (fun iv _ => n - (intOf iv).toNat)
    case atStart => exact ⟨0, by omega, rfl, Upd.refl _ _, fun j hj => by omega⟩
    case round =>
      obtain ⟨i, hi, rfl, hU, hno⟩ := hrel
      by_cases hlt : i < n
      · obtain ⟨bb, oo, rfl, hbb, hcc⟩ := h5 (by intro h; rcases HXS.out with e | e; exact e (by simpa [ints] using h); omega)
        obtain ⟨bb', oo', rfl, hbb', hcc'⟩ := h5' (by intro h; rcases HYS.out with e | e; exact e (by simpa [ints] using h); omega)
        have hcell : wr.cell? ⟨bb, oo + i, none⟩ = some (.int .i64 (xs.getD i 0)) := by
          rw [hU.cell (p := ⟨bb, oo + i, none⟩) hbb (fun f => f), hcc i hlt]; simp [ints, List.getD_eq_getElem?_getD, List.getElem?_eq_getElem (show i < xs.length by rw [HX.out]; exact hlt)]
        have hcell' : wr.cell? ⟨bb', oo' + i, none⟩ = some (.int .i64 (ys.getD i 0)) := by
          rw [hU.cell (p := ⟨bb', oo' + i, none⟩) hbb' (fun f => f), hcc' i hlt]; simp [ints, List.getD_eq_getElem?_getD, List.getElem?_eq_getElem (show i < ys.length by rw [HY.out]; exact hlt)]
        clear hcc hcc'
        have HN : Hid (xs.getD i 0 ≠ ys.getD i 0 → sameB xs ys = false) := same_not 0 xs ys i
        have HS : Hid (xs.getD i 0 = ys.getD i 0 → ∀ j, j < i + 1 → xs.getD j 0 = ys.getD j 0) := fun e j hj => by
          rcases Nat.lt_succ_iff_lt_or_eq.1 hj with h | h
          · exact hno j h
          · subst h; exact e
        obtain ⟨x, hx⟩ : ∃ x, xs.getD i 0 = x := ⟨_, rfl⟩
        obtain ⟨y, hy⟩ : ∃ y, ys.getD i 0 = y := ⟨_, rfl⟩
        rw [hx] at hcell HN HS
        rw [hy] at hcell' HN HS
        clear hx hy hno
        by_cases he : x = y
        · subst he
          go_wp2_with fail
          go_region
          all_goals go_wp2
          all_goals exact ⟨⟨i + 1, by omega, by go_num, hU.drew, HS.out trivial⟩, by simp [intOf]; omega⟩
        · have hxy : (x == y) = false := by simpa using he
          go_wp2_with fail
          go_region
          all_goals go_wp2
          all_goals go_ret
          all_goals exact ⟨by rw [HN.out he]; rfl, hU.drew⟩
      · have hieq : i = n := by omega
        subst hieq
        go_wp2
        go_ret
        exact ⟨by rw [same_all 0 xs ys (by rw [HX.out, HY.out]) (fun j hj => hno j (by rw [HX.out] at hj; exact hj))]; rfl, hU⟩
  · have hs : sameB xs ys = false := decide_eq_false fun e => hl (by rw [e])
    have hb : ((xs.length : Int) == (ys.length : Int)) = false := by simp; omega
    have hne : ¬ ((xs.length : Int) = (ys.length : Int)) := by omega
    go_enter Tryz.func33, Tryz.ntmps33
    go_wp2
    go_ret
    exact ⟨by rw [hs]; rfl, Upd.refl _ _⟩
theorem RS.drop {w : World} {g o n c : Nat} {vs : List Value} (h : RS w (.slice (some ⟨g, o, none⟩) n c) vs) (k : Nat) (hk : k ≤ n) : RS w (.slice (some ⟨g, o + k, none⟩) (n - k) (c - k)) (vs.drop k) := by
  obtain ⟨h1, a, cap, e, h4, h5⟩ := h
  simp only [Value.slice.injEq] at e
  obtain ⟨rfl, rfl, rfl⟩ := e
  refine ⟨by rw [List.length_drop]; omega, some ⟨g, o + k, none⟩, c - k, by rw [List.length_drop], by rw [List.length_drop]; omega, fun hn => ?_⟩
  obtain ⟨b, o', e2, h7, h8⟩ := h5 (by intro h; rw [h] at hn; simp at hn)
  simp only [Option.some.injEq, Addr.mk.injEq] at e2
  obtain ⟨rfl, rfl, _⟩ := e2
  refine ⟨g, o + k, rfl, h7, fun j hj => ?_⟩
  rw [List.length_drop] at hj
  rw [List.getElem?_drop, show o + k + j = o + (k + j) by omega]
  exact h8 (k + j) (by omega)
end Go.Proofs.YteombggfmeilaaaGreat
