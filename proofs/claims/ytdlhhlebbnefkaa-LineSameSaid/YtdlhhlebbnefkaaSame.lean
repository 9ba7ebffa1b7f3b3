/- lichenlaw0.SameInts, SameTexts, SameCache (printed by mk_same.py). -/
import Derived.Test.YtdlhhlebbnefkaaLineC
namespace Go.Proofs.Ytdlhhlebbnefkaa
open Go.RowKit
theorem toList_ne {x y : ByteArray} (h : x ≠ y) : (x.toList == y.toList) = false := by
  rw [beq_eq_false_iff_ne, ByteArray.toList_eq, ByteArray.toList_eq]
  intro e
  apply h
  obtain ⟨⟨x⟩⟩ := x
  obtain ⟨⟨y⟩⟩ := y
  simp only at e
  rw [e]
def sameB {α : Type} [DecidableEq α] (xs ys : List α) : Bool := decide (xs = ys)
theorem same_all {α : Type} [DecidableEq α] [Inhabited α] (d : α) (xs ys : List α) (hl : xs.length = ys.length) (h : ∀ j, j < xs.length → xs.getD j d = ys.getD j d) : sameB xs ys = true := by
  refine decide_eq_true (List.ext_getElem hl fun j h1 h2 => ?_)
  have := h j h1
  simpa [List.getD_eq_getElem?_getD, List.getElem?_eq_getElem h1, List.getElem?_eq_getElem h2] using this
theorem same_not {α : Type} [DecidableEq α] [Inhabited α] (d : α) (xs ys : List α) (j : Nat) (h : xs.getD j d ≠ ys.getD j d) : sameB xs ys = false :=
  decide_eq_false fun e => h (by rw [e])
set_option maxHeartbeats 1000000 in
theorem same_ints (w : World) (v u : Value) (xs ys : List Int) (hv : RS w v (ints xs)) (hu : RS w u (ints ys)) :
    Calls Try.prog 38 #[v, u] w fun e w' => e = .returned (.bool (sameB xs ys)) ∧ Upd none' w w' := by
  obtain ⟨h1, a, cap, rfl, h4, h5⟩ := hv
  obtain ⟨h1', a', cap', rfl, h4', h5'⟩ := hu
  have hlen : (ints xs).length = xs.length := by simp [ints]
  have hlen' : (ints ys).length = ys.length := by simp [ints]
  rw [hlen] at h1 h4 h5
  rw [hlen'] at h1' h4' h5'
  rw [hlen, hlen']
  clear hlen hlen'
  by_cases hl : xs.length = ys.length
  · obtain ⟨n, hn⟩ : ∃ n, ys.length = n := ⟨_, rfl⟩
    rw [hn] at hl h1' h4' h5' ⊢
    rw [hl] at h1 h4 h5 ⊢
    have hxs : xs ≠ [] ∨ n = 0 := by by_cases h : xs = []; exact .inr (by rw [← hl, h]; rfl); exact .inl h
    have hys : ys ≠ [] ∨ n = 0 := by by_cases h : ys = []; exact .inr (by rw [← hn, h]; rfl); exact .inl h
    have HXS := Lib.hid hxs
    have HYS := Lib.hid hys
    clear hxs hys
    have HX := Lib.hid hl
    have HY := Lib.hid hn
    clear hl hn
    go_enter Try.func38, Try.ntmps38
    go_wp2_with fail
    go_loopw [5] (fun iv wr => ∃ i : Nat, i ≤ n ∧ iv = .int .i64 i ∧ Upd none' w wr ∧ ∀ j, j < i → xs.getD j 0 = ys.getD j 0) (fun iv _ => n - (intOf iv).toNat)
    case atStart => exact ⟨0, by omega, rfl, Upd.refl _ _, fun j hj => by omega⟩
    case round =>
      obtain ⟨i, hi, rfl, hU, hno⟩ := hrel
      by_cases hlt : i < n
      · obtain ⟨bb, oo, rfl, hbb, hcc⟩ := h5 (by intro h; rcases HXS.out with e | e; exact e (by simpa [ints] using h); omega)
        obtain ⟨bb', oo', rfl, hbb', hcc'⟩ := h5' (by intro h; rcases HYS.out with e | e; exact e (by simpa [ints] using h); omega)
        have hcell : wr.cell? ⟨bb, oo + i, none⟩ = some (.int .i64 (xs.getD i 0)) := by
          rw [hU.cell (p := ⟨bb, oo + i, none⟩) hbb (fun f => f), hcc i hlt]; simp [ints, List.getD_eq_getElem?_getD, List.getElem?_eq_getElem (show i < xs.length by rw [HX.out]; exact hlt)]
        have hcell' : wr.cell? ⟨bb', oo' + i, none⟩ = some (.int .i64 (ys.getD i 0)) := by
          rw [hU.cell (p := ⟨bb', oo' + i, none⟩) hbb' (fun f => f), hcc' i hlt]; simp [ints, List.getD_eq_getElem?_getD, List.getElem?_eq_getElem (show i < ys.length by rw [HY.out]; exact hlt)]
        clear hcc hcc'
        have HN : Hid (xs.getD i 0 ≠ ys.getD i 0 → sameB xs ys = false) := same_not 0 xs ys i
        have HS : Hid (xs.getD i 0 = ys.getD i 0 → ∀ j, j < i + 1 → xs.getD j 0 = ys.getD j 0) := fun e j hj => by
          rcases Nat.lt_succ_iff_lt_or_eq.1 hj with h | h
          · exact hno j h
          · subst h; exact e
        obtain ⟨x, hx⟩ : ∃ x, xs.getD i 0 = x := ⟨_, rfl⟩
        obtain ⟨y, hy⟩ : ∃ y, ys.getD i 0 = y := ⟨_, rfl⟩
        rw [hx] at hcell HN HS
        rw [hy] at hcell' HN HS
        clear hx hy hno
        by_cases he : x = y
        · subst he
          go_wp2_with fail
          go_region
          all_goals go_wp2
          all_goals exact ⟨⟨i + 1, by omega, by go_num, hU.drew, HS.out trivial⟩, by simp [intOf]; omega⟩
        · have hxy : (x == y) = false := by simpa using he
          go_wp2_with fail
          go_region
          all_goals go_wp2
          all_goals go_ret
          all_goals exact ⟨by rw [HN.out he]; rfl, hU.drew⟩
      · have hieq : i = n := by omega
        subst hieq
        go_wp2
        go_ret
        exact ⟨by rw [same_all 0 xs ys (by rw [HX.out, HY.out]) (fun j hj => hno j (by rw [HX.out] at hj; exact hj))]; rfl, hU⟩
  · have hs : sameB xs ys = false := decide_eq_false fun e => hl (by rw [e])
    have hb : ((xs.length : Int) == (ys.length : Int)) = false := by simp; omega
    have hne : ¬ ((xs.length : Int) = (ys.length : Int)) := by omega
    go_enter Try.func38, Try.ntmps38
    go_wp2
    go_ret
    exact ⟨by rw [hs]; rfl, Upd.refl _ _⟩
set_option maxHeartbeats 1000000 in
theorem same_texts (w : World) (v u : Value) (xs ys : List ByteArray) (hv : RS w v (strs xs)) (hu : RS w u (strs ys)) :
    Calls Try.prog 39 #[v, u] w fun e w' => e = .returned (.bool (sameB xs ys)) ∧ Upd none' w w' := by
  obtain ⟨h1, a, cap, rfl, h4, h5⟩ := hv
  obtain ⟨h1', a', cap', rfl, h4', h5'⟩ := hu
  have hlen : (strs xs).length = xs.length := by simp [strs]
  have hlen' : (strs ys).length = ys.length := by simp [strs]
  rw [hlen] at h1 h4 h5
  rw [hlen'] at h1' h4' h5'
  rw [hlen, hlen']
  clear hlen hlen'
  by_cases hl : xs.length = ys.length
  · obtain ⟨n, hn⟩ : ∃ n, ys.length = n := ⟨_, rfl⟩
    rw [hn] at hl h1' h4' h5' ⊢
    rw [hl] at h1 h4 h5 ⊢
    have hxs : xs ≠ [] ∨ n = 0 := by by_cases h : xs = []; exact .inr (by rw [← hl, h]; rfl); exact .inl h
    have hys : ys ≠ [] ∨ n = 0 := by by_cases h : ys = []; exact .inr (by rw [← hn, h]; rfl); exact .inl h
    have HXS := Lib.hid hxs
    have HYS := Lib.hid hys
    clear hxs hys
    have HX := Lib.hid hl
    have HY := Lib.hid hn
    clear hl hn
    go_enter Try.func39, Try.ntmps39
    go_wp2_with fail
    go_loopw [5] (fun iv wr => ∃ i : Nat, i ≤ n ∧ iv = .int .i64 i ∧ Upd none' w wr ∧ ∀ j, j < i → xs.getD j (⟨#[]⟩ : ByteArray) = ys.getD j (⟨#[]⟩ : ByteArray)) (fun iv _ => n - (intOf iv).toNat)
    case atStart => exact ⟨0, by omega, rfl, Upd.refl _ _, fun j hj => by omega⟩
    case round =>
      obtain ⟨i, hi, rfl, hU, hno⟩ := hrel
      by_cases hlt : i < n
      · obtain ⟨bb, oo, rfl, hbb, hcc⟩ := h5 (by intro h; rcases HXS.out with e | e; exact e (by simpa [strs] using h); omega)
        obtain ⟨bb', oo', rfl, hbb', hcc'⟩ := h5' (by intro h; rcases HYS.out with e | e; exact e (by simpa [strs] using h); omega)
        have hcell : wr.cell? ⟨bb, oo + i, none⟩ = some (.string (xs.getD i (⟨#[]⟩ : ByteArray))) := by
          rw [hU.cell (p := ⟨bb, oo + i, none⟩) hbb (fun f => f), hcc i hlt]; simp [strs, List.getD_eq_getElem?_getD, List.getElem?_eq_getElem (show i < xs.length by rw [HX.out]; exact hlt)]
        have hcell' : wr.cell? ⟨bb', oo' + i, none⟩ = some (.string (ys.getD i (⟨#[]⟩ : ByteArray))) := by
          rw [hU.cell (p := ⟨bb', oo' + i, none⟩) hbb' (fun f => f), hcc' i hlt]; simp [strs, List.getD_eq_getElem?_getD, List.getElem?_eq_getElem (show i < ys.length by rw [HY.out]; exact hlt)]
        clear hcc hcc'
        have HN : Hid (xs.getD i (⟨#[]⟩ : ByteArray) ≠ ys.getD i (⟨#[]⟩ : ByteArray) → sameB xs ys = false) := same_not (⟨#[]⟩ : ByteArray) xs ys i
        have HS : Hid (xs.getD i (⟨#[]⟩ : ByteArray) = ys.getD i (⟨#[]⟩ : ByteArray) → ∀ j, j < i + 1 → xs.getD j (⟨#[]⟩ : ByteArray) = ys.getD j (⟨#[]⟩ : ByteArray)) := fun e j hj => by
          rcases Nat.lt_succ_iff_lt_or_eq.1 hj with h | h
          · exact hno j h
          · subst h; exact e
        obtain ⟨x, hx⟩ : ∃ x, xs.getD i (⟨#[]⟩ : ByteArray) = x := ⟨_, rfl⟩
        obtain ⟨y, hy⟩ : ∃ y, ys.getD i (⟨#[]⟩ : ByteArray) = y := ⟨_, rfl⟩
        rw [hx] at hcell HN HS
        rw [hy] at hcell' HN HS
        clear hx hy hno
        by_cases he : x = y
        · subst he
          go_wp2_with fail
          go_region
          all_goals go_wp2
          all_goals exact ⟨⟨i + 1, by omega, by go_num, hU.drew, HS.out trivial⟩, by simp [intOf]; omega⟩
        · have hxy : (x.toList == y.toList) = false := toList_ne he
          go_wp2_with fail
          go_region
          all_goals go_wp2
          all_goals go_ret
          all_goals exact ⟨by rw [HN.out he]; rfl, hU.drew⟩
      · have hieq : i = n := by omega
        subst hieq
        go_wp2
        go_ret
        exact ⟨by rw [same_all (⟨#[]⟩ : ByteArray) xs ys (by rw [HX.out, HY.out]) (fun j hj => hno j (by rw [HX.out] at hj; exact hj))]; rfl, hU⟩
  · have hs : sameB xs ys = false := decide_eq_false fun e => hl (by rw [e])
    have hb : ((xs.length : Int) == (ys.length : Int)) = false := by simp; omega
    have hne : ¬ ((xs.length : Int) = (ys.length : Int)) := by omega
    go_enter Try.func39, Try.ntmps39
    go_wp2
    go_ret
    exact ⟨by rw [hs]; rfl, Upd.refl _ _⟩
/-- Two caches: the same. -/
def sameC (xs : List Int) (ts : List ByteArray) (nx : Int) (ys : List Int) (us : List ByteArray) (ny : Int) : Bool := sameB xs ys && (sameB ts us && nx == ny)
set_option maxHeartbeats 1000000 in
theorem same_cache (w : World) (a1 a2 a3 a4 : Option Addr) (n1 n2 n3 n4 c1 c2 c3 c4 : Nat) (xs ys : List Int) (ts us : List ByteArray) (nx ny : Int) (h1 : RS w (.slice a1 n1 c1) (ints xs)) (h2 : RS w (.slice a2 n2 c2) (strs ts)) (h3 : RS w (.slice a3 n3 c3) (ints ys)) (h4 : RS w (.slice a4 n4 c4) (strs us)) :
    Calls Try.prog 24 #[.agg #[.slice a1 n1 c1, .slice a2 n2 c2, .int .i64 nx], .agg #[.slice a3 n3 c3, .slice a4 n4 c4, .int .i64 ny]] w fun e w' => e = .returned (.bool (sameC xs ts nx ys us ny)) ∧ Upd none' w w' := by
  obtain ⟨W0, hW0⟩ : ∃ W0, W0 = (w.alloc (.cells #[.slice a1 n1 c1, .slice a2 n2 c2, .int .i64 nx] 42)).alloc (.cells #[.slice a3 n3 c3, .slice a4 n4 c4, .int .i64 ny] 42) := ⟨_, rfl⟩
  have hU0 : Upd none' w W0 := by rw [hW0]; exact ((Upd.refl none' w).alloc _).alloc _
  have hBa : Blk W0 w.heap.size [.slice a1 n1 c1, .slice a2 n2 c2, .int .i64 nx] 42 := by rw [hW0]; exact (Blk.new w _ _).alloc _
  have hBb : Blk W0 (w.heap.size + 1) [.slice a3 n3 c3, .slice a4 n4 c4, .int .i64 ny] 42 := by
    rw [hW0]; have := Blk.new (w.alloc (.cells #[.slice a1 n1 c1, .slice a2 n2 c2, .int .i64 nx] 42)) [.slice a3 n3 c3, .slice a4 n4 c4, .int .i64 ny] 42; simpa using this
  have hi := same_ints W0 _ _ xs ys (h1.upd hU0 (fun _ _ _ f => f)) (h3.upd hU0 (fun _ _ _ f => f))
  have HI := Lib.hid hi
  have HW := Lib.hid hW0
  clear hi hW0
  unfold sameC
  go_enter Try.func24, Try.ntmps24
  go_wp2_with fail
  refine (HW.out ▸ HI.out).mono ?_
  rintro e w1 ⟨rfl, hU1⟩
  have hU1' : Upd none' W0 w1 := HW.out ▸ hU1
  clear HW hU1
  have hBa1 := hBa.upd hU1' (fun f => f)
  have hBb1 := hBb.upd hU1' (fun f => f)
  have k1 := hBa1.cell 1
  have l1 := hBb1.cell 1
  simp only [List.getElem?_cons_zero, List.getElem?_cons_succ] at k1 l1
  have hUw := hU0.trans hU1' (fun _ _ f => f)
  cases hx : sameB xs ys with
  | false =>
    go_wp2
    go_ret
    exact ⟨by rw [hx]; rfl, hUw⟩
  | true =>
    go_wp2_with fail
    refine (same_texts w1 _ _ ts us (h2.upd hUw (fun _ _ _ f => f)) (h4.upd hUw (fun _ _ _ f => f))).mono ?_
    rintro e w2 ⟨rfl, hU2⟩
    have hBa2 := hBa1.upd hU2 (fun f => f)
    have hBb2 := hBb1.upd hU2 (fun f => f)
    have k2 := hBa2.cell 2
    have l2 := hBb2.cell 2
    simp only [List.getElem?_cons_zero, List.getElem?_cons_succ] at k2 l2
    cases ht : sameB ts us with
    | false =>
      go_wp2
      go_ret
      exact ⟨by rw [hx, ht]; rfl, hUw.trans hU2 (fun _ _ f => f)⟩
    | true =>
      go_wp2
      go_ret
      exact ⟨by rw [hx, ht]; rfl, hUw.trans hU2 (fun _ _ f => f)⟩
end Go.Proofs.Ytdlhhlebbnefkaa
