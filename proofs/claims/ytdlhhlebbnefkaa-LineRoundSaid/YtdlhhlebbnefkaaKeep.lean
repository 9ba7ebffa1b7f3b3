/- line.Keep where it keeps. -/
import Derived.Test.YtdlhhlebbnefkaaFind
import Derived.Deep.RegionHeld3
namespace Go.Proofs.Ytdlhhlebbnefkaa
open Go.RowKit
/-- What stands behind the copy: the new cache in block o. -/
def Copied (w1 wx : World) (xs : List Int) (ts : List ByteArray) (nx : Int) (s8 : Value) : Prop :=
  ∃ o v' u', s8 = .pointer (some ⟨o, 0, none⟩) ∧ Blk wx o [v', u', .int .i64 nx] 42 ∧ Row wx 3 v' (ints xs) ∧ Row wx 9 u' (strs ts) ∧
    (∀ k, v'.ownBlock = some k → w1.heap.size ≤ k ∧ k ≠ o) ∧ (∀ k, u'.ownBlock = some k → w1.heap.size ≤ k ∧ k ≠ o ∧ v'.ownBlock ≠ some k) ∧ w1.heap.size ≤ o ∧ Upd none' w1 wx
theorem copied_mk (w1 w33 w34 wx : World) (xs : List Int) (ts : List ByteArray) (nx : Int) (o : Nat) (v' u' : Value) (hb : Blk wx o [v', u', .int .i64 nx] 42) (hR33 : Row w33 3 v' (ints xs)) (hR34 : Row w34 9 u' (strs ts))
    (U33 : Upd (fun k => k = o) w33 wx) (U34 : Upd (fun k => k = o) w34 wx) (U1 : Upd none' w1 wx) (f33 : ∀ k, v'.ownBlock = some k → w1.heap.size ≤ k ∧ k ≠ o) (f34 : ∀ k, u'.ownBlock = some k → w33.heap.size ≤ k ∧ k ≠ o)
    (l33 : ∀ k, v'.ownBlock = some k → k < w33.heap.size) (hs : w1.heap.size ≤ w33.heap.size) (ho : w1.heap.size ≤ o) : Copied w1 wx xs ts nx (.pointer (some ⟨o, 0, none⟩)) :=
  ⟨o, v', u', rfl, hb, hR33.upd U33 (fun k hk => (f33 k hk).2), hR34.upd U34 (fun k hk => (f34 k hk).2), f33,
    fun k hk => ⟨Nat.le_trans hs (f34 k hk).1, (f34 k hk).2, fun e => by have := l33 k e; have := (f34 k hk).1; omega⟩, ho, U1⟩
def keepAt (xs : List Int) (nx a : Int) : Nat := if idx xs a < 0 then nx.toNat else (idx xs a).toNat
/-- What Keep gives: a cache of its own. -/
def KeepPost (w w' : World) (e : Ending) (xs : List Int) (ts : List ByteArray) (nx : Int) : Prop :=
  ∃ v' u', e = .returned (.tuple #[cacheV v' u' nx, .int .i64 0]) ∧ Row w' 3 v' (ints xs) ∧ Row w' 9 u' (strs ts) ∧
    (∀ k, v'.ownBlock = some k → w.heap.size ≤ k) ∧ (∀ k, u'.ownBlock = some k → w.heap.size ≤ k ∧ v'.ownBlock ≠ some k) ∧ Upd none' w w'
theorem Row.set {w : World} {e : TypeId} {v : Value} {xs : List Value} (h : Row w e v xs) (g : Nat) (hg : v.ownBlock = some g) (i : Nat) (_ : i < xs.length) (u : Value) : Row (w.setCell ⟨g, i, none⟩ u) e v (xs.set i u) := by
  obtain ⟨h1, h2⟩ := h
  refine ⟨by simp, ?_⟩
  rcases h2 with ⟨rfl, _⟩ | ⟨g', cap, cur, rfl, hb, hh, r1, r2, r3, r4⟩
  · cases hg
  · simp only [Value.ownBlock, Option.some.injEq] at hg
    subst hg
    refine .inr ⟨g', cap, cur.set! i u, by simp, hb, ?_, by simpa using r1, r2, by simpa using r3, ?_⟩
    · simp only [World.setCell, Array.getElem?_modify, hh]; simp
    · have r5 : xs = cur.toList.take xs.length := by simpa using r4.symm
      refine Eq.trans ?_ (congrArg (fun l => l.set i u) r5).symm
      simp [List.take_set]
/-- Behind the last stores. -/
theorem keep_fin (w wq : World) (g g' z i : Nat) (cv cu : Nat) (xs : List Int) (ts : List ByteArray) (a nx : Int) (s : ByteArray) (y0 y1 y2 : Value) (hz : w.heap.size < z) (hg : z < g) (hg' : z < g') (hgg : g ≠ g') (hi : i < xs.length) (hi' : i < ts.length)
    (hR : Row wq 3 (.slice (some ⟨g, 0, none⟩) 2 cv) (ints xs)) (hR' : Row wq 9 (.slice (some ⟨g', 0, none⟩) 2 cu) (strs ts)) (hB : Blk wq z [y0, y1, y2] 42) (hU : Upd none' w wq) :
    ∀ wf, wf = (((((wq.setCell ⟨g, i, none⟩ (.int .i64 a)).setCell ⟨g', i, none⟩ (.string s)).setCell ⟨z, 0, none⟩ (.slice (some ⟨g, 0, none⟩) 2 cv)).setCell ⟨z, 1, none⟩ (.slice (some ⟨g', 0, none⟩) 2 cu)).setCell ⟨z, 2, none⟩ (.int .i64 nx)).drew →
      Blk wf z [.slice (some ⟨g, 0, none⟩) 2 cv, .slice (some ⟨g', 0, none⟩) 2 cu, .int .i64 nx] 42 ∧ Row wf 3 (.slice (some ⟨g, 0, none⟩) 2 cv) (ints (xs.set i a)) ∧ Row wf 9 (.slice (some ⟨g', 0, none⟩) 2 cu) (strs (ts.set i s)) ∧ Upd none' w wf := by
  rintro wf rfl
  refine ⟨(((((hB.set_ne i _ (by omega)).set_ne i _ (by omega)).set 0 _).set 1 _).set 2 _).drew, ?_, ?_, ?_⟩
  · have h := hR.set g rfl i (by simpa [ints] using hi) (.int .i64 a)
    rw [show (ints xs).set i (.int .i64 a) = ints (xs.set i a) by simp [ints, List.map_set]] at h
    refine h.upd (S := fun k => k = g' ∨ k = z) (((((Upd.refl (fun k => k = g' ∨ k = z) _).setCell ⟨g', i, none⟩ _ (fun _ => .inl rfl)).setCell ⟨z, 0, none⟩ _ (fun _ => .inr rfl)).setCell ⟨z, 1, none⟩ _ (fun _ => .inr rfl)).setCell ⟨z, 2, none⟩ _ (fun _ => .inr rfl)).drew (fun k hk => ?_)
    simp only [Value.ownBlock, Option.some.injEq] at hk
    omega
  · have h0 := hR'.upd (S := fun k => k = g) ((Upd.refl (fun k => k = g) wq).setCell ⟨g, i, none⟩ (.int .i64 a) (fun _ => rfl)) (fun k hk => by simp only [Value.ownBlock, Option.some.injEq] at hk; omega)
    have h := h0.set g' rfl i (by simpa [strs] using hi') (.string s)
    rw [show (strs ts).set i (.string s) = strs (ts.set i s) by simp [strs, List.map_set]] at h
    refine h.upd (S := fun k => k = z) ((((Upd.refl (fun k => k = z) _).setCell ⟨z, 0, none⟩ _ (fun _ => rfl)).setCell ⟨z, 1, none⟩ _ (fun _ => rfl)).setCell ⟨z, 2, none⟩ _ (fun _ => rfl)).drew (fun k hk => ?_)
    simp only [Value.ownBlock, Option.some.injEq] at hk
    omega
  · exact (((((hU.setCell ⟨g, i, none⟩ _ (fun h => absurd h (by dsimp only; omega))).setCell ⟨g', i, none⟩ _ (fun h => absurd h (by dsimp only; omega))).setCell ⟨z, 0, none⟩ _ (fun h => absurd h (by dsimp only; omega))).setCell ⟨z, 1, none⟩ _ (fun h => absurd h (by dsimp only; omega))).setCell ⟨z, 2, none⟩ _ (fun h => absurd h (by dsimp only; omega))).drew
set_option maxHeartbeats 2000000 in
theorem keep_yes (w : World) (v u : Value) (xs : List Int) (ts : List ByteArray) (nx a : Int) (s : ByteArray) (hv : RS w v (ints xs)) (hu : RS w u (strs ts)) (hm : mayB xs ts nx = true) (hb : beginsB a = true) (hs : s.size = 16) :
    Calls Try.prog 20 #[cacheV v u nx, .int .i64 a, .string s] w fun e w' =>
      KeepPost w w' e (xs.set (keepAt xs nx a) a) (ts.set (keepAt xs nx a) s) (if idx xs a < 0 then (nx + 1) % 2 else nx) := by
  have HV := Lib.hid hv
  have HU := Lib.hid hu
  obtain ⟨_, av, cap, rfl, h4, _⟩ := hv
  obtain ⟨_, au, cap', rfl, h4', _⟩ := hu
  have hlen : (ints xs).length = 2 := by
    have h := hm; unfold mayB at h; have := (of_decide_eq_true h).1; simpa [ints] using this
  have hlen' : (strs ts).length = 2 := by
    have h := hm; unfold mayB at h; have := (of_decide_eq_true h).2.1; simpa [strs] using this
  rw [hlen] at HV h4 ⊢
  rw [hlen'] at HU h4' ⊢
  obtain ⟨W0, hW0⟩ : ∃ W0, W0 = (w.alloc (.cells #[.slice av 2 cap, .slice au 2 cap', .int .i64 nx] 42)).alloc (.cells #[.slice none 0 0, .slice none 0 0, .int .i64 0] 42) := ⟨_, rfl⟩
  have hU0 : Upd none' w W0 := by rw [hW0]; exact ((Upd.refl none' w).alloc _).alloc _
  have hBa : Blk W0 w.heap.size [.slice av 2 cap, .slice au 2 cap', .int .i64 nx] 42 := by rw [hW0]; exact (Blk.new w _ _).alloc _
  have hBb : Blk W0 (w.heap.size + 1) [.slice none 0 0, .slice none 0 0, .int .i64 0] 42 := by
    rw [hW0]; have := Blk.new (w.alloc (.cells #[.slice av 2 cap, .slice au 2 cap', .int .i64 nx] 42)) [.slice none 0 0, .slice none 0 0, .int .i64 0] 42; simpa using this
  have hm0 := line_may W0 _ _ xs ts nx (HV.out.upd hU0 (fun _ _ _ f => f)) (HU.out.upd hU0 (fun _ _ _ f => f))
  have HM := Lib.hid hm0
  have hs' : ((s.size : Int) == 16) = true := by simp [hs]
  clear hm0
  have HW := Lib.hid hW0
  clear hW0
  unfold cacheV at HM ⊢
  go_enter Try.func20, Try.ntmps20
  go_wp2_with fail
  refine (HW.out ▸ HM.out).mono ?_
  rintro e w1 ⟨rfl, hU1⟩
  rw [hm]
  obtain ⟨W0', hW0'⟩ : ∃ W0', W0' = (w.alloc (.cells #[.slice av 2 cap, .slice au 2 cap', .int .i64 nx] 42)).alloc (.cells #[.slice none 0 0, .slice none 0 0, .int .i64 0] 42) := ⟨_, rfl⟩
  have hU1' : Upd none' W0 w1 := HW.out ▸ hU1
  have hV1 := (HV.out.upd hU0 (fun _ _ _ f => f)).upd hU1' (fun _ _ _ f => f)
  have hu1 := (HU.out.upd hU0 (fun _ _ _ f => f)).upd hU1' (fun _ _ _ f => f)
  have hBa1 := hBa.upd hU1' (fun f => f)
  have hBb1 := hBb.upd hU1' (fun f => f)
  have hUw : Upd none' w w1 := hU0.trans hU1' (fun _ _ f => f)
  have c0 := hBa1.cell 0
  have c1 := hBa1.cell 1
  have c2 := hBa1.cell 2
  simp only [List.getElem?_cons_zero, List.getElem?_cons_succ] at c0 c1 c2
  have HA1 := Lib.hid hBa1
  have HB1 := Lib.hid hBb1
  have HV1 := Lib.hid hV1
  have HU1 := Lib.hid hu1
  clear hBa hBb hBa1 hBb1 hV1 hu1 hU1 hU1' hW0'
  have hne : xs ≠ [] := by intro h; rw [h] at hlen; cases hlen
  have hne' : ts ≠ [] := by intro h; rw [h] at hlen'; cases hlen'
  have hle : xs.length ≤ 4096 := by have : (ints xs).length = xs.length := by simp [ints]
                                    omega
  have hle' : ts.length ≤ 4096 := by have : (strs ts).length = ts.length := by simp [strs]
                                     omega
  have s1 := HA1.out.lt
  go_upto_region 3 with (go_at_call 32; refine (line_begins w1 a).mono ?_; rintro e w2 ⟨rfl, rfl⟩; rw [hb])
  go_cut [8] (fun s8 wx => Copied w1 wx xs ts nx s8)
  case first =>
    go_region_held3 (fun w' => w'.cell? ⟨w.heap.size, 0, none⟩ = some (.slice av 2 cap) ∧ w'.cell? ⟨w.heap.size, 1, none⟩ = some (.slice au 2 cap') ∧ w'.cell? ⟨w.heap.size, 2, none⟩ = some (.int .i64 nx)) (first | exact ⟨c0, c1, c2⟩ | exact ⟨d0, d1, d2⟩ | exact ⟨e0, e1, e2⟩ | exact ⟨by go_simp, by go_simp, by go_simp⟩)
      (first
      | (go_at_call 33; refine (clone_ints _ _ xs (HV1.out.upd ?hq1 (fun _ _ _ f => f)) hne hle).mono ?_; (case hq1 => (repeat (first | (with_reducible exact Upd.refl _ _) | (with_reducible refine Upd.drew ?_) | (with_reducible refine Upd.alloc ?_ _) | (refine Upd.trans (T := none') ?_ (by assumption) (fun _ _ f => f.elim))))); rintro e w33 ⟨v', rfl, hR33, hf33, hU33⟩; obtain ⟨a33, k33, rfl, -⟩ := hR33.form; have d0 := ((HA1.out).upd (S := none') (w' := w33) (by (repeat (first | (with_reducible exact Upd.refl _ _) | (with_reducible refine Upd.drew ?_) | (with_reducible refine Upd.alloc ?_ _) | (refine Upd.trans (T := none') ?_ (by assumption) (fun _ _ f => f.elim))))) (fun f => f)).cell 0; have d1 := ((HA1.out).upd (S := none') (w' := w33) (by (repeat (first | (with_reducible exact Upd.refl _ _) | (with_reducible refine Upd.drew ?_) | (with_reducible refine Upd.alloc ?_ _) | (refine Upd.trans (T := none') ?_ (by assumption) (fun _ _ f => f.elim))))) (fun f => f)).cell 1; have d2 := ((HA1.out).upd (S := none') (w' := w33) (by (repeat (first | (with_reducible exact Upd.refl _ _) | (with_reducible refine Upd.drew ?_) | (with_reducible refine Upd.alloc ?_ _) | (refine Upd.trans (T := none') ?_ (by assumption) (fun _ _ f => f.elim))))) (fun f => f)).cell 2; simp only [List.getElem?_cons_zero, List.getElem?_cons_succ] at d0 d1 d2; have s33 : w.heap.size < w33.heap.size := ((HA1.out).upd (S := none') (w' := w33) (by (repeat (first | (with_reducible exact Upd.refl _ _) | (with_reducible refine Upd.drew ?_) | (with_reducible refine Upd.alloc ?_ _) | (refine Upd.trans (T := none') ?_ (by assumption) (fun _ _ f => f.elim))))) (fun f => f)).lt; try (have z33 : Hid (Blk w33 w1.heap.size [.slice none 0 0, .slice none 0 0, .int .i64 0] 42) := (Blk.new w1 [.slice none 0 0, .slice none 0 0, .int .i64 0] 42).drew.upd (S := none') hU33 (fun f => f); have q0 := z33.out.cell 0; have q1 := z33.out.cell 1; have q2 := z33.out.cell 2; have r0 := z33.out.frozen 0; have r1 := z33.out.frozen 1; have r2 := z33.out.frozen 2; have s33' := z33.out.lt; simp only [List.getElem?_cons_zero, List.getElem?_cons_succ] at q0 q1 q2))
      | (go_at_call 34; refine (clone_strs _ _ ts (HU1.out.upd ?hq1 (fun _ _ _ f => f)) hne' hle').mono ?_; (case hq1 => (repeat (first | (with_reducible exact Upd.refl _ _) | (with_reducible refine Upd.drew ?_) | (with_reducible refine Upd.alloc ?_ _) | (refine Upd.trans (T := none') ?_ (by assumption) (fun _ _ f => f.elim))))); rintro e w34 ⟨u', rfl, hR34, hf34, hU34⟩; obtain ⟨a34, k34, rfl, -⟩ := hR34.form; have e0 := ((HA1.out).upd (S := none') (w' := w34) (by (repeat (first | (with_reducible exact Upd.refl _ _) | (with_reducible refine Upd.drew ?_) | (with_reducible refine Upd.alloc ?_ _) | (refine Upd.trans (T := none') ?_ (by assumption) (fun _ _ f => f.elim))))) (fun f => f)).cell 0; have e1 := ((HA1.out).upd (S := none') (w' := w34) (by (repeat (first | (with_reducible exact Upd.refl _ _) | (with_reducible refine Upd.drew ?_) | (with_reducible refine Upd.alloc ?_ _) | (refine Upd.trans (T := none') ?_ (by assumption) (fun _ _ f => f.elim))))) (fun f => f)).cell 1; have e2 := ((HA1.out).upd (S := none') (w' := w34) (by (repeat (first | (with_reducible exact Upd.refl _ _) | (with_reducible refine Upd.drew ?_) | (with_reducible refine Upd.alloc ?_ _) | (refine Upd.trans (T := none') ?_ (by assumption) (fun _ _ f => f.elim))))) (fun f => f)).cell 2; simp only [List.getElem?_cons_zero, List.getElem?_cons_succ] at e0 e1 e2; have s34 : w.heap.size < w34.heap.size := ((HA1.out).upd (S := none') (w' := w34) (by (repeat (first | (with_reducible exact Upd.refl _ _) | (with_reducible refine Upd.drew ?_) | (with_reducible refine Upd.alloc ?_ _) | (refine Upd.trans (T := none') ?_ (by assumption) (fun _ _ f => f.elim))))) (fun f => f)).lt; first | (have z34 : Hid (Blk w34 w1.heap.size [.slice none 0 0, .slice none 0 0, .int .i64 0] 42) := z33.out.upd (S := none') hU34 (fun f => f); have q0 := z34.out.cell 0; have q1 := z34.out.cell 1; have q2 := z34.out.cell 2; have r0 := z34.out.frozen 0; have r1 := z34.out.frozen 1; have r2 := z34.out.frozen 2; have s34' := z34.out.lt; simp only [List.getElem?_cons_zero, List.getElem?_cons_succ] at q0 q1 q2) | (have z34 : Hid (Blk w34 w33.heap.size [.slice none 0 0, .slice none 0 0, .int .i64 0] 42) := (Blk.new w33 [.slice none 0 0, .slice none 0 0, .int .i64 0] 42).upd (S := none') hU34 (fun f => f); have q0 := z34.out.cell 0; have q1 := z34.out.cell 1; have q2 := z34.out.cell 2; have r0 := z34.out.frozen 0; have r1 := z34.out.frozen 1; have r2 := z34.out.frozen 2; have s34' := z34.out.lt; simp only [List.getElem?_cons_zero, List.getElem?_cons_succ] at q0 q1 q2) | skip))
    all_goals
      have L33 := hR33.lt
      have L34 := hR34.lt
      have Z33 := hU33.size
      have Z34 := hU34.size
      simp only [heap_drew, World.size_alloc] at Z33 Z34 hf33 hf34
      clear c0 c1 c2 d0 d1 d2 e0 e1 e2
    all_goals (rw [hlen] at hR33 hf33 L33; rw [hlen'] at hR34 hf34 L34)
    · have U1 : Upd none' w1 w33 := (Upd.refl none' w1).drew.trans hU33 (fun _ _ f => f)
      have U2 : Upd none' w33 w34 := hU34
      clear hU33 hU34
      go_wp2_with fail
      go_meet
      exact copied_mk w1 w33 w34 _ xs ts nx w34.heap.size _ _ (Blk.new w34 [_, _, _] _) hR33 hR34 ((U2.mono (fun _ _ f => f.elim)).alloc _) ((Upd.refl _ w34).alloc _) ((U1.trans U2 (fun _ _ f => f)).alloc _) (fun k hk => ⟨hf33 k hk, by have := L33 k hk; omega⟩) (fun k hk => ⟨hf34 k hk, by have := L34 k hk; omega⟩) L33 Z33 (by omega)
    · have U1 : Upd none' w1 w33 := (Upd.refl none' w1).drew.trans hU33 (fun _ _ f => f)
      have U2 : Upd none' w33 w34 := ((Upd.refl none' w33).alloc _).trans hU34 (fun _ _ f => f)
      clear hU33 hU34
      go_wp2_with fail
      go_meet
      exact copied_mk w1 w33 w34 _ xs ts nx w33.heap.size _ _ (((z34.out.set 0 _).set 1 _).set 2 _) hR33 hR34 ((((Upd.mono (T := fun k => k = w33.heap.size) U2 (fun _ _ f => f.elim)).setCell ⟨w33.heap.size, 0, none⟩ _ (fun _ => rfl)).setCell ⟨w33.heap.size, 1, none⟩ _ (fun _ => rfl)).setCell ⟨w33.heap.size, 2, none⟩ _ (fun _ => rfl))
        ((((Upd.refl (fun k => k = w33.heap.size) w34).setCell ⟨w33.heap.size, 0, none⟩ _ (fun _ => rfl)).setCell ⟨w33.heap.size, 1, none⟩ _ (fun _ => rfl)).setCell ⟨w33.heap.size, 2, none⟩ _ (fun _ => rfl))
        ((((U1.trans U2 (fun _ _ f => f)).setCell ⟨w33.heap.size, 0, none⟩ _ (fun h => absurd h (by dsimp only; omega))).setCell ⟨w33.heap.size, 1, none⟩ _ (fun h => absurd h (by dsimp only; omega))).setCell ⟨w33.heap.size, 2, none⟩ _ (fun h => absurd h (by dsimp only; omega)))
        (fun k hk => ⟨hf33 k hk, by have := L33 k hk; omega⟩) (fun k hk => ⟨by have := hf34 k hk; omega, by have := hf34 k hk; omega⟩) L33 Z33 (by omega)
    · have U1 : Upd none' w1 w33 := ((Upd.refl none' w1).alloc _).drew.trans hU33 (fun _ _ f => f)
      have U2 : Upd none' w33 w34 := hU34
      clear hU33 hU34
      go_wp2_with fail
      go_meet
      exact copied_mk w1 w33 w34 _ xs ts nx w1.heap.size _ _ (((z34.out.set 0 _).set 1 _).set 2 _) hR33 hR34 ((((Upd.mono (T := fun k => k = w1.heap.size) U2 (fun _ _ f => f.elim)).setCell ⟨w1.heap.size, 0, none⟩ _ (fun _ => rfl)).setCell ⟨w1.heap.size, 1, none⟩ _ (fun _ => rfl)).setCell ⟨w1.heap.size, 2, none⟩ _ (fun _ => rfl))
        ((((Upd.refl (fun k => k = w1.heap.size) w34).setCell ⟨w1.heap.size, 0, none⟩ _ (fun _ => rfl)).setCell ⟨w1.heap.size, 1, none⟩ _ (fun _ => rfl)).setCell ⟨w1.heap.size, 2, none⟩ _ (fun _ => rfl))
        ((((U1.trans U2 (fun _ _ f => f)).setCell ⟨w1.heap.size, 0, none⟩ _ (fun h => absurd h (by dsimp only; omega))).setCell ⟨w1.heap.size, 1, none⟩ _ (fun h => absurd h (by dsimp only; omega))).setCell ⟨w1.heap.size, 2, none⟩ _ (fun h => absurd h (by dsimp only; omega)))
        (fun k hk => ⟨by have := hf33 k hk; omega, by have := hf33 k hk; omega⟩) (fun k hk => ⟨hf34 k hk, by have := hf34 k hk; omega⟩) L33 (by omega) (by omega)
  case rest =>
    obtain ⟨o, v', u', rfl, hB, hR, hR', hf, hf', ho, hU⟩ := hcut
    have hdis : v'.ownBlock ≠ some o := fun h => (hf o h).2 rfl
    have hdis' : u'.ownBlock ≠ some o := fun h => (hf' o h).2.1 rfl
    obtain ⟨av', cv, rfl, hc1, hn1, hs1⟩ := hR.form
    obtain ⟨au', cu, rfl, hc2, hn2, hs2⟩ := hR'.form
    cases av' with
    | none => exact absurd (hn1 rfl).1 (by simpa [ints] using hne)
    | some ad =>
    cases au' with
    | none => exact absurd (hn2 rfl).1 (by simpa [strs] using hne')
    | some ad' =>
    obtain ⟨g, rfl, hog, hgs, hgc, hgf⟩ := hs1 ad rfl
    obtain ⟨g', rfl, hog', hgs', hgc', hgf'⟩ := hs2 ad' rfl
    obtain ⟨hmb1, hmb2, hmb3, hmb4, -, -⟩ : xs.length = 2 ∧ ts.length = 2 ∧ 0 ≤ nx ∧ nx < 2 ∧ _ ∧ _ := by
      have h := hm; unfold mayB at h; exact of_decide_eq_true h
    have hgo : g ≠ o := fun e => hdis (by rw [hog, e])
    have hgo' : g' ≠ o := fun e => hdis' (by rw [hog', e])
    have hgg : g ≠ g' := fun e => (hf' g' hog').2.2 (by rw [hog, e])
    have hge := (hf g hog).1
    have hge' := (hf' g' hog').1
    have hl1 : ∀ i, i < 2 → wc.cell? ⟨g, i, none⟩ = some (.int .i64 (xs.getD i 0)) := fun i hi => by
      rw [hgc i (by rw [hlen]; exact hi)]; simp [ints, List.getD_eq_getElem?_getD, List.getElem?_eq_getElem (show i < xs.length by omega)]
    have hl2 : ∀ i, i < 2 → wc.cell? ⟨g', i, none⟩ = some (.string (ts.getD i ⟨#[]⟩)) := fun i hi => by
      rw [hgc' i (by rw [hlen']; exact hi)]; simp [strs, List.getD_eq_getElem?_getD, List.getElem?_eq_getElem (show i < ts.length by omega)]
    rw [hlen] at hR
    rw [hlen'] at hR'
    have hBa := HA1.out.upd hU (fun f => f)
    have hBb := HB1.out.upd hU (fun f => f)
    have k0 := hB.cell 0
    have k1 := hB.cell 1
    have k2 := hB.cell 2
    have f2 := hB.frozen 2
    have j0 := hBa.cell 0
    have j2 := hBa.cell 2
    have m0 := hBb.cell 0
    have m1 := hBb.cell 1
    have m2 := hBb.cell 2
    have y0 := hBb.frozen 0
    have y1 := hBb.frozen 1
    have y2 := hBb.frozen 2
    have sb := HB1.out.lt
    have hoa : w.heap.size ≠ o := by omega
    have hob : w.heap.size + 1 ≠ o := by omega
    have hga : w.heap.size ≠ g := by omega
    have hgb : w.heap.size + 1 ≠ g := by omega
    have hga' : w.heap.size ≠ g' := by omega
    have hgb' : w.heap.size + 1 ≠ g' := by omega
    simp only [List.getElem?_cons_zero, List.getElem?_cons_succ, hlen, hlen'] at k0 k1 k2 j0 j2 m0 m1 m2
    have HL1 := Lib.hid hl1
    have HL2 := Lib.hid hl2
    have HG1 := Lib.hid hgf
    have HG2 := Lib.hid hgf'
    clear hl1 hl2 hgc hgc' hgf hgf' hs1 hs2 hn1 hn2 c0 c1 c2 hf hf' hog hog' hdis hdis'
    rcases idx_spec xs a with hy | ⟨i, hi, hy, hxi⟩
    · obtain ⟨i, hi, rfl⟩ : ∃ i : Nat, i < 2 ∧ nx = (i : Int) := ⟨nx.toNat, by omega, by omega⟩
      have hl1 := HL1.out i hi
      have hl2 := HL2.out i hi
      have q1 := HG1.out i
      have q2 := HG2.out i
      have hi' : (i : Int) < 2 := by omega
      obtain ⟨n, hn⟩ : ∃ n : Int, ((i : Int) + 1) % 2 = n := ⟨_, rfl⟩
      have htm : ((i : Int) + 1).tmod 2 = n := by rw [Int.tmod_eq_emod_of_nonneg (by omega)]; exact hn
      have hsum : IntKind.i64.wrap ((i : Int) + 1) = (i : Int) + 1 := IntWalk.i64_in _ (by omega)
      go_wp2_with (go_at_call 35; refine (slices_index _ _ xs (HV1.out.upd hU (fun _ _ _ f => f)) a).mono ?_; rintro e w2 ⟨rfl, rfl⟩; rw [hy])
      go_region
      all_goals go_wp2
      all_goals
        obtain ⟨wf, hwf⟩ : ∃ wf, wf = ((((((wc.setCell ⟨o, 2, none⟩ (.int .i64 n)).setCell ⟨g, i, none⟩ (.int .i64 a)).setCell ⟨g', i, none⟩ (.string s)).setCell ⟨w.heap.size + 1, 0, none⟩ (.slice (some ⟨g, 0, none⟩) 2 cv)).setCell ⟨w.heap.size + 1, 1, none⟩ (.slice (some ⟨g', 0, none⟩) 2 cu)).setCell ⟨w.heap.size + 1, 2, none⟩ (.int .i64 n)).drew := ⟨_, rfl⟩
        rw [← hwf]
        obtain ⟨z1, z2, z3, z4⟩ := keep_fin w (wc.setCell ⟨o, 2, none⟩ (.int .i64 n)) g g' (w.heap.size + 1) i cv cu xs ts a n s _ _ _ (by omega) (by omega) (by omega) hgg (by omega) (by omega) (hR.upd (S := fun k => k = o) ((Upd.refl (fun k => k = o) wc).setCell ⟨o, 2, none⟩ _ (fun _ => rfl)) (fun k hk => by simp only [Value.ownBlock, Option.some.injEq] at hk; omega)) (hR'.upd (S := fun k => k = o) ((Upd.refl (fun k => k = o) wc).setCell ⟨o, 2, none⟩ _ (fun _ => rfl)) (fun k hk => by simp only [Value.ownBlock, Option.some.injEq] at hk; omega)) (hBb.set_ne 2 _ hob) ((hUw.trans hU (fun _ _ f => f)).setCell ⟨o, 2, none⟩ _ (fun h => absurd h (by dsimp only; omega))) wf hwf
        have x0 := z1.cell 0
        have x1 := z1.cell 1
        have x2 := z1.cell 2
        simp only [List.getElem?_cons_zero, List.getElem?_cons_succ] at x0 x1 x2
        clear hwf
        refine bodyPost_ret (v := .tuple #[.agg #[.slice (some ⟨g, 0, none⟩) 2 cv, .slice (some ⟨g', 0, none⟩) 2 cu, .int .i64 n], .int .i64 0]) (by simp [results, Try.results20, go_sem, x0, x1, x2]) rfl ?_
        rw [show keepAt xs (i : Int) a = i by unfold keepAt; rw [hy, if_pos (by decide)]; simp]
        try rw [if_neg (by omega)]
        exact ⟨_, _, rfl, z2, z3, fun k hk => by simp only [Value.ownBlock, Option.some.injEq] at hk; omega, fun k hk => ⟨by simp only [Value.ownBlock, Option.some.injEq] at hk; omega, fun h => by simp only [Value.ownBlock, Option.some.injEq] at hk h; omega⟩, z4⟩
    · rw [hmb1] at hi
      have hl1 := HL1.out i hi
      have hl2 := HL2.out i hi
      have q1 := HG1.out i
      have q2 := HG2.out i
      have hi' : (i : Int) < 2 := by omega
      go_wp2_with (go_at_call 35; refine (slices_index _ _ xs (HV1.out.upd hU (fun _ _ _ f => f)) a).mono ?_; rintro e w2 ⟨rfl, rfl⟩; rw [hy])
      go_region
      all_goals go_wp2
      all_goals
        obtain ⟨wf, hwf⟩ : ∃ wf, wf = (((((wc.setCell ⟨g, i, none⟩ (.int .i64 a)).setCell ⟨g', i, none⟩ (.string s)).setCell ⟨w.heap.size + 1, 0, none⟩ (.slice (some ⟨g, 0, none⟩) 2 cv)).setCell ⟨w.heap.size + 1, 1, none⟩ (.slice (some ⟨g', 0, none⟩) 2 cu)).setCell ⟨w.heap.size + 1, 2, none⟩ (.int .i64 nx)).drew := ⟨_, rfl⟩
        rw [← hwf]
        obtain ⟨z1, z2, z3, z4⟩ := keep_fin w wc g g' (w.heap.size + 1) i cv cu xs ts a nx s _ _ _ (by omega) (by omega) (by omega) hgg (by omega) (by omega) hR hR' hBb (hUw.trans hU (fun _ _ f => f)) wf hwf
        have x0 := z1.cell 0
        have x1 := z1.cell 1
        have x2 := z1.cell 2
        simp only [List.getElem?_cons_zero, List.getElem?_cons_succ] at x0 x1 x2
        clear hwf
        refine bodyPost_ret (v := .tuple #[.agg #[.slice (some ⟨g, 0, none⟩) 2 cv, .slice (some ⟨g', 0, none⟩) 2 cu, .int .i64 nx], .int .i64 0]) (by simp [results, Try.results20, go_sem, x0, x1, x2]) rfl ?_
        rw [show keepAt xs nx a = i by unfold keepAt; rw [hy, if_neg (by omega)]; simp]
        try rw [if_neg (by omega)]
        exact ⟨_, _, rfl, z2, z3, fun k hk => by simp only [Value.ownBlock, Option.some.injEq] at hk; omega, fun k hk => ⟨by simp only [Value.ownBlock, Option.some.injEq] at hk; omega, fun h => by simp only [Value.ownBlock, Option.some.injEq] at hk h; omega⟩, z4⟩
end Go.Proofs.Ytdlhhlebbnefkaa
