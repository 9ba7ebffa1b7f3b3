/- Slices that are lent; what a chip tells of its erases, as a row that may be written over. -/
import Derived.Test.YteombggfmeilaaaGreatLend
import Derived.Test.YteombggfmeilaaaGreatNextA
import Derived.Test.YteombggfmeilaaaGreatLaw0
import Derived.Test.YteombggfmeilaaaGreatChipWp
namespace Go.Proofs.YteombggfmeilaaaGreat
open Go.RowKit
theorem copy_ints (w : World) (a : Option Addr) (n c : Nat) (xs : List Int) (h : RS w (.slice a n c) (ints xs)) (hn : a = none → c = 0) :
    Calls Tryz.prog 102 #[.slice a n c] w fun e w' => ∃ v', e = .returned v' ∧ Row w' 3 v' (ints xs) ∧ (∀ k, v'.ownBlock = some k → w.heap.size ≤ k) ∧ Upd none' w w' := by
  have hb : (ints xs).length * 8 ≤ 140737488351232 := h.1
  have HR := Lib.hid (h.upd ((Upd.refl none' w).alloc (.cells #[] 3)) (fun _ _ _ f => f))
  clear h
  go_enter Tryz.func102, Tryz.ntmps102
  go_wp2_with (at_builtin; go_must (refine wpList_appRSL rfl _ _ 33 rfl 3 (.int .i64 0) 8 Tryz.underlying33 info_int rfl w.heap.size (.slice (some ⟨w.heap.size, 0, none⟩) 0 0) rfl (own_empty w 3) _ _ _ rfl (ints xs) HR.out hn (ints_one xs) (by omega) (by omega) (by simp) ?_); intro v' w1 hO1 hU1)
  have hU1' : Upd none' w w1 := ((Upd.refl none' w).alloc _).trans hU1 (fun k h1 h2 => by simp [Value.ownBlock] at h2; omega)
  obtain ⟨hR1, hbase⟩ := Row.of_own hO1
  go_ret
  exact ⟨_, rfl, hR1, hbase, hU1'⟩
theorem lit_news (w1 : World) (vs : List Value) (t : TypeId) : ∀ j u, vs[j]? = some u → (w1.alloc (.cells vs.toArray t)).cell? ((⟨w1.heap.size, 0, none⟩ : Addr).add j) = some u := by
  intro j u hu
  have ea : (⟨w1.heap.size, 0, none⟩ : Addr).add j = ⟨w1.heap.size, 0 + j, none⟩ := by unfold Addr.add; split <;> simp_all
  rw [ea, Nat.zero_add, (Blk.new w1 vs t).cell j]
  exact hu
set_option maxRecDepth 100000 in
set_option maxHeartbeats 1000000 in
theorem lend_ints (w : World) (a : Option Addr) (n c : Nat) (xs : List Int) (h : RS w (.slice a n c) (ints xs)) (hn : a = none → c = 0) :
    Calls Tryz.prog 23 #[.slice a n c] w fun e w' => ∃ g cap, e = .returned (.slice (some ⟨g, 0, none⟩) n cap) ∧ n + 2 ≤ cap ∧ RS w' (.slice (some ⟨g, 0, none⟩) n cap) (ints xs) ∧ RS w' (.slice (some ⟨g, n, none⟩) 2 (cap - n)) (ints [-7777, -8888]) ∧ Mk w' (.slice (some ⟨g, 0, none⟩) n cap) ∧ w.heap.size ≤ g ∧ g < w'.heap.size ∧ Upd none' w w' := by
  have hl := h.len
  have hcl := copy_ints w a n c xs h hn
  have hil : (ints xs).length = n := hl.1.symm
  have hb : n * 8 ≤ 140737488351232 := by have := h.1; rw [hil] at this; exact this
  have HC := Lib.hid hcl
  have HIL := Lib.hid hil
  clear hcl h hl hil
  go_enter Tryz.func23, Tryz.ntmps23
  go_upto_region 2 with (first | (at_builtin; go_must (refine wpList_app rfl _ _ 33 rfl 3 (.int .i64 0) 8 Tryz.underlying33 info_int rfl _ (ints xs) rfl HR2.out ⟨w1.heap.size, 0, none⟩ 2 2 (ints [-7777, -8888]) rfl rfl (lit_news w1 (ints [-7777, -8888]) 3) (ints_one _) (by decide) (by have := HIL.out; omega) (by decide) (by have := HIL.out; omega) ?_); intro g cap w3 hR3 hU3 hg3 hgs3) | (go_at_call 102; refine HC.out.mono ?_; rintro e w1 ⟨v', rfl, hR1, hf1, hU1⟩; obtain ⟨va, vc, rfl, -⟩ := hR1.form; have HR2 := Lib.hid (hR1.upd ((Upd.refl none' w1).alloc (.cells #[.int .i64 (-7777), .int .i64 (-8888)] 3)) (fun _ _ f => f)); have HF1 := Lib.hid hf1; have HU1 := Lib.hid hU1; clear hR1 hf1 hU1))
  have hil := HIL.out
  rw [hil] at hR3 ⊢
  have hg : w.heap.size ≤ g := by
    rcases hg3 with e | e
    · exact HF1.out g e
    · have := HU1.out.size; rw [e, World.size_alloc]; omega
  have hU : Upd none' w w3 := (HU1.out.alloc _).trans hU3 (fun k h1 h2 => absurd (HF1.out k h2) (by omega))
  have hal : (ints xs ++ ints [-7777, -8888]).length = n + 2 := by rw [List.length_append, hil]; rfl
  have hf := hR3.form
  obtain ⟨ao, cap', e3, hcap, -, h7⟩ := hf
  simp only [Value.slice.injEq] at e3
  obtain ⟨rfl, hlen, rfl⟩ := e3
  rw [hal] at hcap
  obtain ⟨g', e9, -, -, h10, -⟩ := h7 _ rfl
  simp only [Addr.mk.injEq, and_true] at e9
  subst e9
  have HCELL : ∀ j, j < n + 2 → w3.cell? ⟨g, j, none⟩ = (ints xs ++ ints [-7777, -8888])[j]? := fun j hj => h10 j (by rw [hal]; exact hj)
  have hlc : (n : Int) ≤ (cap : Int) := by omega
  have HHC := Lib.hid (And.intro hcap HCELL)
  clear hcap hal h7 h10 HCELL hlen
  go_wp2
  go_ret
  obtain ⟨hcap, HCELL⟩ := HHC.out
  refine ⟨g, cap, rfl, by omega, ?_, ?_, ?_, hg, hgs3, hU⟩
  · have := HCELL
    refine ⟨by rw [hil]; omega, some ⟨g, 0, none⟩, cap, by rw [hil], by rw [hil]; omega, fun _ => ⟨g, 0, rfl, hgs3, fun j hj => ?_⟩⟩
    rw [Nat.zero_add, this j (by rw [hil] at hj; omega), List.getElem?_append_left hj]
  · have := HCELL
    refine ⟨by decide, some ⟨g, n, none⟩, cap - n, rfl, by simp only [ints_len, List.length_cons, List.length_nil]; omega, fun _ => ⟨g, n, rfl, hgs3, fun j hj => ?_⟩⟩
    have hj2 : j < 2 := hj
    rw [this (n + j) (by omega), List.getElem?_append_right (by rw [hil]; omega), hil, Nat.add_sub_cancel_left]
  · intro k hk j
    exact hR3.mk k hk j
set_option maxRecDepth 100000 in
set_option maxHeartbeats 1000000 in
theorem kept_ints (w : World) (g n cap : Nat) (xs : List Int) (v : Value) (h1 : RS w (.slice (some ⟨g, 0, none⟩) n cap) (ints xs)) (h : RS w (.slice (some ⟨g, n, none⟩) 2 (cap - n)) (ints [-7777, -8888])) (hcap : n + 2 ≤ cap) (hv : RS w v (ints xs)) :
    Calls Tryz.prog 26 #[.slice (some ⟨g, 0, none⟩) n cap, v] w fun e w' => e = .returned (.bool true) ∧ Upd none' w w' := by
  have hl := h1.len
  rw [ints_len] at hl
  have hln : xs.length = n := hl.1.symm
  have hb : n * 8 ≤ 140737488351232 := by have := h1.1; rw [ints_len, hln] at this; exact this
  obtain ⟨g', o', e, hg, hc⟩ := h.cells (by omega)
  simp only [Option.some.injEq, Addr.mk.injEq, and_true] at e
  obtain ⟨rfl, rfl⟩ := e
  have c1 : w.cell? ⟨g, n, none⟩ = some (.int .i64 (-7777)) := hc 0 (by omega)
  have c2 : w.cell? ⟨g, n + 1, none⟩ = some (.int .i64 (-8888)) := hc 1 (by omega)
  have hs := same_ints w _ v xs xs h1 hv
  rw [show sameB xs xs = true from decide_eq_true rfl] at hs
  have HS := Lib.hid hs
  have HV : Hid (∀ W, Upd none' w W → W.cell? ⟨g, n, none⟩ = some (.int .i64 (-7777)) ∧ W.cell? ⟨g, n + 1, none⟩ = some (.int .i64 (-8888))) := Lib.hid (fun W u => ⟨(u.cell (p := ⟨g, n, none⟩) hg (fun f => f)).trans c1, (u.cell (p := ⟨g, n + 1, none⟩) hg (fun f => f)).trans c2⟩)
  obtain ⟨_, va, vc, rfl, -⟩ := hv
  rw [ints_len, hln] at HS ⊢
  have hw1 : IntKind.i64.wrap ((n : Int) + 2) = ((n + 2 : Nat) : Int) := by rw [IntWalk.i64_in _ (by omega)]; omega
  have hw2 : IntKind.i64.wrap ((n : Int) + 1) = ((n + 1 : Nat) : Int) := by rw [IntWalk.i64_in _ (by omega)]; omega
  have hle : ((n + 2 : Nat) : Int) ≤ (cap : Int) := by omega
  clear hl hc h h1 hs c1 c2
  go_enter Tryz.func26, Tryz.ntmps26
  go_wp2_with (go_at_call 33; refine HS.out.mono ?_; rintro e w2 ⟨rfl, hU2⟩; obtain ⟨c1, c2⟩ := HV.out _ hU2)
  go_ret
  exact ⟨rfl, hU2⟩
/-- A second row of a row's block. -/
theorem Ctx.twin {P Q : Own} {w0 w : World} {rows : List (Value × List Value)} {v1 v : Value} {vs1 vs : List Value} (h : Ctx P Q w0 w ((v1, vs1) :: rows)) (hr : RS w v vs) (hb : v.ownBlock = v1.ownBlock) : Ctx P Q w0 w ((v1, vs1) :: (v, vs) :: rows) := by
  obtain ⟨S, h1, h2, h3⟩ := h.all
  obtain ⟨g1, g2, g3⟩ := h3 _ List.mem_cons_self
  refine ⟨h.okP, h.okQ, h.upd, S, h1, h2, fun r hm => ?_⟩
  rcases List.mem_cons.1 hm with rfl | hm
  · exact ⟨g1, g2, g3⟩
  · rcases List.mem_cons.1 hm with rfl | hm
    · exact ⟨hr, fun k hk => g2 k (hb ▸ hk), fun k hk => g3 k (hb ▸ hk)⟩
    · exact h3 r (List.mem_cons_of_mem _ hm)
/-- What a chip tells of its erases: a row of the call's own. -/
theorem c_wipesN {Q : Own} {w0 w : World} {b : Nat} {s : St} {N : Int} {rows : List (Value × List Value)} (hC : Ctx (ChipP b s N) Q w0 w rows) :
    Calls Tryz.prog 32 #[.pointer (some ⟨b, 0, none⟩)] w fun e w' => ∃ a' c', e = .returned (.slice a' 8 c') ∧ (∀ k, (Value.slice a' 8 c').ownBlock = some k → w0.heap.size ≤ k) ∧ (∀ r ∈ rows, ∀ k, r.1.ownBlock = some k → (Value.slice a' 8 c').ownBlock ≠ some k) ∧ Ctx (ChipP b s N) Q w0 w' ((.slice a' 8 c', ints s.wipesL) :: rows) := by
  obtain ⟨R, hB, hback⟩ := Ctx.base (rowsA := []) (rowsB := rows) hC (fun r hr => by cases hr) (fun r hr => by cases hr)
  refine (c_wipes hB _ rfl).mono ?_
  rintro e w' ⟨a', c', rfl, -, hC2⟩
  obtain ⟨h1, h2⟩ := hback _ _ _ hC2
  exact ⟨a', c', rfl, fun k hk => (h1 _ List.mem_cons_self k hk).1, fun r hr k hk e => (h1 _ List.mem_cons_self k e).2 r hr hk, h2⟩
end Go.Proofs.YteombggfmeilaaaGreat
