/- The document's commands: lichenref1.OpOf, lichenref9.FindOp. · The document's commands: bytesMay, commandMay. · The walks over lichenref9.Command (printed by gen_rcmd.py). · A chip on wires with a command's form beside it: the document's commands, driven. -/
import Derived.Test.YteombggfmeilaaaGreatTabC
import Derived.Test.YteombggfmeilaaaGreatPure
import Derived.Test.YteombggfmeilaaaGreatWireH
import Derived.Test.YteombggfmeilaaaGreatCtlB
import Derived.Test.YteombggfmeilaaaGreatReads
namespace Go.Proofs.YteombggfmeilaaaGreat
open Go.RowKit
set_option maxHeartbeats 1000000 in
theorem rop_of (c : Int) (hc : opIs c = true) (w : World) :
    Calls Tryz.prog 117 #[.int .i64 c] w fun e w' => e = .returned (.tuple #[.agg (opOf c).cells, .int .i64 0]) ∧ Upd none' w w' := by
  · have h0 := hc
    simp only [opIs, decide_eq_true_eq] at h0
    rcases h0 with rfl | rfl | rfl | rfl | rfl | rfl | rfl | rfl | rfl | rfl | rfl | rfl | rfl | rfl
    all_goals clear hc
    all_goals go_enter Tryz.func117, Tryz.ntmps117
    all_goals go_wp2
    all_goals
      refine bodyPost_ret (v := .tuple #[.agg (opOf _).cells, .int .i64 0]) (by simp [results, Tryz.results117, go_sem, opOf, POp.cells]) rfl ⟨rfl, ?_⟩
      repeat (first | exact Upd.refl _ _ | apply Upd.alloc | apply Upd.drew | (refine Upd.setCell ?_ _ _ (fun hk => by simp at hk)))
theorem rop_of_no (c : Int) (hc : opIs c = false) (w : World) :
    Calls Tryz.prog 117 #[.int .i64 c] w fun e w' => e = .returned (.tuple #[.agg op0.cells, .int .i64 400]) ∧ Upd none' w w' := by
  · have hd := hc
    simp only [opIs, decide_eq_false_iff_not, not_or] at hd
    obtain ⟨h1, h2, h3, h4, h5, h6, h7, h8, h9, h10, h11, h12, h13, h14⟩ := hd
    clear hc
    have g1 : (c == 1) = false := by simpa using h1
    have g2 : (c == 2) = false := by simpa using h2
    have g3 : (c == 3) = false := by simpa using h3
    have g4 : (c == 4) = false := by simpa using h4
    have g5 : (c == 5) = false := by simpa using h5
    have g6 : (c == 6) = false := by simpa using h6
    have g7 : (c == 32) = false := by simpa using h7
    have g8 : (c == 53) = false := by simpa using h8
    have g9 : (c == 90) = false := by simpa using h9
    have g10 : (c == 107) = false := by simpa using h10
    have g11 : (c == 117) = false := by simpa using h11
    have g12 : (c == 122) = false := by simpa using h12
    have g13 : (c == 159) = false := by simpa using h13
    have g14 : (c == 235) = false := by simpa using h14
    clear h1 h2 h3 h4 h5 h6 h7 h8 h9 h10 h11 h12 h13 h14
    go_enter Tryz.func117, Tryz.ntmps117
    go_wp2
    refine bodyPost_ret (v := .tuple #[.agg op0.cells, .int .i64 400]) (by simp [results, Tryz.results117, go_sem, POp.cells, op0]) rfl ⟨rfl, ?_⟩
    repeat (first | exact Upd.refl _ _ | apply Upd.alloc | apply Upd.drew | (refine Upd.setCell ?_ _ _ (fun hk => by simp at hk)))
set_option maxHeartbeats 2000000 in
theorem rfind (c : Int) (hc : opIs c = true) (w : World) :
    Calls Tryz.prog 38 #[.int .i64 c] w fun e w' => e = .returned (.tuple #[.agg (opOf c).cells, .int .i64 0]) ∧ Upd none' w w' := by
  have hof := rop_of c hc
  obtain ⟨o, ho⟩ : ∃ o, opOf c = o := ⟨_, rfl⟩
  rw [ho] at hof ⊢
  obtain ⟨by', ad, mo, du, da, inn⟩ := o
  unfold POp.cells at hof ⊢
  dsimp only at hof ⊢
  clear ho
  go_enter Tryz.func38, Tryz.ntmps38
  go_wp2_with (go_at_call 117; refine (hof _).mono ?_; rintro e w1 ⟨rfl, hU1⟩; have hb := (Blk.new w [.int .i64 0, .int .i64 0, .bool false, .int .i64 0, .int .i64 0, .bool false] 52).upd hU1 (fun f => f); have c0 := hb.cell 0; have f0 := hb.frozen 0; have c1 := hb.cell 1; have f1 := hb.frozen 1; have c2 := hb.cell 2; have f2 := hb.frozen 2; have c3 := hb.cell 3; have f3 := hb.frozen 3; have c4 := hb.cell 4; have f4 := hb.frozen 4; have c5 := hb.cell 5; have f5 := hb.frozen 5; simp only [List.getElem?_cons_succ, List.getElem?_cons_zero] at c0 c1 c2 c3 c4 c5; have HU1 := Lib.hid hU1; have hlt1 := hb.lt; have HB := Lib.hid hb; clear hb hU1)
  clear c0 c1 c2 c3 c4 c5 f0 f1 f2 f3 f4 f5
  have hno : w.heap.size < w.heap.size → none' w.heap.size := fun h => absurd h (Nat.lt_irrefl _)
  have HU1' := ((Upd.refl none' w).alloc (.cells #[.int .i64 0, .int .i64 0, .bool false, .int .i64 0, .int .i64 0, .bool false] 52)).trans HU1.out (fun _ _ f => f)
  have hb2 := ((((((HB.out.set 0 (.int .i64 by')).set 1 (.int .i64 ad)).set 2 (.bool mo)).set 3 (.int .i64 du)).set 4 (.int .i64 da)).set 5 (.bool inn)).alloc (.cells #[.int .i64 by', .int .i64 ad, .bool mo, .int .i64 du, .int .i64 da, .bool inn] 52)
  have hu2 := ((((((HU1'.setCell ⟨w.heap.size, 0, none⟩ (.int .i64 by') hno).setCell ⟨w.heap.size, 1, none⟩ (.int .i64 ad) hno).setCell ⟨w.heap.size, 2, none⟩ (.bool mo) hno).setCell ⟨w.heap.size, 3, none⟩ (.int .i64 du) hno).setCell ⟨w.heap.size, 4, none⟩ (.int .i64 da) hno).setCell ⟨w.heap.size, 5, none⟩ (.bool inn) hno).alloc (.cells #[.int .i64 by', .int .i64 ad, .bool mo, .int .i64 du, .int .i64 da, .bool inn] 52)
  have d0 := hb2.cell 0
  have d1 := hb2.cell 1
  have d2 := hb2.cell 2
  have d3 := hb2.cell 3
  have d4 := hb2.cell 4
  have d5 := hb2.cell 5
  simp only [List.set_cons_zero, List.set_cons_succ, List.getElem?_cons_succ, List.getElem?_cons_zero] at d0 d1 d2 d3 d4 d5
  clear hb2 hno HU1' hlt1
  refine bodyPost_ret (v := .tuple #[.agg #[.int .i64 by', .int .i64 ad, .bool mo, .int .i64 du, .int .i64 da, .bool inn], .int .i64 0]) ?_ rfl ⟨rfl, hu2⟩
  generalize ((((((w1.setCell ⟨w.heap.size, 0, none⟩ (.int .i64 by')).setCell ⟨w.heap.size, 1, none⟩ (.int .i64 ad)).setCell ⟨w.heap.size, 2, none⟩ (.bool mo)).setCell ⟨w.heap.size, 3, none⟩ (.int .i64 du)).setCell ⟨w.heap.size, 4, none⟩ (.int .i64 da)).setCell ⟨w.heap.size, 5, none⟩ (.bool inn)).alloc (.cells #[.int .i64 by', .int .i64 ad, .bool mo, .int .i64 du, .int .i64 da, .bool inn] 52) = W at *
  clear hu2
  simp [results, Tryz.results38, go_sem, d0, d1, d2, d3, d4, d5]
set_option maxHeartbeats 2000000 in
theorem rfind_no (c : Int) (hc : opIs c = false) (w : World) :
    Calls Tryz.prog 38 #[.int .i64 c] w fun e w' => e = .returned (.tuple #[.agg op0.cells, .int .i64 900]) ∧ Upd none' w w' := by
  have hof := rop_of_no c hc
  have hcells : op0.cells = #[.int .i64 0, .int .i64 0, .bool false, .int .i64 0, .int .i64 0, .bool false] := rfl
  rw [hcells] at hof ⊢
  clear hcells
  go_enter Tryz.func38, Tryz.ntmps38
  go_wp2_with (go_at_call 117; refine (hof _).mono ?_; rintro e w1 ⟨rfl, hU1⟩; have hb := (Blk.new w [.int .i64 0, .int .i64 0, .bool false, .int .i64 0, .int .i64 0, .bool false] 52).upd hU1 (fun f => f); have c0 := hb.cell 0; have f0 := hb.frozen 0; have c1 := hb.cell 1; have f1 := hb.frozen 1; have c2 := hb.cell 2; have f2 := hb.frozen 2; have c3 := hb.cell 3; have f3 := hb.frozen 3; have c4 := hb.cell 4; have f4 := hb.frozen 4; have c5 := hb.cell 5; have f5 := hb.frozen 5; simp only [List.getElem?_cons_succ, List.getElem?_cons_zero] at c0 c1 c2 c3 c4 c5; have HU1 := Lib.hid hU1; have hlt1 := hb.lt; have HB := Lib.hid hb; clear hb hU1)
  clear c0 c1 c2 c3 c4 c5 f0 f1 f2 f3 f4 f5
  have hno : w.heap.size < w.heap.size → none' w.heap.size := fun h => absurd h (Nat.lt_irrefl _)
  have HU1' := ((Upd.refl none' w).alloc (.cells #[.int .i64 0, .int .i64 0, .bool false, .int .i64 0, .int .i64 0, .bool false] 52)).trans HU1.out (fun _ _ f => f)
  have hb2 := ((((((HB.out.set 0 (.int .i64 0)).set 1 (.int .i64 0)).set 2 (.bool false)).set 3 (.int .i64 0)).set 4 (.int .i64 0)).set 5 (.bool false)).alloc (.cells #[.int .i64 0, .int .i64 0, .bool false, .int .i64 0, .int .i64 0, .bool false] 52)
  have hu2 := ((((((HU1'.setCell ⟨w.heap.size, 0, none⟩ (.int .i64 0) hno).setCell ⟨w.heap.size, 1, none⟩ (.int .i64 0) hno).setCell ⟨w.heap.size, 2, none⟩ (.bool false) hno).setCell ⟨w.heap.size, 3, none⟩ (.int .i64 0) hno).setCell ⟨w.heap.size, 4, none⟩ (.int .i64 0) hno).setCell ⟨w.heap.size, 5, none⟩ (.bool false) hno).alloc (.cells #[.int .i64 0, .int .i64 0, .bool false, .int .i64 0, .int .i64 0, .bool false] 52)
  have d0 := hb2.cell 0
  have d1 := hb2.cell 1
  have d2 := hb2.cell 2
  have d3 := hb2.cell 3
  have d4 := hb2.cell 4
  have d5 := hb2.cell 5
  simp only [List.set_cons_zero, List.set_cons_succ, List.getElem?_cons_succ, List.getElem?_cons_zero] at d0 d1 d2 d3 d4 d5
  clear hb2 hno HU1' hlt1
  refine bodyPost_ret (v := .tuple #[.agg #[.int .i64 0, .int .i64 0, .bool false, .int .i64 0, .int .i64 0, .bool false], .int .i64 900]) ?_ rfl ⟨rfl, hu2⟩
  generalize ((((((w1.setCell ⟨w.heap.size, 0, none⟩ (.int .i64 0)).setCell ⟨w.heap.size, 1, none⟩ (.int .i64 0)).setCell ⟨w.heap.size, 2, none⟩ (.bool false)).setCell ⟨w.heap.size, 3, none⟩ (.int .i64 0)).setCell ⟨w.heap.size, 4, none⟩ (.int .i64 0)).setCell ⟨w.heap.size, 5, none⟩ (.bool false)).alloc (.cells #[.int .i64 0, .int .i64 0, .bool false, .int .i64 0, .int .i64 0, .bool false] 52) = W at *
  clear hu2
  simp [results, Tryz.results38, go_sem, d0, d1, d2, d3, d4, d5]
end Go.Proofs.YteombggfmeilaaaGreat
namespace Go.Proofs.YteombggfmeilaaaGreat
open Go.RowKit
set_option maxHeartbeats 1000000 in
theorem rbytes (w : World) (v : Value) (xs : List Int) (h : RS w v (ints xs)) :
    Calls Tryz.prog 169 #[v] w fun e w' => e = .returned (.bool (xs.all byteB)) ∧ w = w' := by
  obtain ⟨h1, a, cap, rfl, h4, h5⟩ := h
  rw [ints_len] at h1 h4 h5 ⊢
  obtain ⟨n, hn⟩ : ∃ n, xs.length = n := ⟨_, rfl⟩
  rw [hn] at h1 h4 h5 ⊢
  have HX := Lib.hid hn
  have H5 := Lib.hid h5
  clear hn h5
  go_enter Tryz.func169, Tryz.ntmps169
  go_wp2
  go_loopw [3] (fun iv wr => ∃ i : Nat, i ≤ n ∧ iv = .int .i64 (i : Int) ∧ Hid (w = wr) ∧ Hid (∀ j, j < i → byteB (xs.getD j 0) = true)) (fun iv _ => n - (intOf iv).toNat)
  case atStart => exact ⟨0, by omega, rfl, Lib.hid rfl, Lib.hid fun j hj => by omega⟩
  case round =>
    obtain ⟨i, hi, rfl, hw, hall⟩ := hrel
    have hww := hw.out
    subst hww
    clear hw
    by_cases hlt : i < n
    · obtain ⟨bb, oo, rfl, hbb, hcc⟩ := H5.out (by intro h; have h2 := HX.out; have h3 := congrArg List.length h; rw [ints_len] at h3; change xs.length = 0 at h3; omega)
      obtain ⟨x, hx⟩ : ∃ x, xs.getD i 0 = x := ⟨_, rfl⟩
      have hcell := hcc i hlt
      rw [ints_at _ _ (by rw [HX.out]; exact hlt), hx] at hcell
      have HS : Hid (byteB x = true → ∀ j, j < i + 1 → byteB (xs.getD j 0) = true) := Lib.hid (fun e j hj => by
        rcases Nat.lt_succ_iff_lt_or_eq.1 hj with h | h
        · exact hall.out j h
        · subst h; rw [hx]; exact e)
      have HF : Hid (byteB x = false → xs.all byteB = false) := Lib.hid (fun e => by
        have hl : i < xs.length := by rw [HX.out]; exact hlt
        cases h : xs.all byteB with
        | false => rfl
        | true =>
          rw [List.all_eq_true] at h
          have := h _ (List.getElem_mem hl)
          rw [List.getD_eq_getElem?_getD, List.getElem?_eq_getElem hl] at hx
          rw [show xs[i] = x from hx, e] at this
          cases this)
      clear hcc hx hall hbb
      by_cases hlo : x < 0
      · go_wp2
        go_ret
        exact ⟨by rw [HF.out (decide_eq_false (by omega))]; rfl, rfl⟩
      · have hlo2 : 0 ≤ x := by omega
        by_cases hhi : 255 < x
        · go_wp2
          go_ret
          exact ⟨by rw [HF.out (decide_eq_false (by omega))]; rfl, rfl⟩
        · have hhi2 : x ≤ 255 := by omega
          go_wp2
          refine ⟨?rel, ?measure⟩
          case rel => exact ⟨i + 1, by omega, by go_num, Lib.hid (by first | rfl | trivial), Lib.hid (HS.out (decide_eq_true (by omega)))⟩
          case measure => simp [intOf]; omega
    · obtain rfl : i = n := by omega
      have hend : xs.all byteB = true := by
        rw [List.all_eq_true]
        intro y hy
        obtain ⟨j, hj, rfl⟩ := List.mem_iff_getElem.1 hy
        have := hall.out j (by rw [← HX.out]; exact hj)
        rw [List.getD_eq_getElem?_getD, List.getElem?_eq_getElem hj] at this
        exact this
      clear hall
      go_wp2
      go_ret
      exact ⟨by rw [hend]; rfl, rfl⟩
theorem Blk.twice {w : World} {b : Nat} {cs : List Value} {T : TypeId} (h : Blk w b cs T) : Blk (w.alloc (.cells cs.toArray T)) b cs T := h.alloc _
theorem op_byte (c : Int) (hc : opIs c = true) : (opOf c).byte = c := by
  simp only [opIs, decide_eq_true_eq] at hc
  rcases hc with rfl | rfl | rfl | rfl | rfl | rfl | rfl | rfl | rfl | rfl | rfl | rfl | rfl | rfl
  all_goals kernel_rfl
set_option maxRecDepth 100000 in
set_option maxHeartbeats 4000000 in
theorem rmay (w : World) (c : Int) (hc : opIs c = true) (k : Int) (a : Option Addr) (cp : Nat) (data : List Int) (hd : RS w (.slice a data.length cp) (ints data)) (read : Int) (hmay : cmdMay (opOf c) k data read = true) :
    Calls Tryz.prog 118 #[.agg (opOf c).cells, .int .i64 k, .slice a data.length cp, .int .i64 read] w fun e w' => e = .returned (.bool true) ∧ Upd none' w w' := by
  have hby := op_byte c hc
  have hof := rop_of c hc
  unfold cmdMay at hmay
  simp only [Bool.and_eq_true, decide_eq_true_eq, Bool.not_eq_true', Bool.and_eq_false_imp] at hmay
  obtain ⟨⟨⟨⟨⟨hk, hk0⟩, hlen⟩, hbs⟩, hr⟩, hfit⟩ := hmay
  have HBY : Hid (∀ w', Upd none' w w' → Calls Tryz.prog 169 #[.slice a data.length cp] w' fun e w2 => e = .returned (.bool true) ∧ w' = w2) := Lib.hid (fun w' hU => by
    have := rbytes w' _ data (hd.upd hU (fun _ _ _ f => f))
    rw [hbs] at this
    exact this)
  obtain ⟨o, ho⟩ : ∃ o, opOf c = o := ⟨_, rfl⟩
  rw [ho] at hof hk0 hfit hby ⊢
  obtain ⟨by', ad, mo, du, da, inn⟩ := o
  unfold POp.cells at hof ⊢
  unfold fitsB at hfit
  dsimp only at hof hk0 hfit hby ⊢
  subst hby
  obtain ⟨hka, hkb⟩ := hk
  obtain ⟨hra, hrb⟩ := hr
  have hAD : ad = 0 ∧ k = 0 ∨ ad ≠ 0 := by
    by_cases h : ad = 0
    · exact .inl ⟨h, by have := hk0 h; simpa using this⟩
    · exact .inr h
  have HOF := Lib.hid hof
  have hlenI : (data.length : Int) ≤ 512 := by omega
  clear hk0 hof ho hbs hd hc
  obtain ⟨n, hn⟩ : ∃ n, data.length = n := ⟨_, rfl⟩
  rw [hn] at HBY hlen hlenI hfit ⊢
  clear hn
  have hform : da = 0 ∧ n = 0 ∧ read = 0 ∨ da ≠ 0 ∧ inn = true ∧ read = 0 ∨ da ≠ 0 ∧ inn = false ∧ mo = true ∧ n = 1 ∨ da ≠ 0 ∧ inn = false ∧ mo = false ∧ n = 0 := by
    by_cases h1 : da = 0
    · rw [if_pos h1] at hfit
      simp at hfit
      exact .inl ⟨h1, by omega, hfit.2⟩
    · rw [if_neg h1] at hfit
      cases inn with
      | true =>
        rw [if_pos rfl] at hfit
        exact .inr (.inl ⟨h1, rfl, by simpa using hfit⟩)
      | false =>
        rw [if_neg (by decide)] at hfit
        cases mo with
        | true =>
          rw [if_pos rfl] at hfit
          have := of_decide_eq_true hfit
          exact .inr (.inr (.inl ⟨h1, rfl, rfl, by omega⟩))
        | false =>
          rw [if_neg (by decide)] at hfit
          have := of_decide_eq_true hfit
          exact .inr (.inr (.inr ⟨h1, rfl, rfl, by omega⟩))
  clear hfit hlen
  rcases hAD with ⟨rfl, rfl⟩ | hAD <;> rcases hform with ⟨rfl, rfl, rfl⟩ | ⟨hda, rfl, rfl⟩ | ⟨hda, rfl, rfl, rfl⟩ | ⟨hda, rfl, rfl, rfl⟩
  all_goals
    go_enter Tryz.func118, Tryz.ntmps118
    obtain ⟨kb, hkb⟩ : ∃ kb, w.heap.size = kb := ⟨_, rfl⟩
    go_upto_region 2 with (go_at_call 117; refine (HOF.out _).mono ?_; rintro e w1 ⟨rfl, hU1⟩; have hb1 := Blk.upd (Blk.new w _ _) hU1 (fun f => f); have hUw := ((Upd.refl none' w).alloc _).trans hU1 (fun _ _ f => f); clear hU1; rw [hkb] at hb1)
    have hb2 := hb1.twice
    have c0 := hb2.cell 0
    have c1 := hb2.cell 1
    have c2 := hb2.cell 2
    have c3 := hb2.cell 3
    have c4 := hb2.cell 4
    have c5 := hb2.cell 5
    simp only [List.getElem?_cons_succ, List.getElem?_cons_zero] at c0 c1 c2 c3 c4 c5
    have HB2 := Lib.hid (fun o => HBY.out _ (hUw.alloc o))
    clear hb1 hb2 HOF
    go_wp2_with (go_at_call 169; refine (HB2.out _).mono ?_; rintro e w2 ⟨rfl, rfl⟩)
    go_ret
    exact ⟨rfl, hUw.alloc _⟩
end Go.Proofs.YteombggfmeilaaaGreat
namespace Go.Proofs.YteombggfmeilaaaGreat
open Go.RowKit
/-- 'append([]int{}, news...)' at a step of a region that draws its order. -/
theorem step_appE {w : World} {ops : Array Oper} {o : Oper} {a : Act} {K : Act → World → Prop} {Q : Exit → Act → World → Prop} {E : Prop} (hgd : o.guard = none) (s x : Operand)
    (ho : o.op = .call { callee := .builtin .append, args := #[s, x], argTypes := #[33, 33] })
    (w0 : World) (hA : w.Alike (w0.alloc (.cells #[] 3))) (hs : a.eval s = .slice (some ⟨w0.heap.size, 0, none⟩) 0 0)
    (ao : Option Addr) (c : Nat) (news : List Int) (hx : a.eval x = .slice ao news.length c) (hr : RS w0 (.slice ao news.length c) (ints news)) (hne : news ≠ []) (hlen : news.length ≤ 512)
    (h : ∀ va vc w', Row w' 3 (.slice va news.length vc) (ints news) → (∀ k, (Value.slice va news.length vc).ownBlock = some k → w0.heap.size ≤ k ∧ k < w'.heap.size) → Upd none' w0 w' → K (a.put o.dst (.slice va news.length vc)) w') :
    if Region.wanted o (yielded ops a.tmps) = true then Oper.wp Tryz.prog o a w K Q else E := by
  obtain ⟨_, a', cap, e1, _, h5⟩ := hr
  simp only [Value.slice.injEq] at e1
  obtain ⟨rfl, -, rfl⟩ := e1
  obtain ⟨i0, hi0, hz0, hz1, hz2⟩ := info_parts info_int
  have hU : Upd none' w0 w := ((Upd.refl none' w0).alloc _).alike hA
  obtain ⟨b, oo, e2, hb, hcell⟩ := h5 (by intro h; have h2 := congrArg List.length h; rw [ints_len] at h2; exact hne (List.eq_nil_of_length_eq_zero h2))
  subst e2
  have hpos := List.length_pos_iff.2 hne
  have hown : w.ownsRow 0 3 1 (.slice (some ⟨w0.heap.size, 0, none⟩) 0 0) 0 [] := own_upd (Row.of_own (own_empty w0 3)).1 ((Upd.refl none' _).alike hA) (fun _ _ f => f)
  refine step_append_lies w hgd s x 33 ho 0 3 i0 (.int .i64 0) 1 8 Tryz.underlying33 hi0 hz0 hz1 hz2 rfl (by decide) _ 0 [] hs hown ⟨b, oo, none⟩ news.length _ (ints news) hx (by rw [ints_len, Nat.mul_one]) ?_ (ints_one news) hpos (by unfold maxLen; omega) (by omega) (Nat.zero_le _) w.heap.size rfl ?_
  · intro j u hu
    have hj : j < news.length := by have := (List.getElem?_eq_some_iff.1 hu).1; rw [ints_len] at this; exact this
    have ea : (⟨b, oo, none⟩ : Addr).add j = ⟨b, oo + j, none⟩ := by unfold Addr.add; split <;> simp_all
    rw [ea, hU.cell (p := ⟨b, oo + j, none⟩) hb (fun f => f), hcell j (by rw [ints_len]; exact hj), hu]
  · intro g cp w' h2 h3 h4 h5
    rw [Nat.zero_add] at h2 ⊢
    rw [List.nil_append, ← ints_len news] at h2
    obtain ⟨hRow, -⟩ := Row.of_own h2
    rw [ints_len] at hRow
    refine h _ _ w' hRow (fun k hk => ?_) ?_
    · simp only [Value.ownBlock, Option.some.injEq] at hk
      subst hk
      refine ⟨?_, h5⟩
      rcases h4 with h4 | h4
      · simp only [Value.ownBlock, Option.some.injEq] at h4
        omega
      · rw [h4]
        exact hU.size
    · exact hU.trans ((Upd.refl (fun k => k = w0.heap.size) w).grown h3 (fun k hk _ => by simp only [Value.ownBlock, Option.some.injEq] at hk; exact hk.symm)) (fun k h1 h2 => by omega)

set_option maxRecDepth 100000 in
set_option maxHeartbeats 8000000 in
theorem rcmd_000n0 {P Q : Own} (hQ : Q.Ok) {w0 w : World} {rows : List (Value × List Value)} (hC : Ctx P Q w0 w rows) (o : POp) (hop : opOf o.byte = o) (hoi : opIs o.byte = true) (k : Int) (a : Option Addr) (c : Nat) (data : List Int) (hd : (.slice a data.length c, ints data) ∈ rows) (_ : data.length ≤ 512) (read : Int) (hmay : cmdMay o k data read = true) (hA : o.addr = 0) (hk0 : k = 0) (hM : o.mode = false) (hD : o.dummy = 0) (hI : o.inn = false) (hR : read = 0) :
    Calls Tryz.prog 39 #[.agg o.cells, .int .i64 k, .slice a data.length c, .int .i64 read] w fun e w' => ∃ g m cap L rows', e = .returned (.tuple #[.slice (some ⟨g, 0, none⟩) m cap, .int .i64 0]) ∧ L.map Prod.fst = cmdPhs o k data read ∧ Ctx P Q w0 w' (rows' ++ rows) ∧ PhsV (rows' ++ rows) (.slice (some ⟨g, 0, none⟩) m cap) L := by
  have hres : cmdPhs o k data read = [⟨1, [o.byte], 0, 0⟩] := by
    unfold cmdPhs
    rw [if_neg (show ¬ 0 < o.addr by omega), if_neg (show ¬ o.mode = true by rw [hM]; decide), if_neg (show ¬ 0 < o.dummy by omega), if_neg (show ¬ (o.inn = true ∧ data ≠ []) by rw [hI]; simp), if_neg (show ¬ 0 < read by omega)]
    rfl
  have hmy := fun w1 hrs => rmay w1 o.byte hoi k a c data hrs read (by rw [hop]; exact hmay)
  rw [hop] at hmy
  obtain ⟨by', ad, mo, du, da, inn⟩ := o
  unfold POp.cells at hmy ⊢
  dsimp only at hmy hres hA hM hD hI hop hoi ⊢
  have HMY := Lib.hid hmy
  have HRES := Lib.hid hres
  have HQ := Lib.hid hQ
  have HDD := Lib.hid hd
  have HC := Lib.hid hC
  have ha1 := i64_and255 k
  have ha2 := i64_and255 (k / 256)
  subst hk0
  subst hA
  subst hM
  subst hD
  subst hI
  subst hR
  clear hop hoi hmay hd hQ hC hres hmy
  go_enter Tryz.func39, Tryz.ntmps39
  obtain ⟨kb, hkb⟩ : ∃ kb, w.heap.size = kb := ⟨_, rfl⟩
  have hC0 := HC.out.alloc (.cells #[.int .i64 by', .int .i64 0, .bool false, .int .i64 0, .int .i64 da, .bool false] 52)
  have HM0 := Lib.hid (HMY.out _ (hC0.rs_mem HDD.out))
  have hbn := Blk.new w [.int .i64 by', .int .i64 0, .bool false, .int .i64 0, .int .i64 da, .bool false] 52
  rw [hkb] at hbn
  have c0 := hbn.cell 0
  have c1 := hbn.cell 1
  have c2 := hbn.cell 2
  have c3 := hbn.cell 3
  have c4 := hbn.cell 4
  have c5 := hbn.cell 5
  simp only [List.getElem?_cons_succ, List.getElem?_cons_zero] at c0 c1 c2 c3 c4 c5
  have HBN := Lib.hid hbn
  have HC0 := Lib.hid hC0
  clear hC0 hbn
  go_upto_region 3 with (go_at_call 118; refine HM0.out.mono ?_; rintro e W2 ⟨rfl, hU1⟩)
  have HC2 := Lib.hid (HC0.out.frame hU1)
  have hb2 := HBN.out.upd hU1 (fun f => f)
  clear c0 c1 c2 c3 c4 c5
  have c0 := hb2.cell 0
  simp only [List.getElem?_cons_zero] at c0
  have HB2 := Lib.hid hb2
  clear hb2 hU1 HC0 HBN HM0 HMY hkb
  have hklt := HB2.out.lt
  have hA1 := (HC2.out.lit (ints [by']) 3 1 rfl (by decide)).nilrow
  have hs1 : (W2.alloc (.cells (ints [by']).toArray 3)).heap.size = W2.heap.size + 1 := by simp
  have hC3 := hA1.phNew (phCells (⟨1, [by'], 0, 0⟩, .slice (some ⟨W2.heap.size, 0, none⟩) 1 1)) rfl
  rw [hs1] at hC3
  have HC3 := Lib.hid hC3
  have HB := Lib.hid ((HB2.out.alloc (.cells (ints [by']).toArray 3)).alloc (.cells (phCells (⟨1, [by'], 0, 0⟩, .slice (some ⟨W2.heap.size, 0, none⟩) 1 1)).toArray 156))
  clear hC3 hA1 HC2 HB2
  go_upto_region 4 with fail
  clear c0
  have hg2 : kb < W2.heap.size + 1 := by omega
  obtain ⟨g2, hgg2⟩ : ∃ g2, W2.heap.size + 1 = g2 := ⟨_, rfl⟩
  rw [hgg2] at HC3 hg2 ⊢
  have HC3' : Hid (Ctx P ((RowF (.slice (some ⟨g2, 0, none⟩) 1 1) 1 (([((⟨1, [by'], 0, 0⟩ : Ph), (Value.slice (some ⟨W2.heap.size, 0, none⟩) 1 1))] : List (Ph × Value)).flatMap phCells)).star Q) w0 ((W2.alloc (.cells (ints [by']).toArray 3)).alloc (.cells (phCells (⟨1, [by'], 0, 0⟩, .slice (some ⟨W2.heap.size, 0, none⟩) 1 1)).toArray 156)) (((.slice none 0 0, ints []) :: (.slice (some ⟨W2.heap.size, 0, none⟩) 1 1, ints [by']) :: rows))) := HC3
  obtain ⟨W3, hW3⟩ : ∃ W3, (W2.alloc (.cells (ints [by']).toArray 3)).alloc (.cells (phCells (⟨1, [by'], 0, 0⟩, .slice (some ⟨W2.heap.size, 0, none⟩) 1 1)).toArray 156) = W3 := ⟨_, rfl⟩
  rw [hW3] at HC3' HB
  change Code.wp _ _ _ _ ((W2.alloc (.cells (ints [by']).toArray 3)).alloc (.cells (phCells (⟨1, [by'], 0, 0⟩, .slice (some ⟨W2.heap.size, 0, none⟩) 1 1)).toArray 156))
  rw [hW3]
  clear HC3 hW3 hgg2 hs1 hklt
  have HC := HC3'
  clear HC3'

  have hbx := HB.out
  have c0 := hbx.cell 0
  have c1 := hbx.cell 1
  have c2 := hbx.cell 2
  have c3 := hbx.cell 3
  have c4 := hbx.cell 4
  have c5 := hbx.cell 5
  simp only [List.getElem?_cons_succ, List.getElem?_cons_zero] at c0 c1 c2 c3 c4 c5
  clear hbx
  go_upto_region 14 with fail
  clear c0 c1 c2 c3 c4 c5 HB
  have hfin := Ctx.phDone HQ.out HC.out (by decide) (by
    intro x hx
    simp only [List.mem_cons, List.not_mem_nil, or_false] at hx
    rcases hx with rfl
    all_goals repeat (first | exact List.mem_cons_self | apply List.mem_cons_of_mem))
  have HFIN := Lib.hid hfin
  clear hfin HC
  go_wp2
  go_ret2
  exact ⟨g2, 1, 1, [((⟨1, [by'], 0, 0⟩ : Ph), (Value.slice (some ⟨W2.heap.size, 0, none⟩) 1 1))], _ :: [(.slice none 0 0, ints []), (.slice (some ⟨W2.heap.size, 0, none⟩) 1 1, ints [by'])], rfl, by rw [HRES.out]; rfl, HFIN.out.1, HFIN.out.2⟩
set_option maxRecDepth 100000 in
set_option maxHeartbeats 8000000 in
theorem rcmd_000e0 {P Q : Own} (hQ : Q.Ok) {w0 w : World} {rows : List (Value × List Value)} (hC : Ctx P Q w0 w rows) (o : POp) (hop : opOf o.byte = o) (hoi : opIs o.byte = true) (k : Int) (a : Option Addr) (c : Nat) (data : List Int) (hd : (.slice a data.length c, ints data) ∈ rows) (_ : data.length ≤ 512) (read : Int) (hmay : cmdMay o k data read = true) (hA : o.addr = 0) (hk0 : k = 0) (hM : o.mode = false) (hD : o.dummy = 0) (hI : o.inn = true) (hde : data = []) (hR : read = 0) :
    Calls Tryz.prog 39 #[.agg o.cells, .int .i64 k, .slice a data.length c, .int .i64 read] w fun e w' => ∃ g m cap L rows', e = .returned (.tuple #[.slice (some ⟨g, 0, none⟩) m cap, .int .i64 0]) ∧ L.map Prod.fst = cmdPhs o k data read ∧ Ctx P Q w0 w' (rows' ++ rows) ∧ PhsV (rows' ++ rows) (.slice (some ⟨g, 0, none⟩) m cap) L := by
  have hres : cmdPhs o k data read = [⟨1, [o.byte], 0, 0⟩] := by
    unfold cmdPhs
    rw [if_neg (show ¬ 0 < o.addr by omega), if_neg (show ¬ o.mode = true by rw [hM]; decide), if_neg (show ¬ 0 < o.dummy by omega), if_neg (show ¬ (o.inn = true ∧ data ≠ []) by rw [hde]; simp), if_neg (show ¬ 0 < read by omega)]
    rfl
  have hmy := fun w1 hrs => rmay w1 o.byte hoi k a c data hrs read (by rw [hop]; exact hmay)
  rw [hop] at hmy
  obtain ⟨by', ad, mo, du, da, inn⟩ := o
  unfold POp.cells at hmy ⊢
  dsimp only at hmy hres hA hM hD hI hop hoi ⊢
  have HMY := Lib.hid hmy
  have HRES := Lib.hid hres
  have HQ := Lib.hid hQ
  have HDD := Lib.hid hd
  have HC := Lib.hid hC
  have ha1 := i64_and255 k
  have ha2 := i64_and255 (k / 256)
  subst hk0
  subst hA
  subst hM
  subst hD
  subst hI
  subst hR
  subst hde
  clear hop hoi hmay hd hQ hC hres hmy
  go_enter Tryz.func39, Tryz.ntmps39
  obtain ⟨kb, hkb⟩ : ∃ kb, w.heap.size = kb := ⟨_, rfl⟩
  have hC0 := HC.out.alloc (.cells #[.int .i64 by', .int .i64 0, .bool false, .int .i64 0, .int .i64 da, .bool true] 52)
  have HM0 := Lib.hid (HMY.out _ (hC0.rs_mem HDD.out))
  have hbn := Blk.new w [.int .i64 by', .int .i64 0, .bool false, .int .i64 0, .int .i64 da, .bool true] 52
  rw [hkb] at hbn
  have c0 := hbn.cell 0
  have c1 := hbn.cell 1
  have c2 := hbn.cell 2
  have c3 := hbn.cell 3
  have c4 := hbn.cell 4
  have c5 := hbn.cell 5
  simp only [List.getElem?_cons_succ, List.getElem?_cons_zero] at c0 c1 c2 c3 c4 c5
  have HBN := Lib.hid hbn
  have HC0 := Lib.hid hC0
  clear hC0 hbn
  go_upto_region 3 with (go_at_call 118; refine HM0.out.mono ?_; rintro e W2 ⟨rfl, hU1⟩)
  have HC2 := Lib.hid (HC0.out.frame hU1)
  have hb2 := HBN.out.upd hU1 (fun f => f)
  clear c0 c1 c2 c3 c4 c5
  have c0 := hb2.cell 0
  simp only [List.getElem?_cons_zero] at c0
  have HB2 := Lib.hid hb2
  clear hb2 hU1 HC0 HBN HM0 HMY hkb
  have hklt := HB2.out.lt
  have hA1 := (HC2.out.lit (ints [by']) 3 1 rfl (by decide)).nilrow
  have hs1 : (W2.alloc (.cells (ints [by']).toArray 3)).heap.size = W2.heap.size + 1 := by simp
  have hC3 := hA1.phNew (phCells (⟨1, [by'], 0, 0⟩, .slice (some ⟨W2.heap.size, 0, none⟩) 1 1)) rfl
  rw [hs1] at hC3
  have HC3 := Lib.hid hC3
  have HB := Lib.hid ((HB2.out.alloc (.cells (ints [by']).toArray 3)).alloc (.cells (phCells (⟨1, [by'], 0, 0⟩, .slice (some ⟨W2.heap.size, 0, none⟩) 1 1)).toArray 156))
  clear hC3 hA1 HC2 HB2
  go_upto_region 4 with fail
  clear c0
  have hg2 : kb < W2.heap.size + 1 := by omega
  obtain ⟨g2, hgg2⟩ : ∃ g2, W2.heap.size + 1 = g2 := ⟨_, rfl⟩
  rw [hgg2] at HC3 hg2 ⊢
  have HC3' : Hid (Ctx P ((RowF (.slice (some ⟨g2, 0, none⟩) 1 1) 1 (([((⟨1, [by'], 0, 0⟩ : Ph), (Value.slice (some ⟨W2.heap.size, 0, none⟩) 1 1))] : List (Ph × Value)).flatMap phCells)).star Q) w0 ((W2.alloc (.cells (ints [by']).toArray 3)).alloc (.cells (phCells (⟨1, [by'], 0, 0⟩, .slice (some ⟨W2.heap.size, 0, none⟩) 1 1)).toArray 156)) (((.slice none 0 0, ints []) :: (.slice (some ⟨W2.heap.size, 0, none⟩) 1 1, ints [by']) :: rows))) := HC3
  obtain ⟨W3, hW3⟩ : ∃ W3, (W2.alloc (.cells (ints [by']).toArray 3)).alloc (.cells (phCells (⟨1, [by'], 0, 0⟩, .slice (some ⟨W2.heap.size, 0, none⟩) 1 1)).toArray 156) = W3 := ⟨_, rfl⟩
  rw [hW3] at HC3' HB
  change Code.wp _ _ _ _ ((W2.alloc (.cells (ints [by']).toArray 3)).alloc (.cells (phCells (⟨1, [by'], 0, 0⟩, .slice (some ⟨W2.heap.size, 0, none⟩) 1 1)).toArray 156))
  rw [hW3]
  clear HC3 hW3 hgg2 hs1 hklt
  have HC := HC3'
  clear HC3'

  have hbx := HB.out
  have c0 := hbx.cell 0
  have c1 := hbx.cell 1
  have c2 := hbx.cell 2
  have c3 := hbx.cell 3
  have c4 := hbx.cell 4
  have c5 := hbx.cell 5
  simp only [List.getElem?_cons_succ, List.getElem?_cons_zero] at c0 c1 c2 c3 c4 c5
  clear hbx
  go_upto_region 14 with fail
  clear c0 c1 c2 c3 c4 c5 HB
  have hfin := Ctx.phDone HQ.out HC.out (by decide) (by
    intro x hx
    simp only [List.mem_cons, List.not_mem_nil, or_false] at hx
    rcases hx with rfl
    all_goals repeat (first | exact List.mem_cons_self | apply List.mem_cons_of_mem))
  have HFIN := Lib.hid hfin
  clear hfin HC
  go_wp2
  go_ret2
  exact ⟨g2, 1, 1, [((⟨1, [by'], 0, 0⟩ : Ph), (Value.slice (some ⟨W2.heap.size, 0, none⟩) 1 1))], _ :: [(.slice none 0 0, ints []), (.slice (some ⟨W2.heap.size, 0, none⟩) 1 1, ints [by'])], rfl, by rw [HRES.out]; rfl, HFIN.out.1, HFIN.out.2⟩
set_option maxRecDepth 100000 in
set_option maxHeartbeats 8000000 in
theorem rcmd_000y0 {P Q : Own} (hQ : Q.Ok) {w0 w : World} {rows : List (Value × List Value)} (hC : Ctx P Q w0 w rows) (o : POp) (hop : opOf o.byte = o) (hoi : opIs o.byte = true) (k : Int) (a : Option Addr) (c : Nat) (data : List Int) (hd : (.slice a data.length c, ints data) ∈ rows) (hlen : data.length ≤ 512) (read : Int) (hmay : cmdMay o k data read = true) (hA : o.addr = 0) (hk0 : k = 0) (hM : o.mode = false) (hD : o.dummy = 0) (hI : o.inn = true) (hde : data ≠ []) (hR : read = 0) :
    Calls Tryz.prog 39 #[.agg o.cells, .int .i64 k, .slice a data.length c, .int .i64 read] w fun e w' => ∃ g m cap L rows', e = .returned (.tuple #[.slice (some ⟨g, 0, none⟩) m cap, .int .i64 0]) ∧ L.map Prod.fst = cmdPhs o k data read ∧ Ctx P Q w0 w' (rows' ++ rows) ∧ PhsV (rows' ++ rows) (.slice (some ⟨g, 0, none⟩) m cap) L := by
  have hres : cmdPhs o k data read = [⟨1, [o.byte], 0, 0⟩, ⟨o.data, data, 0, 0⟩] := by
    unfold cmdPhs
    rw [if_neg (show ¬ 0 < o.addr by omega), if_neg (show ¬ o.mode = true by rw [hM]; decide), if_neg (show ¬ 0 < o.dummy by omega), if_pos (show o.inn = true ∧ data ≠ [] from ⟨hI, hde⟩), if_neg (show ¬ 0 < read by omega)]
    rfl
  have hmy := fun w1 hrs => rmay w1 o.byte hoi k a c data hrs read (by rw [hop]; exact hmay)
  rw [hop] at hmy
  obtain ⟨by', ad, mo, du, da, inn⟩ := o
  unfold POp.cells at hmy ⊢
  dsimp only at hmy hres hA hM hD hI hop hoi ⊢
  have HMY := Lib.hid hmy
  have HRES := Lib.hid hres
  have HQ := Lib.hid hQ
  have HDD := Lib.hid hd
  have HC := Lib.hid hC
  have ha1 := i64_and255 k
  have ha2 := i64_and255 (k / 256)
  subst hk0
  subst hA
  subst hM
  subst hD
  subst hI
  subst hR
  have hdl : 0 < data.length := List.length_pos_iff.2 hde
  have HDN := Lib.hid (And.intro hde hlen)
  clear hop hoi hmay hd hQ hC hres hmy
  go_enter Tryz.func39, Tryz.ntmps39
  obtain ⟨kb, hkb⟩ : ∃ kb, w.heap.size = kb := ⟨_, rfl⟩
  have hC0 := HC.out.alloc (.cells #[.int .i64 by', .int .i64 0, .bool false, .int .i64 0, .int .i64 da, .bool true] 52)
  have HM0 := Lib.hid (HMY.out _ (hC0.rs_mem HDD.out))
  have hbn := Blk.new w [.int .i64 by', .int .i64 0, .bool false, .int .i64 0, .int .i64 da, .bool true] 52
  rw [hkb] at hbn
  have c0 := hbn.cell 0
  have c1 := hbn.cell 1
  have c2 := hbn.cell 2
  have c3 := hbn.cell 3
  have c4 := hbn.cell 4
  have c5 := hbn.cell 5
  simp only [List.getElem?_cons_succ, List.getElem?_cons_zero] at c0 c1 c2 c3 c4 c5
  have HBN := Lib.hid hbn
  have HC0 := Lib.hid hC0
  clear hC0 hbn
  go_upto_region 3 with (go_at_call 118; refine HM0.out.mono ?_; rintro e W2 ⟨rfl, hU1⟩)
  have HC2 := Lib.hid (HC0.out.frame hU1)
  have hb2 := HBN.out.upd hU1 (fun f => f)
  clear c0 c1 c2 c3 c4 c5
  have c0 := hb2.cell 0
  simp only [List.getElem?_cons_zero] at c0
  have HB2 := Lib.hid hb2
  clear hb2 hU1 HC0 HBN HM0 HMY hkb
  have hklt := HB2.out.lt
  have hA1 := (HC2.out.lit (ints [by']) 3 1 rfl (by decide)).nilrow
  have hs1 : (W2.alloc (.cells (ints [by']).toArray 3)).heap.size = W2.heap.size + 1 := by simp
  have hC3 := hA1.phNew (phCells (⟨1, [by'], 0, 0⟩, .slice (some ⟨W2.heap.size, 0, none⟩) 1 1)) rfl
  rw [hs1] at hC3
  have HC3 := Lib.hid hC3
  have HB := Lib.hid ((HB2.out.alloc (.cells (ints [by']).toArray 3)).alloc (.cells (phCells (⟨1, [by'], 0, 0⟩, .slice (some ⟨W2.heap.size, 0, none⟩) 1 1)).toArray 156))
  clear hC3 hA1 HC2 HB2
  go_upto_region 4 with fail
  clear c0
  have hg2 : kb < W2.heap.size + 1 := by omega
  obtain ⟨g2, hgg2⟩ : ∃ g2, W2.heap.size + 1 = g2 := ⟨_, rfl⟩
  rw [hgg2] at HC3 hg2 ⊢
  have HC3' : Hid (Ctx P ((RowF (.slice (some ⟨g2, 0, none⟩) 1 1) 1 (([((⟨1, [by'], 0, 0⟩ : Ph), (Value.slice (some ⟨W2.heap.size, 0, none⟩) 1 1))] : List (Ph × Value)).flatMap phCells)).star Q) w0 ((W2.alloc (.cells (ints [by']).toArray 3)).alloc (.cells (phCells (⟨1, [by'], 0, 0⟩, .slice (some ⟨W2.heap.size, 0, none⟩) 1 1)).toArray 156)) (((.slice none 0 0, ints []) :: (.slice (some ⟨W2.heap.size, 0, none⟩) 1 1, ints [by']) :: rows))) := HC3
  obtain ⟨W3, hW3⟩ : ∃ W3, (W2.alloc (.cells (ints [by']).toArray 3)).alloc (.cells (phCells (⟨1, [by'], 0, 0⟩, .slice (some ⟨W2.heap.size, 0, none⟩) 1 1)).toArray 156) = W3 := ⟨_, rfl⟩
  rw [hW3] at HC3' HB
  change Code.wp _ _ _ _ ((W2.alloc (.cells (ints [by']).toArray 3)).alloc (.cells (phCells (⟨1, [by'], 0, 0⟩, .slice (some ⟨W2.heap.size, 0, none⟩) 1 1)).toArray 156))
  rw [hW3]
  clear HC3 hW3 hgg2 hs1 hklt
  have HC := HC3'
  clear HC3'

  have hbx := HB.out
  have c0 := hbx.cell 0
  have c1 := hbx.cell 1
  have c2 := hbx.cell 2
  have c3 := hbx.cell 3
  have c4 := hbx.cell 4
  have c5 := hbx.cell 5
  simp only [List.getElem?_cons_succ, List.getElem?_cons_zero] at c0 c1 c2 c3 c4 c5
  clear hbx
  go_upto_region 11 with fail
  have hmem : (Value.slice a data.length c, ints data) ∈ (((.slice none 0 0 : Value), ints []) :: ((.slice (some ⟨W2.heap.size, 0, none⟩) 1 1 : Value), ints [by']) :: rows) := by repeat (first | exact HDD.out | apply List.mem_cons_of_mem)
  have HRSC := Lib.hid (HC.out.drew.rs_mem hmem)
  clear hmem
  have HCH : Hid (∀ (V : World) (va : Option Addr) (vc : Nat), Row V 3 (.slice va data.length vc) (ints data) → (∀ k, (Value.slice va data.length vc).ownBlock = some k → W3.drew.heap.size ≤ k ∧ k < V.heap.size) → Upd none' W3.drew V → V.cell? ⟨kb, 4, none⟩ = some (.int .i64 da) ∧ Hid (Ctx P ((RowF (.slice (some ⟨g2, 0, none⟩) 1 1) 1 (([((⟨1, [by'], 0, 0⟩ : Ph), (Value.slice (some ⟨W2.heap.size, 0, none⟩) 1 1))] : List (Ph × Value)).flatMap phCells)).star Q) w0 V (((.slice va data.length vc : Value), ints data) :: (((.slice none 0 0 : Value), ints []) :: ((.slice (some ⟨W2.heap.size, 0, none⟩) 1 1 : Value), ints [by']) :: rows))) ∧ Hid (Blk V kb [.int .i64 by', .int .i64 0, .bool false, .int .i64 0, .int .i64 da, .bool true] 52)) := Lib.hid (by
    intro V va vc hR hf hU
    have hb := HB.out.drew.upd hU (fun f => f)
    have hc := hb.cell 4
    simp only [List.getElem?_cons_succ, List.getElem?_cons_zero] at hc
    have hrs := hR.rs (by rw [ints_len]; omega)
    exact ⟨hc, Lib.hid (HC.out.drew.newRow hU hrs hf hR.mk), Lib.hid hb⟩)
  have hlk11 : kb < W3.drew.heap.size := HB.out.drew.lt
  go_region_held3 (fun w' => w'.cell? ⟨kb, 4, none⟩ = some (.int .i64 da)) (first | exact c4 | exact cc11 | exact (World.cell?_alloc_lt _ _ _ hlk11).trans c4 | exact (World.cell?_alloc_lt _ _ _ hl11).trans cc11 | exact (hUn.cell (p := ⟨kb, 4, none⟩) hl11 (fun e => by simp only [Value.ownBlock, Option.some.injEq] at e; omega)).trans cc11) (first | (refine step_appE rfl _ _ rfl W3.drew ⟨rfl, rfl, rfl⟩ rfl _ _ data rfl HRSC.out HDN.out.1 HDN.out.2 ?_; intro va11 vc11 V4 hRc11 hfc11 hUc11; obtain ⟨cc11, HCc11, HBc11⟩ := HCH.out _ _ _ hRc11 hfc11 hUc11; have hl11 := HBc11.out.lt; have hflag : True := trivial) | (clear hflag; go_must (refine step_ph1 rfl _ _ rfl (.slice (some ⟨g2, 0, none⟩) 1 1) 1 (([((⟨1, [by'], 0, 0⟩ : Ph), (Value.slice (some ⟨W2.heap.size, 0, none⟩) 1 1))] : List (Ph × Value)).flatMap phCells) rfl V4 (phCells (⟨da, data, 0, 0⟩, .slice va11 data.length vc11)) rfl (phCells_one _ _ _ _) ⟨rfl, rfl, rfl⟩ HCc11.out.phGet rfl (by decide) ?_); intro g4 cp4 W4 hRn hUn hgn hgln))
  have hCn := Ctx.phStep HQ.out (HCc11.out) hRn hUn (fun k hk => by simp only [Value.ownBlock, Option.some.injEq] at hk; rw [← hk]; exact hgn)
  have hBn := (HBc11.out).upd hUn (fun e => by simp only [Value.ownBlock, Option.some.injEq] at e; omega)
  have hkn : kb < g4 := by
    have := (HBc11.out).lt
    rcases hgn with e | e
    · simp only [Value.ownBlock, Option.some.injEq] at e; omega
    · omega
  clear HC HB c0 c1 c2 c3 c4 c5 hRn hUn hgn hgln
  have HC : Hid (Ctx P ((RowF (.slice (some ⟨g4, 0, none⟩) 2 cp4) 2 (([((⟨1, [by'], 0, 0⟩ : Ph), (Value.slice (some ⟨W2.heap.size, 0, none⟩) 1 1)), ((⟨da, data, 0, 0⟩ : Ph), (Value.slice va11 data.length vc11 : Value))] : List (Ph × Value)).flatMap phCells)).star Q) w0 W4 _) := Lib.hid hCn
  have HB := Lib.hid hBn
  clear hCn hBn
  have hbx := HB.out
  have c0 := hbx.cell 0
  have c1 := hbx.cell 1
  have c2 := hbx.cell 2
  have c3 := hbx.cell 3
  have c4 := hbx.cell 4
  have c5 := hbx.cell 5
  simp only [List.getElem?_cons_succ, List.getElem?_cons_zero] at c0 c1 c2 c3 c4 c5
  clear hbx
  go_upto_region 14 with fail
  clear c0 c1 c2 c3 c4 c5 HB
  have hfin := Ctx.phDone HQ.out HC.out (by decide) (by
    intro x hx
    simp only [List.mem_cons, List.not_mem_nil, or_false] at hx
    rcases hx with rfl | rfl
    all_goals repeat (first | exact List.mem_cons_self | apply List.mem_cons_of_mem))
  have HFIN := Lib.hid hfin
  clear hfin HC
  go_wp2
  go_ret2
  exact ⟨g4, 2, cp4, [((⟨1, [by'], 0, 0⟩ : Ph), (Value.slice (some ⟨W2.heap.size, 0, none⟩) 1 1)), ((⟨da, data, 0, 0⟩ : Ph), (Value.slice va11 data.length vc11 : Value))], _ :: [(.slice va11 data.length vc11, ints data), (.slice none 0 0, ints []), (.slice (some ⟨W2.heap.size, 0, none⟩) 1 1, ints [by'])], rfl, by rw [HRES.out]; rfl, HFIN.out.1, HFIN.out.2⟩
set_option maxRecDepth 100000 in
set_option maxHeartbeats 8000000 in
theorem rcmd_000n1 {P Q : Own} (hQ : Q.Ok) {w0 w : World} {rows : List (Value × List Value)} (hC : Ctx P Q w0 w rows) (o : POp) (hop : opOf o.byte = o) (hoi : opIs o.byte = true) (k : Int) (a : Option Addr) (c : Nat) (data : List Int) (hd : (.slice a data.length c, ints data) ∈ rows) (_ : data.length ≤ 512) (read : Int) (hmay : cmdMay o k data read = true) (hA : o.addr = 0) (hk0 : k = 0) (hM : o.mode = false) (hD : o.dummy = 0) (hI : o.inn = false) (hR : 0 < read) :
    Calls Tryz.prog 39 #[.agg o.cells, .int .i64 k, .slice a data.length c, .int .i64 read] w fun e w' => ∃ g m cap L rows', e = .returned (.tuple #[.slice (some ⟨g, 0, none⟩) m cap, .int .i64 0]) ∧ L.map Prod.fst = cmdPhs o k data read ∧ Ctx P Q w0 w' (rows' ++ rows) ∧ PhsV (rows' ++ rows) (.slice (some ⟨g, 0, none⟩) m cap) L := by
  have hres : cmdPhs o k data read = [⟨1, [o.byte], 0, 0⟩, ⟨o.data, [], 0, read⟩] := by
    unfold cmdPhs
    rw [if_neg (show ¬ 0 < o.addr by omega), if_neg (show ¬ o.mode = true by rw [hM]; decide), if_neg (show ¬ 0 < o.dummy by omega), if_neg (show ¬ (o.inn = true ∧ data ≠ []) by rw [hI]; simp), if_pos hR]
    rfl
  have hmy := fun w1 hrs => rmay w1 o.byte hoi k a c data hrs read (by rw [hop]; exact hmay)
  rw [hop] at hmy
  obtain ⟨by', ad, mo, du, da, inn⟩ := o
  unfold POp.cells at hmy ⊢
  dsimp only at hmy hres hA hM hD hI hop hoi ⊢
  have HMY := Lib.hid hmy
  have HRES := Lib.hid hres
  have HQ := Lib.hid hQ
  have HDD := Lib.hid hd
  have HC := Lib.hid hC
  have ha1 := i64_and255 k
  have ha2 := i64_and255 (k / 256)
  subst hk0
  subst hA
  subst hM
  subst hD
  subst hI
  clear hop hoi hmay hd hQ hC hres hmy
  go_enter Tryz.func39, Tryz.ntmps39
  obtain ⟨kb, hkb⟩ : ∃ kb, w.heap.size = kb := ⟨_, rfl⟩
  have hC0 := HC.out.alloc (.cells #[.int .i64 by', .int .i64 0, .bool false, .int .i64 0, .int .i64 da, .bool false] 52)
  have HM0 := Lib.hid (HMY.out _ (hC0.rs_mem HDD.out))
  have hbn := Blk.new w [.int .i64 by', .int .i64 0, .bool false, .int .i64 0, .int .i64 da, .bool false] 52
  rw [hkb] at hbn
  have c0 := hbn.cell 0
  have c1 := hbn.cell 1
  have c2 := hbn.cell 2
  have c3 := hbn.cell 3
  have c4 := hbn.cell 4
  have c5 := hbn.cell 5
  simp only [List.getElem?_cons_succ, List.getElem?_cons_zero] at c0 c1 c2 c3 c4 c5
  have HBN := Lib.hid hbn
  have HC0 := Lib.hid hC0
  clear hC0 hbn
  go_upto_region 3 with (go_at_call 118; refine HM0.out.mono ?_; rintro e W2 ⟨rfl, hU1⟩)
  have HC2 := Lib.hid (HC0.out.frame hU1)
  have hb2 := HBN.out.upd hU1 (fun f => f)
  clear c0 c1 c2 c3 c4 c5
  have c0 := hb2.cell 0
  simp only [List.getElem?_cons_zero] at c0
  have HB2 := Lib.hid hb2
  clear hb2 hU1 HC0 HBN HM0 HMY hkb
  have hklt := HB2.out.lt
  have hA1 := (HC2.out.lit (ints [by']) 3 1 rfl (by decide)).nilrow
  have hs1 : (W2.alloc (.cells (ints [by']).toArray 3)).heap.size = W2.heap.size + 1 := by simp
  have hC3 := hA1.phNew (phCells (⟨1, [by'], 0, 0⟩, .slice (some ⟨W2.heap.size, 0, none⟩) 1 1)) rfl
  rw [hs1] at hC3
  have HC3 := Lib.hid hC3
  have HB := Lib.hid ((HB2.out.alloc (.cells (ints [by']).toArray 3)).alloc (.cells (phCells (⟨1, [by'], 0, 0⟩, .slice (some ⟨W2.heap.size, 0, none⟩) 1 1)).toArray 156))
  clear hC3 hA1 HC2 HB2
  go_upto_region 4 with fail
  clear c0
  have hg2 : kb < W2.heap.size + 1 := by omega
  obtain ⟨g2, hgg2⟩ : ∃ g2, W2.heap.size + 1 = g2 := ⟨_, rfl⟩
  rw [hgg2] at HC3 hg2 ⊢
  have HC3' : Hid (Ctx P ((RowF (.slice (some ⟨g2, 0, none⟩) 1 1) 1 (([((⟨1, [by'], 0, 0⟩ : Ph), (Value.slice (some ⟨W2.heap.size, 0, none⟩) 1 1))] : List (Ph × Value)).flatMap phCells)).star Q) w0 ((W2.alloc (.cells (ints [by']).toArray 3)).alloc (.cells (phCells (⟨1, [by'], 0, 0⟩, .slice (some ⟨W2.heap.size, 0, none⟩) 1 1)).toArray 156)) (((.slice none 0 0, ints []) :: (.slice (some ⟨W2.heap.size, 0, none⟩) 1 1, ints [by']) :: rows))) := HC3
  obtain ⟨W3, hW3⟩ : ∃ W3, (W2.alloc (.cells (ints [by']).toArray 3)).alloc (.cells (phCells (⟨1, [by'], 0, 0⟩, .slice (some ⟨W2.heap.size, 0, none⟩) 1 1)).toArray 156) = W3 := ⟨_, rfl⟩
  rw [hW3] at HC3' HB
  change Code.wp _ _ _ _ ((W2.alloc (.cells (ints [by']).toArray 3)).alloc (.cells (phCells (⟨1, [by'], 0, 0⟩, .slice (some ⟨W2.heap.size, 0, none⟩) 1 1)).toArray 156))
  rw [hW3]
  clear HC3 hW3 hgg2 hs1 hklt
  have HC := HC3'
  clear HC3'

  have hbx := HB.out
  have c0 := hbx.cell 0
  have c1 := hbx.cell 1
  have c2 := hbx.cell 2
  have c3 := hbx.cell 3
  have c4 := hbx.cell 4
  have c5 := hbx.cell 5
  simp only [List.getElem?_cons_succ, List.getElem?_cons_zero] at c0 c1 c2 c3 c4 c5
  clear hbx
  go_upto_region 14 with (at_builtin; go_must (refine wpList_ph1 rfl _ _ rfl (.slice (some ⟨g2, 0, none⟩) 1 1) 1 (([((⟨1, [by'], 0, 0⟩ : Ph), (Value.slice (some ⟨W2.heap.size, 0, none⟩) 1 1))] : List (Ph × Value)).flatMap phCells) rfl W3 (phCells (⟨da, [], 0, read⟩, .slice none 0 0)) rfl (phCells_one _ _ _ _) ⟨rfl, rfl, rfl⟩ HC.out.phGet rfl (by decide) ?_); intro g4 cp4 W4 hRn hUn hgn hgln)
  have hCn := Ctx.phStep HQ.out (HC.out) hRn hUn (fun k hk => by simp only [Value.ownBlock, Option.some.injEq] at hk; rw [← hk]; exact hgn)
  have hBn := (HB.out).upd hUn (fun e => by simp only [Value.ownBlock, Option.some.injEq] at e; omega)
  have hkn : kb < g4 := by
    have := (HB.out).lt
    rcases hgn with e | e
    · simp only [Value.ownBlock, Option.some.injEq] at e; omega
    · omega
  clear HC HB c0 c1 c2 c3 c4 c5 hRn hUn hgn hgln
  have HC : Hid (Ctx P ((RowF (.slice (some ⟨g4, 0, none⟩) 2 cp4) 2 (([((⟨1, [by'], 0, 0⟩ : Ph), (Value.slice (some ⟨W2.heap.size, 0, none⟩) 1 1)), ((⟨da, [], 0, read⟩ : Ph), (Value.slice none 0 0 : Value))] : List (Ph × Value)).flatMap phCells)).star Q) w0 W4 _) := Lib.hid hCn
  have HB := Lib.hid hBn
  clear hCn hBn
  have hbx := HB.out
  have c0 := hbx.cell 0
  have c1 := hbx.cell 1
  have c2 := hbx.cell 2
  have c3 := hbx.cell 3
  have c4 := hbx.cell 4
  have c5 := hbx.cell 5
  simp only [List.getElem?_cons_succ, List.getElem?_cons_zero] at c0 c1 c2 c3 c4 c5
  clear hbx
  go_upto_region 14 with fail
  clear c0 c1 c2 c3 c4 c5 HB
  have hfin := Ctx.phDone HQ.out HC.out (by decide) (by
    intro x hx
    simp only [List.mem_cons, List.not_mem_nil, or_false] at hx
    rcases hx with rfl | rfl
    all_goals repeat (first | exact List.mem_cons_self | apply List.mem_cons_of_mem))
  have HFIN := Lib.hid hfin
  clear hfin HC
  go_wp2
  go_ret2
  exact ⟨g4, 2, cp4, [((⟨1, [by'], 0, 0⟩ : Ph), (Value.slice (some ⟨W2.heap.size, 0, none⟩) 1 1)), ((⟨da, [], 0, read⟩ : Ph), (Value.slice none 0 0 : Value))], _ :: [(.slice none 0 0, ints []), (.slice (some ⟨W2.heap.size, 0, none⟩) 1 1, ints [by'])], rfl, by rw [HRES.out]; rfl, HFIN.out.1, HFIN.out.2⟩
set_option maxRecDepth 100000 in
set_option maxHeartbeats 8000000 in
theorem rcmd_100n0 {P Q : Own} (hQ : Q.Ok) {w0 w : World} {rows : List (Value × List Value)} (hC : Ctx P Q w0 w rows) (o : POp) (hop : opOf o.byte = o) (hoi : opIs o.byte = true) (k : Int) (a : Option Addr) (c : Nat) (data : List Int) (hd : (.slice a data.length c, ints data) ∈ rows) (_ : data.length ≤ 512) (read : Int) (hmay : cmdMay o k data read = true) (hA : 0 < o.addr) (hM : o.mode = false) (hD : o.dummy = 0) (hI : o.inn = false) (hR : read = 0) :
    Calls Tryz.prog 39 #[.agg o.cells, .int .i64 k, .slice a data.length c, .int .i64 read] w fun e w' => ∃ g m cap L rows', e = .returned (.tuple #[.slice (some ⟨g, 0, none⟩) m cap, .int .i64 0]) ∧ L.map Prod.fst = cmdPhs o k data read ∧ Ctx P Q w0 w' (rows' ++ rows) ∧ PhsV (rows' ++ rows) (.slice (some ⟨g, 0, none⟩) m cap) L := by
  have hres : cmdPhs o k data read = [⟨1, [o.byte], 0, 0⟩, ⟨o.addr, [k / 65536, k / 256 % 256, k % 256], 0, 0⟩] := by
    unfold cmdPhs
    rw [if_pos hA, if_neg (show ¬ o.mode = true by rw [hM]; decide), if_neg (show ¬ 0 < o.dummy by omega), if_neg (show ¬ (o.inn = true ∧ data ≠ []) by rw [hI]; simp), if_neg (show ¬ 0 < read by omega)]
    rfl
  have hmy := fun w1 hrs => rmay w1 o.byte hoi k a c data hrs read (by rw [hop]; exact hmay)
  rw [hop] at hmy
  obtain ⟨by', ad, mo, du, da, inn⟩ := o
  unfold POp.cells at hmy ⊢
  dsimp only at hmy hres hA hM hD hI hop hoi ⊢
  have HMY := Lib.hid hmy
  have HRES := Lib.hid hres
  have HQ := Lib.hid hQ
  have HDD := Lib.hid hd
  have HC := Lib.hid hC
  have ha1 := i64_and255 k
  have ha2 := i64_and255 (k / 256)
  subst hM
  subst hD
  subst hI
  subst hR
  clear hop hoi hmay hd hQ hC hres hmy
  go_enter Tryz.func39, Tryz.ntmps39
  obtain ⟨kb, hkb⟩ : ∃ kb, w.heap.size = kb := ⟨_, rfl⟩
  have hC0 := HC.out.alloc (.cells #[.int .i64 by', .int .i64 ad, .bool false, .int .i64 0, .int .i64 da, .bool false] 52)
  have HM0 := Lib.hid (HMY.out _ (hC0.rs_mem HDD.out))
  have hbn := Blk.new w [.int .i64 by', .int .i64 ad, .bool false, .int .i64 0, .int .i64 da, .bool false] 52
  rw [hkb] at hbn
  have c0 := hbn.cell 0
  have c1 := hbn.cell 1
  have c2 := hbn.cell 2
  have c3 := hbn.cell 3
  have c4 := hbn.cell 4
  have c5 := hbn.cell 5
  simp only [List.getElem?_cons_succ, List.getElem?_cons_zero] at c0 c1 c2 c3 c4 c5
  have HBN := Lib.hid hbn
  have HC0 := Lib.hid hC0
  clear hC0 hbn
  go_upto_region 3 with (go_at_call 118; refine HM0.out.mono ?_; rintro e W2 ⟨rfl, hU1⟩)
  have HC2 := Lib.hid (HC0.out.frame hU1)
  have hb2 := HBN.out.upd hU1 (fun f => f)
  clear c0 c1 c2 c3 c4 c5
  have c0 := hb2.cell 0
  simp only [List.getElem?_cons_zero] at c0
  have HB2 := Lib.hid hb2
  clear hb2 hU1 HC0 HBN HM0 HMY hkb
  have hklt := HB2.out.lt
  have hA1 := (HC2.out.lit (ints [by']) 3 1 rfl (by decide)).nilrow
  have hs1 : (W2.alloc (.cells (ints [by']).toArray 3)).heap.size = W2.heap.size + 1 := by simp
  have hC3 := hA1.phNew (phCells (⟨1, [by'], 0, 0⟩, .slice (some ⟨W2.heap.size, 0, none⟩) 1 1)) rfl
  rw [hs1] at hC3
  have HC3 := Lib.hid hC3
  have HB := Lib.hid ((HB2.out.alloc (.cells (ints [by']).toArray 3)).alloc (.cells (phCells (⟨1, [by'], 0, 0⟩, .slice (some ⟨W2.heap.size, 0, none⟩) 1 1)).toArray 156))
  clear hC3 hA1 HC2 HB2
  go_upto_region 4 with fail
  clear c0
  have hg2 : kb < W2.heap.size + 1 := by omega
  obtain ⟨g2, hgg2⟩ : ∃ g2, W2.heap.size + 1 = g2 := ⟨_, rfl⟩
  rw [hgg2] at HC3 hg2 ⊢
  have HC3' : Hid (Ctx P ((RowF (.slice (some ⟨g2, 0, none⟩) 1 1) 1 (([((⟨1, [by'], 0, 0⟩ : Ph), (Value.slice (some ⟨W2.heap.size, 0, none⟩) 1 1))] : List (Ph × Value)).flatMap phCells)).star Q) w0 ((W2.alloc (.cells (ints [by']).toArray 3)).alloc (.cells (phCells (⟨1, [by'], 0, 0⟩, .slice (some ⟨W2.heap.size, 0, none⟩) 1 1)).toArray 156)) (((.slice none 0 0, ints []) :: (.slice (some ⟨W2.heap.size, 0, none⟩) 1 1, ints [by']) :: rows))) := HC3
  obtain ⟨W3, hW3⟩ : ∃ W3, (W2.alloc (.cells (ints [by']).toArray 3)).alloc (.cells (phCells (⟨1, [by'], 0, 0⟩, .slice (some ⟨W2.heap.size, 0, none⟩) 1 1)).toArray 156) = W3 := ⟨_, rfl⟩
  rw [hW3] at HC3' HB
  change Code.wp _ _ _ _ ((W2.alloc (.cells (ints [by']).toArray 3)).alloc (.cells (phCells (⟨1, [by'], 0, 0⟩, .slice (some ⟨W2.heap.size, 0, none⟩) 1 1)).toArray 156))
  rw [hW3]
  clear HC3 hW3 hgg2 hs1 hklt
  have HC := HC3'
  clear HC3'

  have hbx := HB.out
  have c0 := hbx.cell 0
  have c1 := hbx.cell 1
  have c2 := hbx.cell 2
  have c3 := hbx.cell 3
  have c4 := hbx.cell 4
  have c5 := hbx.cell 5
  simp only [List.getElem?_cons_succ, List.getElem?_cons_zero] at c0 c1 c2 c3 c4 c5
  clear hbx
  have hsz4 : (W3.alloc (.cells (ints [k / 65536, k / 256 % 256, k % 256]).toArray 3)).heap.size = W3.heap.size + 1 := by simp
  go_upto_region 6 with (at_builtin; go_must (refine wpList_ph1 rfl _ _ rfl (.slice (some ⟨g2, 0, none⟩) 1 1) 1 (([((⟨1, [by'], 0, 0⟩ : Ph), (Value.slice (some ⟨W2.heap.size, 0, none⟩) 1 1))] : List (Ph × Value)).flatMap phCells) rfl (W3.alloc (.cells (ints [k / 65536, k / 256 % 256, k % 256]).toArray 3)) (phCells (⟨ad, [k / 65536, k / 256 % 256, k % 256], 0, 0⟩, .slice (some ⟨W3.heap.size, 0, none⟩) 3 3)) rfl (phCells_one _ _ _ _) ⟨rfl, rfl, rfl⟩ (own_upd HC.out.phGet ((Upd.refl none' W3).alloc _) (fun _ _ f => f)) (by rw [hsz4]; rfl) (by decide) ?_); intro g4 cp4 W4 hRn hUn hgn hgln)
  have hCn := Ctx.phStep HQ.out (HC.out.lit (ints [k / 65536, k / 256 % 256, k % 256]) 3 3 rfl (by decide)) hRn hUn (fun k hk => by simp only [Value.ownBlock, Option.some.injEq] at hk; rw [← hk]; exact hgn)
  have hBn := (HB.out.alloc (.cells (ints [k / 65536, k / 256 % 256, k % 256]).toArray 3)).upd hUn (fun e => by simp only [Value.ownBlock, Option.some.injEq] at e; omega)
  have hkn : kb < g4 := by
    have := (HB.out.alloc (.cells (ints [k / 65536, k / 256 % 256, k % 256]).toArray 3)).lt
    rcases hgn with e | e
    · simp only [Value.ownBlock, Option.some.injEq] at e; omega
    · omega
  clear HC HB c0 c1 c2 c3 c4 c5 hRn hUn hgn hgln
  have HC : Hid (Ctx P ((RowF (.slice (some ⟨g4, 0, none⟩) 2 cp4) 2 (([((⟨1, [by'], 0, 0⟩ : Ph), (Value.slice (some ⟨W2.heap.size, 0, none⟩) 1 1)), ((⟨ad, [k / 65536, k / 256 % 256, k % 256], 0, 0⟩ : Ph), (Value.slice (some ⟨W3.heap.size, 0, none⟩) 3 3 : Value))] : List (Ph × Value)).flatMap phCells)).star Q) w0 W4 _) := Lib.hid hCn
  have HB := Lib.hid hBn
  clear hCn hBn
  have hbx := HB.out
  have c0 := hbx.cell 0
  have c1 := hbx.cell 1
  have c2 := hbx.cell 2
  have c3 := hbx.cell 3
  have c4 := hbx.cell 4
  have c5 := hbx.cell 5
  simp only [List.getElem?_cons_succ, List.getElem?_cons_zero] at c0 c1 c2 c3 c4 c5
  clear hbx
  go_upto_region 14 with fail
  clear c0 c1 c2 c3 c4 c5 HB
  have hfin := Ctx.phDone HQ.out HC.out (by decide) (by
    intro x hx
    simp only [List.mem_cons, List.not_mem_nil, or_false] at hx
    rcases hx with rfl | rfl
    all_goals repeat (first | exact List.mem_cons_self | apply List.mem_cons_of_mem))
  have HFIN := Lib.hid hfin
  clear hfin HC
  go_wp2
  go_ret2
  exact ⟨g4, 2, cp4, [((⟨1, [by'], 0, 0⟩ : Ph), (Value.slice (some ⟨W2.heap.size, 0, none⟩) 1 1)), ((⟨ad, [k / 65536, k / 256 % 256, k % 256], 0, 0⟩ : Ph), (Value.slice (some ⟨W3.heap.size, 0, none⟩) 3 3 : Value))], _ :: [(.slice (some ⟨W3.heap.size, 0, none⟩) 3 3, ints [k / 65536, k / 256 % 256, k % 256]), (.slice none 0 0, ints []), (.slice (some ⟨W2.heap.size, 0, none⟩) 1 1, ints [by'])], rfl, by rw [HRES.out]; rfl, HFIN.out.1, HFIN.out.2⟩
set_option maxRecDepth 100000 in
set_option maxHeartbeats 8000000 in
theorem rcmd_100e0 {P Q : Own} (hQ : Q.Ok) {w0 w : World} {rows : List (Value × List Value)} (hC : Ctx P Q w0 w rows) (o : POp) (hop : opOf o.byte = o) (hoi : opIs o.byte = true) (k : Int) (a : Option Addr) (c : Nat) (data : List Int) (hd : (.slice a data.length c, ints data) ∈ rows) (_ : data.length ≤ 512) (read : Int) (hmay : cmdMay o k data read = true) (hA : 0 < o.addr) (hM : o.mode = false) (hD : o.dummy = 0) (hI : o.inn = true) (hde : data = []) (hR : read = 0) :
    Calls Tryz.prog 39 #[.agg o.cells, .int .i64 k, .slice a data.length c, .int .i64 read] w fun e w' => ∃ g m cap L rows', e = .returned (.tuple #[.slice (some ⟨g, 0, none⟩) m cap, .int .i64 0]) ∧ L.map Prod.fst = cmdPhs o k data read ∧ Ctx P Q w0 w' (rows' ++ rows) ∧ PhsV (rows' ++ rows) (.slice (some ⟨g, 0, none⟩) m cap) L := by
  have hres : cmdPhs o k data read = [⟨1, [o.byte], 0, 0⟩, ⟨o.addr, [k / 65536, k / 256 % 256, k % 256], 0, 0⟩] := by
    unfold cmdPhs
    rw [if_pos hA, if_neg (show ¬ o.mode = true by rw [hM]; decide), if_neg (show ¬ 0 < o.dummy by omega), if_neg (show ¬ (o.inn = true ∧ data ≠ []) by rw [hde]; simp), if_neg (show ¬ 0 < read by omega)]
    rfl
  have hmy := fun w1 hrs => rmay w1 o.byte hoi k a c data hrs read (by rw [hop]; exact hmay)
  rw [hop] at hmy
  obtain ⟨by', ad, mo, du, da, inn⟩ := o
  unfold POp.cells at hmy ⊢
  dsimp only at hmy hres hA hM hD hI hop hoi ⊢
  have HMY := Lib.hid hmy
  have HRES := Lib.hid hres
  have HQ := Lib.hid hQ
  have HDD := Lib.hid hd
  have HC := Lib.hid hC
  have ha1 := i64_and255 k
  have ha2 := i64_and255 (k / 256)
  subst hM
  subst hD
  subst hI
  subst hR
  subst hde
  clear hop hoi hmay hd hQ hC hres hmy
  go_enter Tryz.func39, Tryz.ntmps39
  obtain ⟨kb, hkb⟩ : ∃ kb, w.heap.size = kb := ⟨_, rfl⟩
  have hC0 := HC.out.alloc (.cells #[.int .i64 by', .int .i64 ad, .bool false, .int .i64 0, .int .i64 da, .bool true] 52)
  have HM0 := Lib.hid (HMY.out _ (hC0.rs_mem HDD.out))
  have hbn := Blk.new w [.int .i64 by', .int .i64 ad, .bool false, .int .i64 0, .int .i64 da, .bool true] 52
  rw [hkb] at hbn
  have c0 := hbn.cell 0
  have c1 := hbn.cell 1
  have c2 := hbn.cell 2
  have c3 := hbn.cell 3
  have c4 := hbn.cell 4
  have c5 := hbn.cell 5
  simp only [List.getElem?_cons_succ, List.getElem?_cons_zero] at c0 c1 c2 c3 c4 c5
  have HBN := Lib.hid hbn
  have HC0 := Lib.hid hC0
  clear hC0 hbn
  go_upto_region 3 with (go_at_call 118; refine HM0.out.mono ?_; rintro e W2 ⟨rfl, hU1⟩)
  have HC2 := Lib.hid (HC0.out.frame hU1)
  have hb2 := HBN.out.upd hU1 (fun f => f)
  clear c0 c1 c2 c3 c4 c5
  have c0 := hb2.cell 0
  simp only [List.getElem?_cons_zero] at c0
  have HB2 := Lib.hid hb2
  clear hb2 hU1 HC0 HBN HM0 HMY hkb
  have hklt := HB2.out.lt
  have hA1 := (HC2.out.lit (ints [by']) 3 1 rfl (by decide)).nilrow
  have hs1 : (W2.alloc (.cells (ints [by']).toArray 3)).heap.size = W2.heap.size + 1 := by simp
  have hC3 := hA1.phNew (phCells (⟨1, [by'], 0, 0⟩, .slice (some ⟨W2.heap.size, 0, none⟩) 1 1)) rfl
  rw [hs1] at hC3
  have HC3 := Lib.hid hC3
  have HB := Lib.hid ((HB2.out.alloc (.cells (ints [by']).toArray 3)).alloc (.cells (phCells (⟨1, [by'], 0, 0⟩, .slice (some ⟨W2.heap.size, 0, none⟩) 1 1)).toArray 156))
  clear hC3 hA1 HC2 HB2
  go_upto_region 4 with fail
  clear c0
  have hg2 : kb < W2.heap.size + 1 := by omega
  obtain ⟨g2, hgg2⟩ : ∃ g2, W2.heap.size + 1 = g2 := ⟨_, rfl⟩
  rw [hgg2] at HC3 hg2 ⊢
  have HC3' : Hid (Ctx P ((RowF (.slice (some ⟨g2, 0, none⟩) 1 1) 1 (([((⟨1, [by'], 0, 0⟩ : Ph), (Value.slice (some ⟨W2.heap.size, 0, none⟩) 1 1))] : List (Ph × Value)).flatMap phCells)).star Q) w0 ((W2.alloc (.cells (ints [by']).toArray 3)).alloc (.cells (phCells (⟨1, [by'], 0, 0⟩, .slice (some ⟨W2.heap.size, 0, none⟩) 1 1)).toArray 156)) (((.slice none 0 0, ints []) :: (.slice (some ⟨W2.heap.size, 0, none⟩) 1 1, ints [by']) :: rows))) := HC3
  obtain ⟨W3, hW3⟩ : ∃ W3, (W2.alloc (.cells (ints [by']).toArray 3)).alloc (.cells (phCells (⟨1, [by'], 0, 0⟩, .slice (some ⟨W2.heap.size, 0, none⟩) 1 1)).toArray 156) = W3 := ⟨_, rfl⟩
  rw [hW3] at HC3' HB
  change Code.wp _ _ _ _ ((W2.alloc (.cells (ints [by']).toArray 3)).alloc (.cells (phCells (⟨1, [by'], 0, 0⟩, .slice (some ⟨W2.heap.size, 0, none⟩) 1 1)).toArray 156))
  rw [hW3]
  clear HC3 hW3 hgg2 hs1 hklt
  have HC := HC3'
  clear HC3'

  have hbx := HB.out
  have c0 := hbx.cell 0
  have c1 := hbx.cell 1
  have c2 := hbx.cell 2
  have c3 := hbx.cell 3
  have c4 := hbx.cell 4
  have c5 := hbx.cell 5
  simp only [List.getElem?_cons_succ, List.getElem?_cons_zero] at c0 c1 c2 c3 c4 c5
  clear hbx
  have hsz4 : (W3.alloc (.cells (ints [k / 65536, k / 256 % 256, k % 256]).toArray 3)).heap.size = W3.heap.size + 1 := by simp
  go_upto_region 6 with (at_builtin; go_must (refine wpList_ph1 rfl _ _ rfl (.slice (some ⟨g2, 0, none⟩) 1 1) 1 (([((⟨1, [by'], 0, 0⟩ : Ph), (Value.slice (some ⟨W2.heap.size, 0, none⟩) 1 1))] : List (Ph × Value)).flatMap phCells) rfl (W3.alloc (.cells (ints [k / 65536, k / 256 % 256, k % 256]).toArray 3)) (phCells (⟨ad, [k / 65536, k / 256 % 256, k % 256], 0, 0⟩, .slice (some ⟨W3.heap.size, 0, none⟩) 3 3)) rfl (phCells_one _ _ _ _) ⟨rfl, rfl, rfl⟩ (own_upd HC.out.phGet ((Upd.refl none' W3).alloc _) (fun _ _ f => f)) (by rw [hsz4]; rfl) (by decide) ?_); intro g4 cp4 W4 hRn hUn hgn hgln)
  have hCn := Ctx.phStep HQ.out (HC.out.lit (ints [k / 65536, k / 256 % 256, k % 256]) 3 3 rfl (by decide)) hRn hUn (fun k hk => by simp only [Value.ownBlock, Option.some.injEq] at hk; rw [← hk]; exact hgn)
  have hBn := (HB.out.alloc (.cells (ints [k / 65536, k / 256 % 256, k % 256]).toArray 3)).upd hUn (fun e => by simp only [Value.ownBlock, Option.some.injEq] at e; omega)
  have hkn : kb < g4 := by
    have := (HB.out.alloc (.cells (ints [k / 65536, k / 256 % 256, k % 256]).toArray 3)).lt
    rcases hgn with e | e
    · simp only [Value.ownBlock, Option.some.injEq] at e; omega
    · omega
  clear HC HB c0 c1 c2 c3 c4 c5 hRn hUn hgn hgln
  have HC : Hid (Ctx P ((RowF (.slice (some ⟨g4, 0, none⟩) 2 cp4) 2 (([((⟨1, [by'], 0, 0⟩ : Ph), (Value.slice (some ⟨W2.heap.size, 0, none⟩) 1 1)), ((⟨ad, [k / 65536, k / 256 % 256, k % 256], 0, 0⟩ : Ph), (Value.slice (some ⟨W3.heap.size, 0, none⟩) 3 3 : Value))] : List (Ph × Value)).flatMap phCells)).star Q) w0 W4 _) := Lib.hid hCn
  have HB := Lib.hid hBn
  clear hCn hBn
  have hbx := HB.out
  have c0 := hbx.cell 0
  have c1 := hbx.cell 1
  have c2 := hbx.cell 2
  have c3 := hbx.cell 3
  have c4 := hbx.cell 4
  have c5 := hbx.cell 5
  simp only [List.getElem?_cons_succ, List.getElem?_cons_zero] at c0 c1 c2 c3 c4 c5
  clear hbx
  go_upto_region 14 with fail
  clear c0 c1 c2 c3 c4 c5 HB
  have hfin := Ctx.phDone HQ.out HC.out (by decide) (by
    intro x hx
    simp only [List.mem_cons, List.not_mem_nil, or_false] at hx
    rcases hx with rfl | rfl
    all_goals repeat (first | exact List.mem_cons_self | apply List.mem_cons_of_mem))
  have HFIN := Lib.hid hfin
  clear hfin HC
  go_wp2
  go_ret2
  exact ⟨g4, 2, cp4, [((⟨1, [by'], 0, 0⟩ : Ph), (Value.slice (some ⟨W2.heap.size, 0, none⟩) 1 1)), ((⟨ad, [k / 65536, k / 256 % 256, k % 256], 0, 0⟩ : Ph), (Value.slice (some ⟨W3.heap.size, 0, none⟩) 3 3 : Value))], _ :: [(.slice (some ⟨W3.heap.size, 0, none⟩) 3 3, ints [k / 65536, k / 256 % 256, k % 256]), (.slice none 0 0, ints []), (.slice (some ⟨W2.heap.size, 0, none⟩) 1 1, ints [by'])], rfl, by rw [HRES.out]; rfl, HFIN.out.1, HFIN.out.2⟩
set_option maxRecDepth 100000 in
set_option maxHeartbeats 8000000 in
theorem rcmd_100y0 {P Q : Own} (hQ : Q.Ok) {w0 w : World} {rows : List (Value × List Value)} (hC : Ctx P Q w0 w rows) (o : POp) (hop : opOf o.byte = o) (hoi : opIs o.byte = true) (k : Int) (a : Option Addr) (c : Nat) (data : List Int) (hd : (.slice a data.length c, ints data) ∈ rows) (hlen : data.length ≤ 512) (read : Int) (hmay : cmdMay o k data read = true) (hA : 0 < o.addr) (hM : o.mode = false) (hD : o.dummy = 0) (hI : o.inn = true) (hde : data ≠ []) (hR : read = 0) :
    Calls Tryz.prog 39 #[.agg o.cells, .int .i64 k, .slice a data.length c, .int .i64 read] w fun e w' => ∃ g m cap L rows', e = .returned (.tuple #[.slice (some ⟨g, 0, none⟩) m cap, .int .i64 0]) ∧ L.map Prod.fst = cmdPhs o k data read ∧ Ctx P Q w0 w' (rows' ++ rows) ∧ PhsV (rows' ++ rows) (.slice (some ⟨g, 0, none⟩) m cap) L := by
  have hres : cmdPhs o k data read = [⟨1, [o.byte], 0, 0⟩, ⟨o.addr, [k / 65536, k / 256 % 256, k % 256], 0, 0⟩, ⟨o.data, data, 0, 0⟩] := by
    unfold cmdPhs
    rw [if_pos hA, if_neg (show ¬ o.mode = true by rw [hM]; decide), if_neg (show ¬ 0 < o.dummy by omega), if_pos (show o.inn = true ∧ data ≠ [] from ⟨hI, hde⟩), if_neg (show ¬ 0 < read by omega)]
    rfl
  have hmy := fun w1 hrs => rmay w1 o.byte hoi k a c data hrs read (by rw [hop]; exact hmay)
  rw [hop] at hmy
  obtain ⟨by', ad, mo, du, da, inn⟩ := o
  unfold POp.cells at hmy ⊢
  dsimp only at hmy hres hA hM hD hI hop hoi ⊢
  have HMY := Lib.hid hmy
  have HRES := Lib.hid hres
  have HQ := Lib.hid hQ
  have HDD := Lib.hid hd
  have HC := Lib.hid hC
  have ha1 := i64_and255 k
  have ha2 := i64_and255 (k / 256)
  subst hM
  subst hD
  subst hI
  subst hR
  have hdl : 0 < data.length := List.length_pos_iff.2 hde
  have HDN := Lib.hid (And.intro hde hlen)
  clear hop hoi hmay hd hQ hC hres hmy
  go_enter Tryz.func39, Tryz.ntmps39
  obtain ⟨kb, hkb⟩ : ∃ kb, w.heap.size = kb := ⟨_, rfl⟩
  have hC0 := HC.out.alloc (.cells #[.int .i64 by', .int .i64 ad, .bool false, .int .i64 0, .int .i64 da, .bool true] 52)
  have HM0 := Lib.hid (HMY.out _ (hC0.rs_mem HDD.out))
  have hbn := Blk.new w [.int .i64 by', .int .i64 ad, .bool false, .int .i64 0, .int .i64 da, .bool true] 52
  rw [hkb] at hbn
  have c0 := hbn.cell 0
  have c1 := hbn.cell 1
  have c2 := hbn.cell 2
  have c3 := hbn.cell 3
  have c4 := hbn.cell 4
  have c5 := hbn.cell 5
  simp only [List.getElem?_cons_succ, List.getElem?_cons_zero] at c0 c1 c2 c3 c4 c5
  have HBN := Lib.hid hbn
  have HC0 := Lib.hid hC0
  clear hC0 hbn
  go_upto_region 3 with (go_at_call 118; refine HM0.out.mono ?_; rintro e W2 ⟨rfl, hU1⟩)
  have HC2 := Lib.hid (HC0.out.frame hU1)
  have hb2 := HBN.out.upd hU1 (fun f => f)
  clear c0 c1 c2 c3 c4 c5
  have c0 := hb2.cell 0
  simp only [List.getElem?_cons_zero] at c0
  have HB2 := Lib.hid hb2
  clear hb2 hU1 HC0 HBN HM0 HMY hkb
  have hklt := HB2.out.lt
  have hA1 := (HC2.out.lit (ints [by']) 3 1 rfl (by decide)).nilrow
  have hs1 : (W2.alloc (.cells (ints [by']).toArray 3)).heap.size = W2.heap.size + 1 := by simp
  have hC3 := hA1.phNew (phCells (⟨1, [by'], 0, 0⟩, .slice (some ⟨W2.heap.size, 0, none⟩) 1 1)) rfl
  rw [hs1] at hC3
  have HC3 := Lib.hid hC3
  have HB := Lib.hid ((HB2.out.alloc (.cells (ints [by']).toArray 3)).alloc (.cells (phCells (⟨1, [by'], 0, 0⟩, .slice (some ⟨W2.heap.size, 0, none⟩) 1 1)).toArray 156))
  clear hC3 hA1 HC2 HB2
  go_upto_region 4 with fail
  clear c0
  have hg2 : kb < W2.heap.size + 1 := by omega
  obtain ⟨g2, hgg2⟩ : ∃ g2, W2.heap.size + 1 = g2 := ⟨_, rfl⟩
  rw [hgg2] at HC3 hg2 ⊢
  have HC3' : Hid (Ctx P ((RowF (.slice (some ⟨g2, 0, none⟩) 1 1) 1 (([((⟨1, [by'], 0, 0⟩ : Ph), (Value.slice (some ⟨W2.heap.size, 0, none⟩) 1 1))] : List (Ph × Value)).flatMap phCells)).star Q) w0 ((W2.alloc (.cells (ints [by']).toArray 3)).alloc (.cells (phCells (⟨1, [by'], 0, 0⟩, .slice (some ⟨W2.heap.size, 0, none⟩) 1 1)).toArray 156)) (((.slice none 0 0, ints []) :: (.slice (some ⟨W2.heap.size, 0, none⟩) 1 1, ints [by']) :: rows))) := HC3
  obtain ⟨W3, hW3⟩ : ∃ W3, (W2.alloc (.cells (ints [by']).toArray 3)).alloc (.cells (phCells (⟨1, [by'], 0, 0⟩, .slice (some ⟨W2.heap.size, 0, none⟩) 1 1)).toArray 156) = W3 := ⟨_, rfl⟩
  rw [hW3] at HC3' HB
  change Code.wp _ _ _ _ ((W2.alloc (.cells (ints [by']).toArray 3)).alloc (.cells (phCells (⟨1, [by'], 0, 0⟩, .slice (some ⟨W2.heap.size, 0, none⟩) 1 1)).toArray 156))
  rw [hW3]
  clear HC3 hW3 hgg2 hs1 hklt
  have HC := HC3'
  clear HC3'

  have hbx := HB.out
  have c0 := hbx.cell 0
  have c1 := hbx.cell 1
  have c2 := hbx.cell 2
  have c3 := hbx.cell 3
  have c4 := hbx.cell 4
  have c5 := hbx.cell 5
  simp only [List.getElem?_cons_succ, List.getElem?_cons_zero] at c0 c1 c2 c3 c4 c5
  clear hbx
  have hsz4 : (W3.alloc (.cells (ints [k / 65536, k / 256 % 256, k % 256]).toArray 3)).heap.size = W3.heap.size + 1 := by simp
  go_upto_region 6 with (at_builtin; go_must (refine wpList_ph1 rfl _ _ rfl (.slice (some ⟨g2, 0, none⟩) 1 1) 1 (([((⟨1, [by'], 0, 0⟩ : Ph), (Value.slice (some ⟨W2.heap.size, 0, none⟩) 1 1))] : List (Ph × Value)).flatMap phCells) rfl (W3.alloc (.cells (ints [k / 65536, k / 256 % 256, k % 256]).toArray 3)) (phCells (⟨ad, [k / 65536, k / 256 % 256, k % 256], 0, 0⟩, .slice (some ⟨W3.heap.size, 0, none⟩) 3 3)) rfl (phCells_one _ _ _ _) ⟨rfl, rfl, rfl⟩ (own_upd HC.out.phGet ((Upd.refl none' W3).alloc _) (fun _ _ f => f)) (by rw [hsz4]; rfl) (by decide) ?_); intro g4 cp4 W4 hRn hUn hgn hgln)
  have hCn := Ctx.phStep HQ.out (HC.out.lit (ints [k / 65536, k / 256 % 256, k % 256]) 3 3 rfl (by decide)) hRn hUn (fun k hk => by simp only [Value.ownBlock, Option.some.injEq] at hk; rw [← hk]; exact hgn)
  have hBn := (HB.out.alloc (.cells (ints [k / 65536, k / 256 % 256, k % 256]).toArray 3)).upd hUn (fun e => by simp only [Value.ownBlock, Option.some.injEq] at e; omega)
  have hkn : kb < g4 := by
    have := (HB.out.alloc (.cells (ints [k / 65536, k / 256 % 256, k % 256]).toArray 3)).lt
    rcases hgn with e | e
    · simp only [Value.ownBlock, Option.some.injEq] at e; omega
    · omega
  clear HC HB c0 c1 c2 c3 c4 c5 hRn hUn hgn hgln
  have HC : Hid (Ctx P ((RowF (.slice (some ⟨g4, 0, none⟩) 2 cp4) 2 (([((⟨1, [by'], 0, 0⟩ : Ph), (Value.slice (some ⟨W2.heap.size, 0, none⟩) 1 1)), ((⟨ad, [k / 65536, k / 256 % 256, k % 256], 0, 0⟩ : Ph), (Value.slice (some ⟨W3.heap.size, 0, none⟩) 3 3 : Value))] : List (Ph × Value)).flatMap phCells)).star Q) w0 W4 _) := Lib.hid hCn
  have HB := Lib.hid hBn
  clear hCn hBn
  have hbx := HB.out
  have c0 := hbx.cell 0
  have c1 := hbx.cell 1
  have c2 := hbx.cell 2
  have c3 := hbx.cell 3
  have c4 := hbx.cell 4
  have c5 := hbx.cell 5
  simp only [List.getElem?_cons_succ, List.getElem?_cons_zero] at c0 c1 c2 c3 c4 c5
  clear hbx
  go_upto_region 11 with fail
  have hmem : (Value.slice a data.length c, ints data) ∈ (((.slice (some ⟨W3.heap.size, 0, none⟩) 3 3 : Value), ints [k / 65536, k / 256 % 256, k % 256]) :: ((.slice none 0 0 : Value), ints []) :: ((.slice (some ⟨W2.heap.size, 0, none⟩) 1 1 : Value), ints [by']) :: rows) := by repeat (first | exact HDD.out | apply List.mem_cons_of_mem)
  have HRSC := Lib.hid (HC.out.drew.rs_mem hmem)
  clear hmem
  have HCH : Hid (∀ (V : World) (va : Option Addr) (vc : Nat), Row V 3 (.slice va data.length vc) (ints data) → (∀ k, (Value.slice va data.length vc).ownBlock = some k → W4.drew.heap.size ≤ k ∧ k < V.heap.size) → Upd none' W4.drew V → V.cell? ⟨kb, 4, none⟩ = some (.int .i64 da) ∧ Hid (Ctx P ((RowF (.slice (some ⟨g4, 0, none⟩) 2 cp4) 2 (([((⟨1, [by'], 0, 0⟩ : Ph), (Value.slice (some ⟨W2.heap.size, 0, none⟩) 1 1)), ((⟨ad, [k / 65536, k / 256 % 256, k % 256], 0, 0⟩ : Ph), (Value.slice (some ⟨W3.heap.size, 0, none⟩) 3 3 : Value))] : List (Ph × Value)).flatMap phCells)).star Q) w0 V (((.slice va data.length vc : Value), ints data) :: (((.slice (some ⟨W3.heap.size, 0, none⟩) 3 3 : Value), ints [k / 65536, k / 256 % 256, k % 256]) :: ((.slice none 0 0 : Value), ints []) :: ((.slice (some ⟨W2.heap.size, 0, none⟩) 1 1 : Value), ints [by']) :: rows))) ∧ Hid (Blk V kb [.int .i64 by', .int .i64 ad, .bool false, .int .i64 0, .int .i64 da, .bool true] 52)) := Lib.hid (by
    intro V va vc hR hf hU
    have hb := HB.out.drew.upd hU (fun f => f)
    have hc := hb.cell 4
    simp only [List.getElem?_cons_succ, List.getElem?_cons_zero] at hc
    have hrs := hR.rs (by rw [ints_len]; omega)
    exact ⟨hc, Lib.hid (HC.out.drew.newRow hU hrs hf hR.mk), Lib.hid hb⟩)
  have hlk11 : kb < W4.drew.heap.size := HB.out.drew.lt
  go_region_held3 (fun w' => w'.cell? ⟨kb, 4, none⟩ = some (.int .i64 da)) (first | exact c4 | exact cc11 | exact (World.cell?_alloc_lt _ _ _ hlk11).trans c4 | exact (World.cell?_alloc_lt _ _ _ hl11).trans cc11 | exact (hUn.cell (p := ⟨kb, 4, none⟩) hl11 (fun e => by simp only [Value.ownBlock, Option.some.injEq] at e; omega)).trans cc11) (first | (refine step_appE rfl _ _ rfl W4.drew ⟨rfl, rfl, rfl⟩ rfl _ _ data rfl HRSC.out HDN.out.1 HDN.out.2 ?_; intro va11 vc11 V5 hRc11 hfc11 hUc11; obtain ⟨cc11, HCc11, HBc11⟩ := HCH.out _ _ _ hRc11 hfc11 hUc11; have hl11 := HBc11.out.lt; have hflag : True := trivial) | (clear hflag; go_must (refine step_ph1 rfl _ _ rfl (.slice (some ⟨g4, 0, none⟩) 2 cp4) 2 (([((⟨1, [by'], 0, 0⟩ : Ph), (Value.slice (some ⟨W2.heap.size, 0, none⟩) 1 1)), ((⟨ad, [k / 65536, k / 256 % 256, k % 256], 0, 0⟩ : Ph), (Value.slice (some ⟨W3.heap.size, 0, none⟩) 3 3 : Value))] : List (Ph × Value)).flatMap phCells) rfl V5 (phCells (⟨da, data, 0, 0⟩, .slice va11 data.length vc11)) rfl (phCells_one _ _ _ _) ⟨rfl, rfl, rfl⟩ HCc11.out.phGet rfl (by decide) ?_); intro g5 cp5 W5 hRn hUn hgn hgln))
  have hCn := Ctx.phStep HQ.out (HCc11.out) hRn hUn (fun k hk => by simp only [Value.ownBlock, Option.some.injEq] at hk; rw [← hk]; exact hgn)
  have hBn := (HBc11.out).upd hUn (fun e => by simp only [Value.ownBlock, Option.some.injEq] at e; omega)
  have hkn : kb < g5 := by
    have := (HBc11.out).lt
    rcases hgn with e | e
    · simp only [Value.ownBlock, Option.some.injEq] at e; omega
    · omega
  clear HC HB c0 c1 c2 c3 c4 c5 hRn hUn hgn hgln
  have HC : Hid (Ctx P ((RowF (.slice (some ⟨g5, 0, none⟩) 3 cp5) 3 (([((⟨1, [by'], 0, 0⟩ : Ph), (Value.slice (some ⟨W2.heap.size, 0, none⟩) 1 1)), ((⟨ad, [k / 65536, k / 256 % 256, k % 256], 0, 0⟩ : Ph), (Value.slice (some ⟨W3.heap.size, 0, none⟩) 3 3 : Value)), ((⟨da, data, 0, 0⟩ : Ph), (Value.slice va11 data.length vc11 : Value))] : List (Ph × Value)).flatMap phCells)).star Q) w0 W5 _) := Lib.hid hCn
  have HB := Lib.hid hBn
  clear hCn hBn
  have hbx := HB.out
  have c0 := hbx.cell 0
  have c1 := hbx.cell 1
  have c2 := hbx.cell 2
  have c3 := hbx.cell 3
  have c4 := hbx.cell 4
  have c5 := hbx.cell 5
  simp only [List.getElem?_cons_succ, List.getElem?_cons_zero] at c0 c1 c2 c3 c4 c5
  clear hbx
  go_upto_region 14 with fail
  clear c0 c1 c2 c3 c4 c5 HB
  have hfin := Ctx.phDone HQ.out HC.out (by decide) (by
    intro x hx
    simp only [List.mem_cons, List.not_mem_nil, or_false] at hx
    rcases hx with rfl | rfl | rfl
    all_goals repeat (first | exact List.mem_cons_self | apply List.mem_cons_of_mem))
  have HFIN := Lib.hid hfin
  clear hfin HC
  go_wp2
  go_ret2
  exact ⟨g5, 3, cp5, [((⟨1, [by'], 0, 0⟩ : Ph), (Value.slice (some ⟨W2.heap.size, 0, none⟩) 1 1)), ((⟨ad, [k / 65536, k / 256 % 256, k % 256], 0, 0⟩ : Ph), (Value.slice (some ⟨W3.heap.size, 0, none⟩) 3 3 : Value)), ((⟨da, data, 0, 0⟩ : Ph), (Value.slice va11 data.length vc11 : Value))], _ :: [(.slice va11 data.length vc11, ints data), (.slice (some ⟨W3.heap.size, 0, none⟩) 3 3, ints [k / 65536, k / 256 % 256, k % 256]), (.slice none 0 0, ints []), (.slice (some ⟨W2.heap.size, 0, none⟩) 1 1, ints [by'])], rfl, by rw [HRES.out]; rfl, HFIN.out.1, HFIN.out.2⟩
set_option maxRecDepth 100000 in
set_option maxHeartbeats 8000000 in
theorem rcmd_100n1 {P Q : Own} (hQ : Q.Ok) {w0 w : World} {rows : List (Value × List Value)} (hC : Ctx P Q w0 w rows) (o : POp) (hop : opOf o.byte = o) (hoi : opIs o.byte = true) (k : Int) (a : Option Addr) (c : Nat) (data : List Int) (hd : (.slice a data.length c, ints data) ∈ rows) (_ : data.length ≤ 512) (read : Int) (hmay : cmdMay o k data read = true) (hA : 0 < o.addr) (hM : o.mode = false) (hD : o.dummy = 0) (hI : o.inn = false) (hR : 0 < read) :
    Calls Tryz.prog 39 #[.agg o.cells, .int .i64 k, .slice a data.length c, .int .i64 read] w fun e w' => ∃ g m cap L rows', e = .returned (.tuple #[.slice (some ⟨g, 0, none⟩) m cap, .int .i64 0]) ∧ L.map Prod.fst = cmdPhs o k data read ∧ Ctx P Q w0 w' (rows' ++ rows) ∧ PhsV (rows' ++ rows) (.slice (some ⟨g, 0, none⟩) m cap) L := by
  have hres : cmdPhs o k data read = [⟨1, [o.byte], 0, 0⟩, ⟨o.addr, [k / 65536, k / 256 % 256, k % 256], 0, 0⟩, ⟨o.data, [], 0, read⟩] := by
    unfold cmdPhs
    rw [if_pos hA, if_neg (show ¬ o.mode = true by rw [hM]; decide), if_neg (show ¬ 0 < o.dummy by omega), if_neg (show ¬ (o.inn = true ∧ data ≠ []) by rw [hI]; simp), if_pos hR]
    rfl
  have hmy := fun w1 hrs => rmay w1 o.byte hoi k a c data hrs read (by rw [hop]; exact hmay)
  rw [hop] at hmy
  obtain ⟨by', ad, mo, du, da, inn⟩ := o
  unfold POp.cells at hmy ⊢
  dsimp only at hmy hres hA hM hD hI hop hoi ⊢
  have HMY := Lib.hid hmy
  have HRES := Lib.hid hres
  have HQ := Lib.hid hQ
  have HDD := Lib.hid hd
  have HC := Lib.hid hC
  have ha1 := i64_and255 k
  have ha2 := i64_and255 (k / 256)
  subst hM
  subst hD
  subst hI
  clear hop hoi hmay hd hQ hC hres hmy
  go_enter Tryz.func39, Tryz.ntmps39
  obtain ⟨kb, hkb⟩ : ∃ kb, w.heap.size = kb := ⟨_, rfl⟩
  have hC0 := HC.out.alloc (.cells #[.int .i64 by', .int .i64 ad, .bool false, .int .i64 0, .int .i64 da, .bool false] 52)
  have HM0 := Lib.hid (HMY.out _ (hC0.rs_mem HDD.out))
  have hbn := Blk.new w [.int .i64 by', .int .i64 ad, .bool false, .int .i64 0, .int .i64 da, .bool false] 52
  rw [hkb] at hbn
  have c0 := hbn.cell 0
  have c1 := hbn.cell 1
  have c2 := hbn.cell 2
  have c3 := hbn.cell 3
  have c4 := hbn.cell 4
  have c5 := hbn.cell 5
  simp only [List.getElem?_cons_succ, List.getElem?_cons_zero] at c0 c1 c2 c3 c4 c5
  have HBN := Lib.hid hbn
  have HC0 := Lib.hid hC0
  clear hC0 hbn
  go_upto_region 3 with (go_at_call 118; refine HM0.out.mono ?_; rintro e W2 ⟨rfl, hU1⟩)
  have HC2 := Lib.hid (HC0.out.frame hU1)
  have hb2 := HBN.out.upd hU1 (fun f => f)
  clear c0 c1 c2 c3 c4 c5
  have c0 := hb2.cell 0
  simp only [List.getElem?_cons_zero] at c0
  have HB2 := Lib.hid hb2
  clear hb2 hU1 HC0 HBN HM0 HMY hkb
  have hklt := HB2.out.lt
  have hA1 := (HC2.out.lit (ints [by']) 3 1 rfl (by decide)).nilrow
  have hs1 : (W2.alloc (.cells (ints [by']).toArray 3)).heap.size = W2.heap.size + 1 := by simp
  have hC3 := hA1.phNew (phCells (⟨1, [by'], 0, 0⟩, .slice (some ⟨W2.heap.size, 0, none⟩) 1 1)) rfl
  rw [hs1] at hC3
  have HC3 := Lib.hid hC3
  have HB := Lib.hid ((HB2.out.alloc (.cells (ints [by']).toArray 3)).alloc (.cells (phCells (⟨1, [by'], 0, 0⟩, .slice (some ⟨W2.heap.size, 0, none⟩) 1 1)).toArray 156))
  clear hC3 hA1 HC2 HB2
  go_upto_region 4 with fail
  clear c0
  have hg2 : kb < W2.heap.size + 1 := by omega
  obtain ⟨g2, hgg2⟩ : ∃ g2, W2.heap.size + 1 = g2 := ⟨_, rfl⟩
  rw [hgg2] at HC3 hg2 ⊢
  have HC3' : Hid (Ctx P ((RowF (.slice (some ⟨g2, 0, none⟩) 1 1) 1 (([((⟨1, [by'], 0, 0⟩ : Ph), (Value.slice (some ⟨W2.heap.size, 0, none⟩) 1 1))] : List (Ph × Value)).flatMap phCells)).star Q) w0 ((W2.alloc (.cells (ints [by']).toArray 3)).alloc (.cells (phCells (⟨1, [by'], 0, 0⟩, .slice (some ⟨W2.heap.size, 0, none⟩) 1 1)).toArray 156)) (((.slice none 0 0, ints []) :: (.slice (some ⟨W2.heap.size, 0, none⟩) 1 1, ints [by']) :: rows))) := HC3
  obtain ⟨W3, hW3⟩ : ∃ W3, (W2.alloc (.cells (ints [by']).toArray 3)).alloc (.cells (phCells (⟨1, [by'], 0, 0⟩, .slice (some ⟨W2.heap.size, 0, none⟩) 1 1)).toArray 156) = W3 := ⟨_, rfl⟩
  rw [hW3] at HC3' HB
  change Code.wp _ _ _ _ ((W2.alloc (.cells (ints [by']).toArray 3)).alloc (.cells (phCells (⟨1, [by'], 0, 0⟩, .slice (some ⟨W2.heap.size, 0, none⟩) 1 1)).toArray 156))
  rw [hW3]
  clear HC3 hW3 hgg2 hs1 hklt
  have HC := HC3'
  clear HC3'

  have hbx := HB.out
  have c0 := hbx.cell 0
  have c1 := hbx.cell 1
  have c2 := hbx.cell 2
  have c3 := hbx.cell 3
  have c4 := hbx.cell 4
  have c5 := hbx.cell 5
  simp only [List.getElem?_cons_succ, List.getElem?_cons_zero] at c0 c1 c2 c3 c4 c5
  clear hbx
  have hsz4 : (W3.alloc (.cells (ints [k / 65536, k / 256 % 256, k % 256]).toArray 3)).heap.size = W3.heap.size + 1 := by simp
  go_upto_region 6 with (at_builtin; go_must (refine wpList_ph1 rfl _ _ rfl (.slice (some ⟨g2, 0, none⟩) 1 1) 1 (([((⟨1, [by'], 0, 0⟩ : Ph), (Value.slice (some ⟨W2.heap.size, 0, none⟩) 1 1))] : List (Ph × Value)).flatMap phCells) rfl (W3.alloc (.cells (ints [k / 65536, k / 256 % 256, k % 256]).toArray 3)) (phCells (⟨ad, [k / 65536, k / 256 % 256, k % 256], 0, 0⟩, .slice (some ⟨W3.heap.size, 0, none⟩) 3 3)) rfl (phCells_one _ _ _ _) ⟨rfl, rfl, rfl⟩ (own_upd HC.out.phGet ((Upd.refl none' W3).alloc _) (fun _ _ f => f)) (by rw [hsz4]; rfl) (by decide) ?_); intro g4 cp4 W4 hRn hUn hgn hgln)
  have hCn := Ctx.phStep HQ.out (HC.out.lit (ints [k / 65536, k / 256 % 256, k % 256]) 3 3 rfl (by decide)) hRn hUn (fun k hk => by simp only [Value.ownBlock, Option.some.injEq] at hk; rw [← hk]; exact hgn)
  have hBn := (HB.out.alloc (.cells (ints [k / 65536, k / 256 % 256, k % 256]).toArray 3)).upd hUn (fun e => by simp only [Value.ownBlock, Option.some.injEq] at e; omega)
  have hkn : kb < g4 := by
    have := (HB.out.alloc (.cells (ints [k / 65536, k / 256 % 256, k % 256]).toArray 3)).lt
    rcases hgn with e | e
    · simp only [Value.ownBlock, Option.some.injEq] at e; omega
    · omega
  clear HC HB c0 c1 c2 c3 c4 c5 hRn hUn hgn hgln
  have HC : Hid (Ctx P ((RowF (.slice (some ⟨g4, 0, none⟩) 2 cp4) 2 (([((⟨1, [by'], 0, 0⟩ : Ph), (Value.slice (some ⟨W2.heap.size, 0, none⟩) 1 1)), ((⟨ad, [k / 65536, k / 256 % 256, k % 256], 0, 0⟩ : Ph), (Value.slice (some ⟨W3.heap.size, 0, none⟩) 3 3 : Value))] : List (Ph × Value)).flatMap phCells)).star Q) w0 W4 _) := Lib.hid hCn
  have HB := Lib.hid hBn
  clear hCn hBn
  have hbx := HB.out
  have c0 := hbx.cell 0
  have c1 := hbx.cell 1
  have c2 := hbx.cell 2
  have c3 := hbx.cell 3
  have c4 := hbx.cell 4
  have c5 := hbx.cell 5
  simp only [List.getElem?_cons_succ, List.getElem?_cons_zero] at c0 c1 c2 c3 c4 c5
  clear hbx
  go_upto_region 14 with (at_builtin; go_must (refine wpList_ph1 rfl _ _ rfl (.slice (some ⟨g4, 0, none⟩) 2 cp4) 2 (([((⟨1, [by'], 0, 0⟩ : Ph), (Value.slice (some ⟨W2.heap.size, 0, none⟩) 1 1)), ((⟨ad, [k / 65536, k / 256 % 256, k % 256], 0, 0⟩ : Ph), (Value.slice (some ⟨W3.heap.size, 0, none⟩) 3 3 : Value))] : List (Ph × Value)).flatMap phCells) rfl W4 (phCells (⟨da, [], 0, read⟩, .slice none 0 0)) rfl (phCells_one _ _ _ _) ⟨rfl, rfl, rfl⟩ HC.out.phGet rfl (by decide) ?_); intro g5 cp5 W5 hRn hUn hgn hgln)
  have hCn := Ctx.phStep HQ.out (HC.out) hRn hUn (fun k hk => by simp only [Value.ownBlock, Option.some.injEq] at hk; rw [← hk]; exact hgn)
  have hBn := (HB.out).upd hUn (fun e => by simp only [Value.ownBlock, Option.some.injEq] at e; omega)
  have hkn : kb < g5 := by
    have := (HB.out).lt
    rcases hgn with e | e
    · simp only [Value.ownBlock, Option.some.injEq] at e; omega
    · omega
  clear HC HB c0 c1 c2 c3 c4 c5 hRn hUn hgn hgln
  have HC : Hid (Ctx P ((RowF (.slice (some ⟨g5, 0, none⟩) 3 cp5) 3 (([((⟨1, [by'], 0, 0⟩ : Ph), (Value.slice (some ⟨W2.heap.size, 0, none⟩) 1 1)), ((⟨ad, [k / 65536, k / 256 % 256, k % 256], 0, 0⟩ : Ph), (Value.slice (some ⟨W3.heap.size, 0, none⟩) 3 3 : Value)), ((⟨da, [], 0, read⟩ : Ph), (Value.slice none 0 0 : Value))] : List (Ph × Value)).flatMap phCells)).star Q) w0 W5 _) := Lib.hid hCn
  have HB := Lib.hid hBn
  clear hCn hBn
  have hbx := HB.out
  have c0 := hbx.cell 0
  have c1 := hbx.cell 1
  have c2 := hbx.cell 2
  have c3 := hbx.cell 3
  have c4 := hbx.cell 4
  have c5 := hbx.cell 5
  simp only [List.getElem?_cons_succ, List.getElem?_cons_zero] at c0 c1 c2 c3 c4 c5
  clear hbx
  go_upto_region 14 with fail
  clear c0 c1 c2 c3 c4 c5 HB
  have hfin := Ctx.phDone HQ.out HC.out (by decide) (by
    intro x hx
    simp only [List.mem_cons, List.not_mem_nil, or_false] at hx
    rcases hx with rfl | rfl | rfl
    all_goals repeat (first | exact List.mem_cons_self | apply List.mem_cons_of_mem))
  have HFIN := Lib.hid hfin
  clear hfin HC
  go_wp2
  go_ret2
  exact ⟨g5, 3, cp5, [((⟨1, [by'], 0, 0⟩ : Ph), (Value.slice (some ⟨W2.heap.size, 0, none⟩) 1 1)), ((⟨ad, [k / 65536, k / 256 % 256, k % 256], 0, 0⟩ : Ph), (Value.slice (some ⟨W3.heap.size, 0, none⟩) 3 3 : Value)), ((⟨da, [], 0, read⟩ : Ph), (Value.slice none 0 0 : Value))], _ :: [(.slice (some ⟨W3.heap.size, 0, none⟩) 3 3, ints [k / 65536, k / 256 % 256, k % 256]), (.slice none 0 0, ints []), (.slice (some ⟨W2.heap.size, 0, none⟩) 1 1, ints [by'])], rfl, by rw [HRES.out]; rfl, HFIN.out.1, HFIN.out.2⟩
set_option maxRecDepth 100000 in
set_option maxHeartbeats 8000000 in
theorem rcmd_101n0 {P Q : Own} (hQ : Q.Ok) {w0 w : World} {rows : List (Value × List Value)} (hC : Ctx P Q w0 w rows) (o : POp) (hop : opOf o.byte = o) (hoi : opIs o.byte = true) (k : Int) (a : Option Addr) (c : Nat) (data : List Int) (hd : (.slice a data.length c, ints data) ∈ rows) (_ : data.length ≤ 512) (read : Int) (hmay : cmdMay o k data read = true) (hA : 0 < o.addr) (hM : o.mode = false) (hD : 0 < o.dummy) (hI : o.inn = false) (hR : read = 0) :
    Calls Tryz.prog 39 #[.agg o.cells, .int .i64 k, .slice a data.length c, .int .i64 read] w fun e w' => ∃ g m cap L rows', e = .returned (.tuple #[.slice (some ⟨g, 0, none⟩) m cap, .int .i64 0]) ∧ L.map Prod.fst = cmdPhs o k data read ∧ Ctx P Q w0 w' (rows' ++ rows) ∧ PhsV (rows' ++ rows) (.slice (some ⟨g, 0, none⟩) m cap) L := by
  have hres : cmdPhs o k data read = [⟨1, [o.byte], 0, 0⟩, ⟨o.addr, [k / 65536, k / 256 % 256, k % 256], 0, 0⟩, ⟨0, [], o.dummy, 0⟩] := by
    unfold cmdPhs
    rw [if_pos hA, if_neg (show ¬ o.mode = true by rw [hM]; decide), if_pos hD, if_neg (show ¬ (o.inn = true ∧ data ≠ []) by rw [hI]; simp), if_neg (show ¬ 0 < read by omega)]
    rfl
  have hmy := fun w1 hrs => rmay w1 o.byte hoi k a c data hrs read (by rw [hop]; exact hmay)
  rw [hop] at hmy
  obtain ⟨by', ad, mo, du, da, inn⟩ := o
  unfold POp.cells at hmy ⊢
  dsimp only at hmy hres hA hM hD hI hop hoi ⊢
  have HMY := Lib.hid hmy
  have HRES := Lib.hid hres
  have HQ := Lib.hid hQ
  have HDD := Lib.hid hd
  have HC := Lib.hid hC
  have ha1 := i64_and255 k
  have ha2 := i64_and255 (k / 256)
  subst hM
  subst hI
  subst hR
  clear hop hoi hmay hd hQ hC hres hmy
  go_enter Tryz.func39, Tryz.ntmps39
  obtain ⟨kb, hkb⟩ : ∃ kb, w.heap.size = kb := ⟨_, rfl⟩
  have hC0 := HC.out.alloc (.cells #[.int .i64 by', .int .i64 ad, .bool false, .int .i64 du, .int .i64 da, .bool false] 52)
  have HM0 := Lib.hid (HMY.out _ (hC0.rs_mem HDD.out))
  have hbn := Blk.new w [.int .i64 by', .int .i64 ad, .bool false, .int .i64 du, .int .i64 da, .bool false] 52
  rw [hkb] at hbn
  have c0 := hbn.cell 0
  have c1 := hbn.cell 1
  have c2 := hbn.cell 2
  have c3 := hbn.cell 3
  have c4 := hbn.cell 4
  have c5 := hbn.cell 5
  simp only [List.getElem?_cons_succ, List.getElem?_cons_zero] at c0 c1 c2 c3 c4 c5
  have HBN := Lib.hid hbn
  have HC0 := Lib.hid hC0
  clear hC0 hbn
  go_upto_region 3 with (go_at_call 118; refine HM0.out.mono ?_; rintro e W2 ⟨rfl, hU1⟩)
  have HC2 := Lib.hid (HC0.out.frame hU1)
  have hb2 := HBN.out.upd hU1 (fun f => f)
  clear c0 c1 c2 c3 c4 c5
  have c0 := hb2.cell 0
  simp only [List.getElem?_cons_zero] at c0
  have HB2 := Lib.hid hb2
  clear hb2 hU1 HC0 HBN HM0 HMY hkb
  have hklt := HB2.out.lt
  have hA1 := (HC2.out.lit (ints [by']) 3 1 rfl (by decide)).nilrow
  have hs1 : (W2.alloc (.cells (ints [by']).toArray 3)).heap.size = W2.heap.size + 1 := by simp
  have hC3 := hA1.phNew (phCells (⟨1, [by'], 0, 0⟩, .slice (some ⟨W2.heap.size, 0, none⟩) 1 1)) rfl
  rw [hs1] at hC3
  have HC3 := Lib.hid hC3
  have HB := Lib.hid ((HB2.out.alloc (.cells (ints [by']).toArray 3)).alloc (.cells (phCells (⟨1, [by'], 0, 0⟩, .slice (some ⟨W2.heap.size, 0, none⟩) 1 1)).toArray 156))
  clear hC3 hA1 HC2 HB2
  go_upto_region 4 with fail
  clear c0
  have hg2 : kb < W2.heap.size + 1 := by omega
  obtain ⟨g2, hgg2⟩ : ∃ g2, W2.heap.size + 1 = g2 := ⟨_, rfl⟩
  rw [hgg2] at HC3 hg2 ⊢
  have HC3' : Hid (Ctx P ((RowF (.slice (some ⟨g2, 0, none⟩) 1 1) 1 (([((⟨1, [by'], 0, 0⟩ : Ph), (Value.slice (some ⟨W2.heap.size, 0, none⟩) 1 1))] : List (Ph × Value)).flatMap phCells)).star Q) w0 ((W2.alloc (.cells (ints [by']).toArray 3)).alloc (.cells (phCells (⟨1, [by'], 0, 0⟩, .slice (some ⟨W2.heap.size, 0, none⟩) 1 1)).toArray 156)) (((.slice none 0 0, ints []) :: (.slice (some ⟨W2.heap.size, 0, none⟩) 1 1, ints [by']) :: rows))) := HC3
  obtain ⟨W3, hW3⟩ : ∃ W3, (W2.alloc (.cells (ints [by']).toArray 3)).alloc (.cells (phCells (⟨1, [by'], 0, 0⟩, .slice (some ⟨W2.heap.size, 0, none⟩) 1 1)).toArray 156) = W3 := ⟨_, rfl⟩
  rw [hW3] at HC3' HB
  change Code.wp _ _ _ _ ((W2.alloc (.cells (ints [by']).toArray 3)).alloc (.cells (phCells (⟨1, [by'], 0, 0⟩, .slice (some ⟨W2.heap.size, 0, none⟩) 1 1)).toArray 156))
  rw [hW3]
  clear HC3 hW3 hgg2 hs1 hklt
  have HC := HC3'
  clear HC3'

  have hbx := HB.out
  have c0 := hbx.cell 0
  have c1 := hbx.cell 1
  have c2 := hbx.cell 2
  have c3 := hbx.cell 3
  have c4 := hbx.cell 4
  have c5 := hbx.cell 5
  simp only [List.getElem?_cons_succ, List.getElem?_cons_zero] at c0 c1 c2 c3 c4 c5
  clear hbx
  have hsz4 : (W3.alloc (.cells (ints [k / 65536, k / 256 % 256, k % 256]).toArray 3)).heap.size = W3.heap.size + 1 := by simp
  go_upto_region 6 with (at_builtin; go_must (refine wpList_ph1 rfl _ _ rfl (.slice (some ⟨g2, 0, none⟩) 1 1) 1 (([((⟨1, [by'], 0, 0⟩ : Ph), (Value.slice (some ⟨W2.heap.size, 0, none⟩) 1 1))] : List (Ph × Value)).flatMap phCells) rfl (W3.alloc (.cells (ints [k / 65536, k / 256 % 256, k % 256]).toArray 3)) (phCells (⟨ad, [k / 65536, k / 256 % 256, k % 256], 0, 0⟩, .slice (some ⟨W3.heap.size, 0, none⟩) 3 3)) rfl (phCells_one _ _ _ _) ⟨rfl, rfl, rfl⟩ (own_upd HC.out.phGet ((Upd.refl none' W3).alloc _) (fun _ _ f => f)) (by rw [hsz4]; rfl) (by decide) ?_); intro g4 cp4 W4 hRn hUn hgn hgln)
  have hCn := Ctx.phStep HQ.out (HC.out.lit (ints [k / 65536, k / 256 % 256, k % 256]) 3 3 rfl (by decide)) hRn hUn (fun k hk => by simp only [Value.ownBlock, Option.some.injEq] at hk; rw [← hk]; exact hgn)
  have hBn := (HB.out.alloc (.cells (ints [k / 65536, k / 256 % 256, k % 256]).toArray 3)).upd hUn (fun e => by simp only [Value.ownBlock, Option.some.injEq] at e; omega)
  have hkn : kb < g4 := by
    have := (HB.out.alloc (.cells (ints [k / 65536, k / 256 % 256, k % 256]).toArray 3)).lt
    rcases hgn with e | e
    · simp only [Value.ownBlock, Option.some.injEq] at e; omega
    · omega
  clear HC HB c0 c1 c2 c3 c4 c5 hRn hUn hgn hgln
  have HC : Hid (Ctx P ((RowF (.slice (some ⟨g4, 0, none⟩) 2 cp4) 2 (([((⟨1, [by'], 0, 0⟩ : Ph), (Value.slice (some ⟨W2.heap.size, 0, none⟩) 1 1)), ((⟨ad, [k / 65536, k / 256 % 256, k % 256], 0, 0⟩ : Ph), (Value.slice (some ⟨W3.heap.size, 0, none⟩) 3 3 : Value))] : List (Ph × Value)).flatMap phCells)).star Q) w0 W4 _) := Lib.hid hCn
  have HB := Lib.hid hBn
  clear hCn hBn
  have hbx := HB.out
  have c0 := hbx.cell 0
  have c1 := hbx.cell 1
  have c2 := hbx.cell 2
  have c3 := hbx.cell 3
  have c4 := hbx.cell 4
  have c5 := hbx.cell 5
  simp only [List.getElem?_cons_succ, List.getElem?_cons_zero] at c0 c1 c2 c3 c4 c5
  clear hbx
  go_upto_region 10 with (at_builtin; go_must (refine wpList_ph1 rfl _ _ rfl (.slice (some ⟨g4, 0, none⟩) 2 cp4) 2 (([((⟨1, [by'], 0, 0⟩ : Ph), (Value.slice (some ⟨W2.heap.size, 0, none⟩) 1 1)), ((⟨ad, [k / 65536, k / 256 % 256, k % 256], 0, 0⟩ : Ph), (Value.slice (some ⟨W3.heap.size, 0, none⟩) 3 3 : Value))] : List (Ph × Value)).flatMap phCells) rfl W4 (phCells (⟨0, [], du, 0⟩, .slice none 0 0)) rfl (phCells_one _ _ _ _) ⟨rfl, rfl, rfl⟩ HC.out.phGet rfl (by decide) ?_); intro g5 cp5 W5 hRn hUn hgn hgln)
  have hCn := Ctx.phStep HQ.out (HC.out) hRn hUn (fun k hk => by simp only [Value.ownBlock, Option.some.injEq] at hk; rw [← hk]; exact hgn)
  have hBn := (HB.out).upd hUn (fun e => by simp only [Value.ownBlock, Option.some.injEq] at e; omega)
  have hkn : kb < g5 := by
    have := (HB.out).lt
    rcases hgn with e | e
    · simp only [Value.ownBlock, Option.some.injEq] at e; omega
    · omega
  clear HC HB c0 c1 c2 c3 c4 c5 hRn hUn hgn hgln
  have HC : Hid (Ctx P ((RowF (.slice (some ⟨g5, 0, none⟩) 3 cp5) 3 (([((⟨1, [by'], 0, 0⟩ : Ph), (Value.slice (some ⟨W2.heap.size, 0, none⟩) 1 1)), ((⟨ad, [k / 65536, k / 256 % 256, k % 256], 0, 0⟩ : Ph), (Value.slice (some ⟨W3.heap.size, 0, none⟩) 3 3 : Value)), ((⟨0, [], du, 0⟩ : Ph), (Value.slice none 0 0 : Value))] : List (Ph × Value)).flatMap phCells)).star Q) w0 W5 _) := Lib.hid hCn
  have HB := Lib.hid hBn
  clear hCn hBn
  have hbx := HB.out
  have c0 := hbx.cell 0
  have c1 := hbx.cell 1
  have c2 := hbx.cell 2
  have c3 := hbx.cell 3
  have c4 := hbx.cell 4
  have c5 := hbx.cell 5
  simp only [List.getElem?_cons_succ, List.getElem?_cons_zero] at c0 c1 c2 c3 c4 c5
  clear hbx
  go_upto_region 14 with fail
  clear c0 c1 c2 c3 c4 c5 HB
  have hfin := Ctx.phDone HQ.out HC.out (by decide) (by
    intro x hx
    simp only [List.mem_cons, List.not_mem_nil, or_false] at hx
    rcases hx with rfl | rfl | rfl
    all_goals repeat (first | exact List.mem_cons_self | apply List.mem_cons_of_mem))
  have HFIN := Lib.hid hfin
  clear hfin HC
  go_wp2
  go_ret2
  exact ⟨g5, 3, cp5, [((⟨1, [by'], 0, 0⟩ : Ph), (Value.slice (some ⟨W2.heap.size, 0, none⟩) 1 1)), ((⟨ad, [k / 65536, k / 256 % 256, k % 256], 0, 0⟩ : Ph), (Value.slice (some ⟨W3.heap.size, 0, none⟩) 3 3 : Value)), ((⟨0, [], du, 0⟩ : Ph), (Value.slice none 0 0 : Value))], _ :: [(.slice (some ⟨W3.heap.size, 0, none⟩) 3 3, ints [k / 65536, k / 256 % 256, k % 256]), (.slice none 0 0, ints []), (.slice (some ⟨W2.heap.size, 0, none⟩) 1 1, ints [by'])], rfl, by rw [HRES.out]; rfl, HFIN.out.1, HFIN.out.2⟩
set_option maxRecDepth 100000 in
set_option maxHeartbeats 8000000 in
theorem rcmd_101n1 {P Q : Own} (hQ : Q.Ok) {w0 w : World} {rows : List (Value × List Value)} (hC : Ctx P Q w0 w rows) (o : POp) (hop : opOf o.byte = o) (hoi : opIs o.byte = true) (k : Int) (a : Option Addr) (c : Nat) (data : List Int) (hd : (.slice a data.length c, ints data) ∈ rows) (_ : data.length ≤ 512) (read : Int) (hmay : cmdMay o k data read = true) (hA : 0 < o.addr) (hM : o.mode = false) (hD : 0 < o.dummy) (hI : o.inn = false) (hR : 0 < read) :
    Calls Tryz.prog 39 #[.agg o.cells, .int .i64 k, .slice a data.length c, .int .i64 read] w fun e w' => ∃ g m cap L rows', e = .returned (.tuple #[.slice (some ⟨g, 0, none⟩) m cap, .int .i64 0]) ∧ L.map Prod.fst = cmdPhs o k data read ∧ Ctx P Q w0 w' (rows' ++ rows) ∧ PhsV (rows' ++ rows) (.slice (some ⟨g, 0, none⟩) m cap) L := by
  have hres : cmdPhs o k data read = [⟨1, [o.byte], 0, 0⟩, ⟨o.addr, [k / 65536, k / 256 % 256, k % 256], 0, 0⟩, ⟨0, [], o.dummy, 0⟩, ⟨o.data, [], 0, read⟩] := by
    unfold cmdPhs
    rw [if_pos hA, if_neg (show ¬ o.mode = true by rw [hM]; decide), if_pos hD, if_neg (show ¬ (o.inn = true ∧ data ≠ []) by rw [hI]; simp), if_pos hR]
    rfl
  have hmy := fun w1 hrs => rmay w1 o.byte hoi k a c data hrs read (by rw [hop]; exact hmay)
  rw [hop] at hmy
  obtain ⟨by', ad, mo, du, da, inn⟩ := o
  unfold POp.cells at hmy ⊢
  dsimp only at hmy hres hA hM hD hI hop hoi ⊢
  have HMY := Lib.hid hmy
  have HRES := Lib.hid hres
  have HQ := Lib.hid hQ
  have HDD := Lib.hid hd
  have HC := Lib.hid hC
  have ha1 := i64_and255 k
  have ha2 := i64_and255 (k / 256)
  subst hM
  subst hI
  clear hop hoi hmay hd hQ hC hres hmy
  go_enter Tryz.func39, Tryz.ntmps39
  obtain ⟨kb, hkb⟩ : ∃ kb, w.heap.size = kb := ⟨_, rfl⟩
  have hC0 := HC.out.alloc (.cells #[.int .i64 by', .int .i64 ad, .bool false, .int .i64 du, .int .i64 da, .bool false] 52)
  have HM0 := Lib.hid (HMY.out _ (hC0.rs_mem HDD.out))
  have hbn := Blk.new w [.int .i64 by', .int .i64 ad, .bool false, .int .i64 du, .int .i64 da, .bool false] 52
  rw [hkb] at hbn
  have c0 := hbn.cell 0
  have c1 := hbn.cell 1
  have c2 := hbn.cell 2
  have c3 := hbn.cell 3
  have c4 := hbn.cell 4
  have c5 := hbn.cell 5
  simp only [List.getElem?_cons_succ, List.getElem?_cons_zero] at c0 c1 c2 c3 c4 c5
  have HBN := Lib.hid hbn
  have HC0 := Lib.hid hC0
  clear hC0 hbn
  go_upto_region 3 with (go_at_call 118; refine HM0.out.mono ?_; rintro e W2 ⟨rfl, hU1⟩)
  have HC2 := Lib.hid (HC0.out.frame hU1)
  have hb2 := HBN.out.upd hU1 (fun f => f)
  clear c0 c1 c2 c3 c4 c5
  have c0 := hb2.cell 0
  simp only [List.getElem?_cons_zero] at c0
  have HB2 := Lib.hid hb2
  clear hb2 hU1 HC0 HBN HM0 HMY hkb
  have hklt := HB2.out.lt
  have hA1 := (HC2.out.lit (ints [by']) 3 1 rfl (by decide)).nilrow
  have hs1 : (W2.alloc (.cells (ints [by']).toArray 3)).heap.size = W2.heap.size + 1 := by simp
  have hC3 := hA1.phNew (phCells (⟨1, [by'], 0, 0⟩, .slice (some ⟨W2.heap.size, 0, none⟩) 1 1)) rfl
  rw [hs1] at hC3
  have HC3 := Lib.hid hC3
  have HB := Lib.hid ((HB2.out.alloc (.cells (ints [by']).toArray 3)).alloc (.cells (phCells (⟨1, [by'], 0, 0⟩, .slice (some ⟨W2.heap.size, 0, none⟩) 1 1)).toArray 156))
  clear hC3 hA1 HC2 HB2
  go_upto_region 4 with fail
  clear c0
  have hg2 : kb < W2.heap.size + 1 := by omega
  obtain ⟨g2, hgg2⟩ : ∃ g2, W2.heap.size + 1 = g2 := ⟨_, rfl⟩
  rw [hgg2] at HC3 hg2 ⊢
  have HC3' : Hid (Ctx P ((RowF (.slice (some ⟨g2, 0, none⟩) 1 1) 1 (([((⟨1, [by'], 0, 0⟩ : Ph), (Value.slice (some ⟨W2.heap.size, 0, none⟩) 1 1))] : List (Ph × Value)).flatMap phCells)).star Q) w0 ((W2.alloc (.cells (ints [by']).toArray 3)).alloc (.cells (phCells (⟨1, [by'], 0, 0⟩, .slice (some ⟨W2.heap.size, 0, none⟩) 1 1)).toArray 156)) (((.slice none 0 0, ints []) :: (.slice (some ⟨W2.heap.size, 0, none⟩) 1 1, ints [by']) :: rows))) := HC3
  obtain ⟨W3, hW3⟩ : ∃ W3, (W2.alloc (.cells (ints [by']).toArray 3)).alloc (.cells (phCells (⟨1, [by'], 0, 0⟩, .slice (some ⟨W2.heap.size, 0, none⟩) 1 1)).toArray 156) = W3 := ⟨_, rfl⟩
  rw [hW3] at HC3' HB
  change Code.wp _ _ _ _ ((W2.alloc (.cells (ints [by']).toArray 3)).alloc (.cells (phCells (⟨1, [by'], 0, 0⟩, .slice (some ⟨W2.heap.size, 0, none⟩) 1 1)).toArray 156))
  rw [hW3]
  clear HC3 hW3 hgg2 hs1 hklt
  have HC := HC3'
  clear HC3'

  have hbx := HB.out
  have c0 := hbx.cell 0
  have c1 := hbx.cell 1
  have c2 := hbx.cell 2
  have c3 := hbx.cell 3
  have c4 := hbx.cell 4
  have c5 := hbx.cell 5
  simp only [List.getElem?_cons_succ, List.getElem?_cons_zero] at c0 c1 c2 c3 c4 c5
  clear hbx
  have hsz4 : (W3.alloc (.cells (ints [k / 65536, k / 256 % 256, k % 256]).toArray 3)).heap.size = W3.heap.size + 1 := by simp
  go_upto_region 6 with (at_builtin; go_must (refine wpList_ph1 rfl _ _ rfl (.slice (some ⟨g2, 0, none⟩) 1 1) 1 (([((⟨1, [by'], 0, 0⟩ : Ph), (Value.slice (some ⟨W2.heap.size, 0, none⟩) 1 1))] : List (Ph × Value)).flatMap phCells) rfl (W3.alloc (.cells (ints [k / 65536, k / 256 % 256, k % 256]).toArray 3)) (phCells (⟨ad, [k / 65536, k / 256 % 256, k % 256], 0, 0⟩, .slice (some ⟨W3.heap.size, 0, none⟩) 3 3)) rfl (phCells_one _ _ _ _) ⟨rfl, rfl, rfl⟩ (own_upd HC.out.phGet ((Upd.refl none' W3).alloc _) (fun _ _ f => f)) (by rw [hsz4]; rfl) (by decide) ?_); intro g4 cp4 W4 hRn hUn hgn hgln)
  have hCn := Ctx.phStep HQ.out (HC.out.lit (ints [k / 65536, k / 256 % 256, k % 256]) 3 3 rfl (by decide)) hRn hUn (fun k hk => by simp only [Value.ownBlock, Option.some.injEq] at hk; rw [← hk]; exact hgn)
  have hBn := (HB.out.alloc (.cells (ints [k / 65536, k / 256 % 256, k % 256]).toArray 3)).upd hUn (fun e => by simp only [Value.ownBlock, Option.some.injEq] at e; omega)
  have hkn : kb < g4 := by
    have := (HB.out.alloc (.cells (ints [k / 65536, k / 256 % 256, k % 256]).toArray 3)).lt
    rcases hgn with e | e
    · simp only [Value.ownBlock, Option.some.injEq] at e; omega
    · omega
  clear HC HB c0 c1 c2 c3 c4 c5 hRn hUn hgn hgln
  have HC : Hid (Ctx P ((RowF (.slice (some ⟨g4, 0, none⟩) 2 cp4) 2 (([((⟨1, [by'], 0, 0⟩ : Ph), (Value.slice (some ⟨W2.heap.size, 0, none⟩) 1 1)), ((⟨ad, [k / 65536, k / 256 % 256, k % 256], 0, 0⟩ : Ph), (Value.slice (some ⟨W3.heap.size, 0, none⟩) 3 3 : Value))] : List (Ph × Value)).flatMap phCells)).star Q) w0 W4 _) := Lib.hid hCn
  have HB := Lib.hid hBn
  clear hCn hBn
  have hbx := HB.out
  have c0 := hbx.cell 0
  have c1 := hbx.cell 1
  have c2 := hbx.cell 2
  have c3 := hbx.cell 3
  have c4 := hbx.cell 4
  have c5 := hbx.cell 5
  simp only [List.getElem?_cons_succ, List.getElem?_cons_zero] at c0 c1 c2 c3 c4 c5
  clear hbx
  go_upto_region 10 with (at_builtin; go_must (refine wpList_ph1 rfl _ _ rfl (.slice (some ⟨g4, 0, none⟩) 2 cp4) 2 (([((⟨1, [by'], 0, 0⟩ : Ph), (Value.slice (some ⟨W2.heap.size, 0, none⟩) 1 1)), ((⟨ad, [k / 65536, k / 256 % 256, k % 256], 0, 0⟩ : Ph), (Value.slice (some ⟨W3.heap.size, 0, none⟩) 3 3 : Value))] : List (Ph × Value)).flatMap phCells) rfl W4 (phCells (⟨0, [], du, 0⟩, .slice none 0 0)) rfl (phCells_one _ _ _ _) ⟨rfl, rfl, rfl⟩ HC.out.phGet rfl (by decide) ?_); intro g5 cp5 W5 hRn hUn hgn hgln)
  have hCn := Ctx.phStep HQ.out (HC.out) hRn hUn (fun k hk => by simp only [Value.ownBlock, Option.some.injEq] at hk; rw [← hk]; exact hgn)
  have hBn := (HB.out).upd hUn (fun e => by simp only [Value.ownBlock, Option.some.injEq] at e; omega)
  have hkn : kb < g5 := by
    have := (HB.out).lt
    rcases hgn with e | e
    · simp only [Value.ownBlock, Option.some.injEq] at e; omega
    · omega
  clear HC HB c0 c1 c2 c3 c4 c5 hRn hUn hgn hgln
  have HC : Hid (Ctx P ((RowF (.slice (some ⟨g5, 0, none⟩) 3 cp5) 3 (([((⟨1, [by'], 0, 0⟩ : Ph), (Value.slice (some ⟨W2.heap.size, 0, none⟩) 1 1)), ((⟨ad, [k / 65536, k / 256 % 256, k % 256], 0, 0⟩ : Ph), (Value.slice (some ⟨W3.heap.size, 0, none⟩) 3 3 : Value)), ((⟨0, [], du, 0⟩ : Ph), (Value.slice none 0 0 : Value))] : List (Ph × Value)).flatMap phCells)).star Q) w0 W5 _) := Lib.hid hCn
  have HB := Lib.hid hBn
  clear hCn hBn
  have hbx := HB.out
  have c0 := hbx.cell 0
  have c1 := hbx.cell 1
  have c2 := hbx.cell 2
  have c3 := hbx.cell 3
  have c4 := hbx.cell 4
  have c5 := hbx.cell 5
  simp only [List.getElem?_cons_succ, List.getElem?_cons_zero] at c0 c1 c2 c3 c4 c5
  clear hbx
  go_upto_region 14 with (at_builtin; go_must (refine wpList_ph1 rfl _ _ rfl (.slice (some ⟨g5, 0, none⟩) 3 cp5) 3 (([((⟨1, [by'], 0, 0⟩ : Ph), (Value.slice (some ⟨W2.heap.size, 0, none⟩) 1 1)), ((⟨ad, [k / 65536, k / 256 % 256, k % 256], 0, 0⟩ : Ph), (Value.slice (some ⟨W3.heap.size, 0, none⟩) 3 3 : Value)), ((⟨0, [], du, 0⟩ : Ph), (Value.slice none 0 0 : Value))] : List (Ph × Value)).flatMap phCells) rfl W5 (phCells (⟨da, [], 0, read⟩, .slice none 0 0)) rfl (phCells_one _ _ _ _) ⟨rfl, rfl, rfl⟩ HC.out.phGet rfl (by decide) ?_); intro g6 cp6 W6 hRn hUn hgn hgln)
  have hCn := Ctx.phStep HQ.out (HC.out) hRn hUn (fun k hk => by simp only [Value.ownBlock, Option.some.injEq] at hk; rw [← hk]; exact hgn)
  have hBn := (HB.out).upd hUn (fun e => by simp only [Value.ownBlock, Option.some.injEq] at e; omega)
  have hkn : kb < g6 := by
    have := (HB.out).lt
    rcases hgn with e | e
    · simp only [Value.ownBlock, Option.some.injEq] at e; omega
    · omega
  clear HC HB c0 c1 c2 c3 c4 c5 hRn hUn hgn hgln
  have HC : Hid (Ctx P ((RowF (.slice (some ⟨g6, 0, none⟩) 4 cp6) 4 (([((⟨1, [by'], 0, 0⟩ : Ph), (Value.slice (some ⟨W2.heap.size, 0, none⟩) 1 1)), ((⟨ad, [k / 65536, k / 256 % 256, k % 256], 0, 0⟩ : Ph), (Value.slice (some ⟨W3.heap.size, 0, none⟩) 3 3 : Value)), ((⟨0, [], du, 0⟩ : Ph), (Value.slice none 0 0 : Value)), ((⟨da, [], 0, read⟩ : Ph), (Value.slice none 0 0 : Value))] : List (Ph × Value)).flatMap phCells)).star Q) w0 W6 _) := Lib.hid hCn
  have HB := Lib.hid hBn
  clear hCn hBn
  have hbx := HB.out
  have c0 := hbx.cell 0
  have c1 := hbx.cell 1
  have c2 := hbx.cell 2
  have c3 := hbx.cell 3
  have c4 := hbx.cell 4
  have c5 := hbx.cell 5
  simp only [List.getElem?_cons_succ, List.getElem?_cons_zero] at c0 c1 c2 c3 c4 c5
  clear hbx
  go_upto_region 14 with fail
  clear c0 c1 c2 c3 c4 c5 HB
  have hfin := Ctx.phDone HQ.out HC.out (by decide) (by
    intro x hx
    simp only [List.mem_cons, List.not_mem_nil, or_false] at hx
    rcases hx with rfl | rfl | rfl | rfl
    all_goals repeat (first | exact List.mem_cons_self | apply List.mem_cons_of_mem))
  have HFIN := Lib.hid hfin
  clear hfin HC
  go_wp2
  go_ret2
  exact ⟨g6, 4, cp6, [((⟨1, [by'], 0, 0⟩ : Ph), (Value.slice (some ⟨W2.heap.size, 0, none⟩) 1 1)), ((⟨ad, [k / 65536, k / 256 % 256, k % 256], 0, 0⟩ : Ph), (Value.slice (some ⟨W3.heap.size, 0, none⟩) 3 3 : Value)), ((⟨0, [], du, 0⟩ : Ph), (Value.slice none 0 0 : Value)), ((⟨da, [], 0, read⟩ : Ph), (Value.slice none 0 0 : Value))], _ :: [(.slice (some ⟨W3.heap.size, 0, none⟩) 3 3, ints [k / 65536, k / 256 % 256, k % 256]), (.slice none 0 0, ints []), (.slice (some ⟨W2.heap.size, 0, none⟩) 1 1, ints [by'])], rfl, by rw [HRES.out]; rfl, HFIN.out.1, HFIN.out.2⟩
set_option maxRecDepth 100000 in
set_option maxHeartbeats 8000000 in
theorem rcmd_111n0 {P Q : Own} (hQ : Q.Ok) {w0 w : World} {rows : List (Value × List Value)} (hC : Ctx P Q w0 w rows) (o : POp) (hop : opOf o.byte = o) (hoi : opIs o.byte = true) (k : Int) (a : Option Addr) (c : Nat) (data : List Int) (hd : (.slice a data.length c, ints data) ∈ rows) (hlen : data.length ≤ 512) (read : Int) (hmay : cmdMay o k data read = true) (hA : 0 < o.addr) (hM : o.mode = true) (hD : 0 < o.dummy) (hI : o.inn = false) (hR : read = 0) (hdm : data ≠ []) :
    Calls Tryz.prog 39 #[.agg o.cells, .int .i64 k, .slice a data.length c, .int .i64 read] w fun e w' => ∃ g m cap L rows', e = .returned (.tuple #[.slice (some ⟨g, 0, none⟩) m cap, .int .i64 0]) ∧ L.map Prod.fst = cmdPhs o k data read ∧ Ctx P Q w0 w' (rows' ++ rows) ∧ PhsV (rows' ++ rows) (.slice (some ⟨g, 0, none⟩) m cap) L := by
  have hres : cmdPhs o k data read = [⟨1, [o.byte], 0, 0⟩, ⟨o.addr, [k / 65536, k / 256 % 256, k % 256], 0, 0⟩, ⟨o.addr, data, 0, 0⟩, ⟨0, [], o.dummy, 0⟩] := by
    unfold cmdPhs
    rw [if_pos hA, if_pos hM, if_pos hD, if_neg (show ¬ (o.inn = true ∧ data ≠ []) by rw [hI]; simp), if_neg (show ¬ 0 < read by omega)]
    rfl
  have hmy := fun w1 hrs => rmay w1 o.byte hoi k a c data hrs read (by rw [hop]; exact hmay)
  rw [hop] at hmy
  obtain ⟨by', ad, mo, du, da, inn⟩ := o
  unfold POp.cells at hmy ⊢
  dsimp only at hmy hres hA hM hD hI hop hoi ⊢
  have HMY := Lib.hid hmy
  have HRES := Lib.hid hres
  have HQ := Lib.hid hQ
  have HDD := Lib.hid hd
  have HC := Lib.hid hC
  have ha1 := i64_and255 k
  have ha2 := i64_and255 (k / 256)
  subst hM
  subst hI
  subst hR
  have hdl : 0 < data.length := List.length_pos_iff.2 hdm
  have HDN := Lib.hid (And.intro hdm hlen)
  clear hop hoi hmay hd hQ hC hres hmy
  go_enter Tryz.func39, Tryz.ntmps39
  obtain ⟨kb, hkb⟩ : ∃ kb, w.heap.size = kb := ⟨_, rfl⟩
  have hC0 := HC.out.alloc (.cells #[.int .i64 by', .int .i64 ad, .bool true, .int .i64 du, .int .i64 da, .bool false] 52)
  have HM0 := Lib.hid (HMY.out _ (hC0.rs_mem HDD.out))
  have hbn := Blk.new w [.int .i64 by', .int .i64 ad, .bool true, .int .i64 du, .int .i64 da, .bool false] 52
  rw [hkb] at hbn
  have c0 := hbn.cell 0
  have c1 := hbn.cell 1
  have c2 := hbn.cell 2
  have c3 := hbn.cell 3
  have c4 := hbn.cell 4
  have c5 := hbn.cell 5
  simp only [List.getElem?_cons_succ, List.getElem?_cons_zero] at c0 c1 c2 c3 c4 c5
  have HBN := Lib.hid hbn
  have HC0 := Lib.hid hC0
  clear hC0 hbn
  go_upto_region 3 with (go_at_call 118; refine HM0.out.mono ?_; rintro e W2 ⟨rfl, hU1⟩)
  have HC2 := Lib.hid (HC0.out.frame hU1)
  have hb2 := HBN.out.upd hU1 (fun f => f)
  clear c0 c1 c2 c3 c4 c5
  have c0 := hb2.cell 0
  simp only [List.getElem?_cons_zero] at c0
  have HB2 := Lib.hid hb2
  clear hb2 hU1 HC0 HBN HM0 HMY hkb
  have hklt := HB2.out.lt
  have hA1 := (HC2.out.lit (ints [by']) 3 1 rfl (by decide)).nilrow
  have hs1 : (W2.alloc (.cells (ints [by']).toArray 3)).heap.size = W2.heap.size + 1 := by simp
  have hC3 := hA1.phNew (phCells (⟨1, [by'], 0, 0⟩, .slice (some ⟨W2.heap.size, 0, none⟩) 1 1)) rfl
  rw [hs1] at hC3
  have HC3 := Lib.hid hC3
  have HB := Lib.hid ((HB2.out.alloc (.cells (ints [by']).toArray 3)).alloc (.cells (phCells (⟨1, [by'], 0, 0⟩, .slice (some ⟨W2.heap.size, 0, none⟩) 1 1)).toArray 156))
  clear hC3 hA1 HC2 HB2
  go_upto_region 4 with fail
  clear c0
  have hg2 : kb < W2.heap.size + 1 := by omega
  obtain ⟨g2, hgg2⟩ : ∃ g2, W2.heap.size + 1 = g2 := ⟨_, rfl⟩
  rw [hgg2] at HC3 hg2 ⊢
  have HC3' : Hid (Ctx P ((RowF (.slice (some ⟨g2, 0, none⟩) 1 1) 1 (([((⟨1, [by'], 0, 0⟩ : Ph), (Value.slice (some ⟨W2.heap.size, 0, none⟩) 1 1))] : List (Ph × Value)).flatMap phCells)).star Q) w0 ((W2.alloc (.cells (ints [by']).toArray 3)).alloc (.cells (phCells (⟨1, [by'], 0, 0⟩, .slice (some ⟨W2.heap.size, 0, none⟩) 1 1)).toArray 156)) (((.slice none 0 0, ints []) :: (.slice (some ⟨W2.heap.size, 0, none⟩) 1 1, ints [by']) :: rows))) := HC3
  obtain ⟨W3, hW3⟩ : ∃ W3, (W2.alloc (.cells (ints [by']).toArray 3)).alloc (.cells (phCells (⟨1, [by'], 0, 0⟩, .slice (some ⟨W2.heap.size, 0, none⟩) 1 1)).toArray 156) = W3 := ⟨_, rfl⟩
  rw [hW3] at HC3' HB
  change Code.wp _ _ _ _ ((W2.alloc (.cells (ints [by']).toArray 3)).alloc (.cells (phCells (⟨1, [by'], 0, 0⟩, .slice (some ⟨W2.heap.size, 0, none⟩) 1 1)).toArray 156))
  rw [hW3]
  clear HC3 hW3 hgg2 hs1 hklt
  have HC := HC3'
  clear HC3'

  have hbx := HB.out
  have c0 := hbx.cell 0
  have c1 := hbx.cell 1
  have c2 := hbx.cell 2
  have c3 := hbx.cell 3
  have c4 := hbx.cell 4
  have c5 := hbx.cell 5
  simp only [List.getElem?_cons_succ, List.getElem?_cons_zero] at c0 c1 c2 c3 c4 c5
  clear hbx
  have hsz4 : (W3.alloc (.cells (ints [k / 65536, k / 256 % 256, k % 256]).toArray 3)).heap.size = W3.heap.size + 1 := by simp
  go_upto_region 6 with (at_builtin; go_must (refine wpList_ph1 rfl _ _ rfl (.slice (some ⟨g2, 0, none⟩) 1 1) 1 (([((⟨1, [by'], 0, 0⟩ : Ph), (Value.slice (some ⟨W2.heap.size, 0, none⟩) 1 1))] : List (Ph × Value)).flatMap phCells) rfl (W3.alloc (.cells (ints [k / 65536, k / 256 % 256, k % 256]).toArray 3)) (phCells (⟨ad, [k / 65536, k / 256 % 256, k % 256], 0, 0⟩, .slice (some ⟨W3.heap.size, 0, none⟩) 3 3)) rfl (phCells_one _ _ _ _) ⟨rfl, rfl, rfl⟩ (own_upd HC.out.phGet ((Upd.refl none' W3).alloc _) (fun _ _ f => f)) (by rw [hsz4]; rfl) (by decide) ?_); intro g4 cp4 W4 hRn hUn hgn hgln)
  have hCn := Ctx.phStep HQ.out (HC.out.lit (ints [k / 65536, k / 256 % 256, k % 256]) 3 3 rfl (by decide)) hRn hUn (fun k hk => by simp only [Value.ownBlock, Option.some.injEq] at hk; rw [← hk]; exact hgn)
  have hBn := (HB.out.alloc (.cells (ints [k / 65536, k / 256 % 256, k % 256]).toArray 3)).upd hUn (fun e => by simp only [Value.ownBlock, Option.some.injEq] at e; omega)
  have hkn : kb < g4 := by
    have := (HB.out.alloc (.cells (ints [k / 65536, k / 256 % 256, k % 256]).toArray 3)).lt
    rcases hgn with e | e
    · simp only [Value.ownBlock, Option.some.injEq] at e; omega
    · omega
  clear HC HB c0 c1 c2 c3 c4 c5 hRn hUn hgn hgln
  have HC : Hid (Ctx P ((RowF (.slice (some ⟨g4, 0, none⟩) 2 cp4) 2 (([((⟨1, [by'], 0, 0⟩ : Ph), (Value.slice (some ⟨W2.heap.size, 0, none⟩) 1 1)), ((⟨ad, [k / 65536, k / 256 % 256, k % 256], 0, 0⟩ : Ph), (Value.slice (some ⟨W3.heap.size, 0, none⟩) 3 3 : Value))] : List (Ph × Value)).flatMap phCells)).star Q) w0 W4 _) := Lib.hid hCn
  have HB := Lib.hid hBn
  clear hCn hBn
  have hbx := HB.out
  have c0 := hbx.cell 0
  have c1 := hbx.cell 1
  have c2 := hbx.cell 2
  have c3 := hbx.cell 3
  have c4 := hbx.cell 4
  have c5 := hbx.cell 5
  simp only [List.getElem?_cons_succ, List.getElem?_cons_zero] at c0 c1 c2 c3 c4 c5
  clear hbx
  go_upto_region 7 with fail
  have hmem : (Value.slice a data.length c, ints data) ∈ (((.slice (some ⟨W3.heap.size, 0, none⟩) 3 3 : Value), ints [k / 65536, k / 256 % 256, k % 256]) :: ((.slice none 0 0 : Value), ints []) :: ((.slice (some ⟨W2.heap.size, 0, none⟩) 1 1 : Value), ints [by']) :: rows) := by repeat (first | exact HDD.out | apply List.mem_cons_of_mem)
  have HRSC := Lib.hid (HC.out.drew.rs_mem hmem)
  clear hmem
  have HCH : Hid (∀ (V : World) (va : Option Addr) (vc : Nat), Row V 3 (.slice va data.length vc) (ints data) → (∀ k, (Value.slice va data.length vc).ownBlock = some k → W4.drew.heap.size ≤ k ∧ k < V.heap.size) → Upd none' W4.drew V → V.cell? ⟨kb, 1, none⟩ = some (.int .i64 ad) ∧ Hid (Ctx P ((RowF (.slice (some ⟨g4, 0, none⟩) 2 cp4) 2 (([((⟨1, [by'], 0, 0⟩ : Ph), (Value.slice (some ⟨W2.heap.size, 0, none⟩) 1 1)), ((⟨ad, [k / 65536, k / 256 % 256, k % 256], 0, 0⟩ : Ph), (Value.slice (some ⟨W3.heap.size, 0, none⟩) 3 3 : Value))] : List (Ph × Value)).flatMap phCells)).star Q) w0 V (((.slice va data.length vc : Value), ints data) :: (((.slice (some ⟨W3.heap.size, 0, none⟩) 3 3 : Value), ints [k / 65536, k / 256 % 256, k % 256]) :: ((.slice none 0 0 : Value), ints []) :: ((.slice (some ⟨W2.heap.size, 0, none⟩) 1 1 : Value), ints [by']) :: rows))) ∧ Hid (Blk V kb [.int .i64 by', .int .i64 ad, .bool true, .int .i64 du, .int .i64 da, .bool false] 52)) := Lib.hid (by
    intro V va vc hR hf hU
    have hb := HB.out.drew.upd hU (fun f => f)
    have hc := hb.cell 1
    simp only [List.getElem?_cons_succ, List.getElem?_cons_zero] at hc
    have hrs := hR.rs (by rw [ints_len]; omega)
    exact ⟨hc, Lib.hid (HC.out.drew.newRow hU hrs hf hR.mk), Lib.hid hb⟩)
  have hlk7 : kb < W4.drew.heap.size := HB.out.drew.lt
  go_region_held3 (fun w' => w'.cell? ⟨kb, 1, none⟩ = some (.int .i64 ad)) (first | exact c1 | exact cc7 | exact (World.cell?_alloc_lt _ _ _ hlk7).trans c1 | exact (World.cell?_alloc_lt _ _ _ hl7).trans cc7 | exact (hUn.cell (p := ⟨kb, 1, none⟩) hl7 (fun e => by simp only [Value.ownBlock, Option.some.injEq] at e; omega)).trans cc7) (first | (refine step_appE rfl _ _ rfl W4.drew ⟨rfl, rfl, rfl⟩ rfl _ _ data rfl HRSC.out HDN.out.1 HDN.out.2 ?_; intro va7 vc7 V5 hRc7 hfc7 hUc7; obtain ⟨cc7, HCc7, HBc7⟩ := HCH.out _ _ _ hRc7 hfc7 hUc7; have hl7 := HBc7.out.lt; have hflag : True := trivial) | (clear hflag; go_must (refine step_ph1 rfl _ _ rfl (.slice (some ⟨g4, 0, none⟩) 2 cp4) 2 (([((⟨1, [by'], 0, 0⟩ : Ph), (Value.slice (some ⟨W2.heap.size, 0, none⟩) 1 1)), ((⟨ad, [k / 65536, k / 256 % 256, k % 256], 0, 0⟩ : Ph), (Value.slice (some ⟨W3.heap.size, 0, none⟩) 3 3 : Value))] : List (Ph × Value)).flatMap phCells) rfl V5 (phCells (⟨ad, data, 0, 0⟩, .slice va7 data.length vc7)) rfl (phCells_one _ _ _ _) ⟨rfl, rfl, rfl⟩ HCc7.out.phGet rfl (by decide) ?_); intro g5 cp5 W5 hRn hUn hgn hgln))
  have hCn := Ctx.phStep HQ.out (HCc7.out) hRn hUn (fun k hk => by simp only [Value.ownBlock, Option.some.injEq] at hk; rw [← hk]; exact hgn)
  have hBn := (HBc7.out).upd hUn (fun e => by simp only [Value.ownBlock, Option.some.injEq] at e; omega)
  have hkn : kb < g5 := by
    have := (HBc7.out).lt
    rcases hgn with e | e
    · simp only [Value.ownBlock, Option.some.injEq] at e; omega
    · omega
  clear HC HB c0 c1 c2 c3 c4 c5 hRn hUn hgn hgln
  have HC : Hid (Ctx P ((RowF (.slice (some ⟨g5, 0, none⟩) 3 cp5) 3 (([((⟨1, [by'], 0, 0⟩ : Ph), (Value.slice (some ⟨W2.heap.size, 0, none⟩) 1 1)), ((⟨ad, [k / 65536, k / 256 % 256, k % 256], 0, 0⟩ : Ph), (Value.slice (some ⟨W3.heap.size, 0, none⟩) 3 3 : Value)), ((⟨ad, data, 0, 0⟩ : Ph), (Value.slice va7 data.length vc7 : Value))] : List (Ph × Value)).flatMap phCells)).star Q) w0 W5 _) := Lib.hid hCn
  have HB := Lib.hid hBn
  clear hCn hBn
  have hbx := HB.out
  have c0 := hbx.cell 0
  have c1 := hbx.cell 1
  have c2 := hbx.cell 2
  have c3 := hbx.cell 3
  have c4 := hbx.cell 4
  have c5 := hbx.cell 5
  simp only [List.getElem?_cons_succ, List.getElem?_cons_zero] at c0 c1 c2 c3 c4 c5
  clear hbx
  go_upto_region 10 with (at_builtin; go_must (refine wpList_ph1 rfl _ _ rfl (.slice (some ⟨g5, 0, none⟩) 3 cp5) 3 (([((⟨1, [by'], 0, 0⟩ : Ph), (Value.slice (some ⟨W2.heap.size, 0, none⟩) 1 1)), ((⟨ad, [k / 65536, k / 256 % 256, k % 256], 0, 0⟩ : Ph), (Value.slice (some ⟨W3.heap.size, 0, none⟩) 3 3 : Value)), ((⟨ad, data, 0, 0⟩ : Ph), (Value.slice va7 data.length vc7 : Value))] : List (Ph × Value)).flatMap phCells) rfl W5 (phCells (⟨0, [], du, 0⟩, .slice none 0 0)) rfl (phCells_one _ _ _ _) ⟨rfl, rfl, rfl⟩ HC.out.phGet rfl (by decide) ?_); intro g6 cp6 W6 hRn hUn hgn hgln)
  have hCn := Ctx.phStep HQ.out (HC.out) hRn hUn (fun k hk => by simp only [Value.ownBlock, Option.some.injEq] at hk; rw [← hk]; exact hgn)
  have hBn := (HB.out).upd hUn (fun e => by simp only [Value.ownBlock, Option.some.injEq] at e; omega)
  have hkn : kb < g6 := by
    have := (HB.out).lt
    rcases hgn with e | e
    · simp only [Value.ownBlock, Option.some.injEq] at e; omega
    · omega
  clear HC HB c0 c1 c2 c3 c4 c5 hRn hUn hgn hgln
  have HC : Hid (Ctx P ((RowF (.slice (some ⟨g6, 0, none⟩) 4 cp6) 4 (([((⟨1, [by'], 0, 0⟩ : Ph), (Value.slice (some ⟨W2.heap.size, 0, none⟩) 1 1)), ((⟨ad, [k / 65536, k / 256 % 256, k % 256], 0, 0⟩ : Ph), (Value.slice (some ⟨W3.heap.size, 0, none⟩) 3 3 : Value)), ((⟨ad, data, 0, 0⟩ : Ph), (Value.slice va7 data.length vc7 : Value)), ((⟨0, [], du, 0⟩ : Ph), (Value.slice none 0 0 : Value))] : List (Ph × Value)).flatMap phCells)).star Q) w0 W6 _) := Lib.hid hCn
  have HB := Lib.hid hBn
  clear hCn hBn
  have hbx := HB.out
  have c0 := hbx.cell 0
  have c1 := hbx.cell 1
  have c2 := hbx.cell 2
  have c3 := hbx.cell 3
  have c4 := hbx.cell 4
  have c5 := hbx.cell 5
  simp only [List.getElem?_cons_succ, List.getElem?_cons_zero] at c0 c1 c2 c3 c4 c5
  clear hbx
  go_upto_region 14 with fail
  clear c0 c1 c2 c3 c4 c5 HB
  have hfin := Ctx.phDone HQ.out HC.out (by decide) (by
    intro x hx
    simp only [List.mem_cons, List.not_mem_nil, or_false] at hx
    rcases hx with rfl | rfl | rfl | rfl
    all_goals repeat (first | exact List.mem_cons_self | apply List.mem_cons_of_mem))
  have HFIN := Lib.hid hfin
  clear hfin HC
  go_wp2
  go_ret2
  exact ⟨g6, 4, cp6, [((⟨1, [by'], 0, 0⟩ : Ph), (Value.slice (some ⟨W2.heap.size, 0, none⟩) 1 1)), ((⟨ad, [k / 65536, k / 256 % 256, k % 256], 0, 0⟩ : Ph), (Value.slice (some ⟨W3.heap.size, 0, none⟩) 3 3 : Value)), ((⟨ad, data, 0, 0⟩ : Ph), (Value.slice va7 data.length vc7 : Value)), ((⟨0, [], du, 0⟩ : Ph), (Value.slice none 0 0 : Value))], _ :: [(.slice va7 data.length vc7, ints data), (.slice (some ⟨W3.heap.size, 0, none⟩) 3 3, ints [k / 65536, k / 256 % 256, k % 256]), (.slice none 0 0, ints []), (.slice (some ⟨W2.heap.size, 0, none⟩) 1 1, ints [by'])], rfl, by rw [HRES.out]; rfl, HFIN.out.1, HFIN.out.2⟩
set_option maxRecDepth 100000 in
set_option maxHeartbeats 8000000 in
theorem rcmd_111n1 {P Q : Own} (hQ : Q.Ok) {w0 w : World} {rows : List (Value × List Value)} (hC : Ctx P Q w0 w rows) (o : POp) (hop : opOf o.byte = o) (hoi : opIs o.byte = true) (k : Int) (a : Option Addr) (c : Nat) (data : List Int) (hd : (.slice a data.length c, ints data) ∈ rows) (hlen : data.length ≤ 512) (read : Int) (hmay : cmdMay o k data read = true) (hA : 0 < o.addr) (hM : o.mode = true) (hD : 0 < o.dummy) (hI : o.inn = false) (hR : 0 < read) (hdm : data ≠ []) :
    Calls Tryz.prog 39 #[.agg o.cells, .int .i64 k, .slice a data.length c, .int .i64 read] w fun e w' => ∃ g m cap L rows', e = .returned (.tuple #[.slice (some ⟨g, 0, none⟩) m cap, .int .i64 0]) ∧ L.map Prod.fst = cmdPhs o k data read ∧ Ctx P Q w0 w' (rows' ++ rows) ∧ PhsV (rows' ++ rows) (.slice (some ⟨g, 0, none⟩) m cap) L := by
  have hres : cmdPhs o k data read = [⟨1, [o.byte], 0, 0⟩, ⟨o.addr, [k / 65536, k / 256 % 256, k % 256], 0, 0⟩, ⟨o.addr, data, 0, 0⟩, ⟨0, [], o.dummy, 0⟩, ⟨o.data, [], 0, read⟩] := by
    unfold cmdPhs
    rw [if_pos hA, if_pos hM, if_pos hD, if_neg (show ¬ (o.inn = true ∧ data ≠ []) by rw [hI]; simp), if_pos hR]
    rfl
  have hmy := fun w1 hrs => rmay w1 o.byte hoi k a c data hrs read (by rw [hop]; exact hmay)
  rw [hop] at hmy
  obtain ⟨by', ad, mo, du, da, inn⟩ := o
  unfold POp.cells at hmy ⊢
  dsimp only at hmy hres hA hM hD hI hop hoi ⊢
  have HMY := Lib.hid hmy
  have HRES := Lib.hid hres
  have HQ := Lib.hid hQ
  have HDD := Lib.hid hd
  have HC := Lib.hid hC
  have ha1 := i64_and255 k
  have ha2 := i64_and255 (k / 256)
  subst hM
  subst hI
  have hdl : 0 < data.length := List.length_pos_iff.2 hdm
  have HDN := Lib.hid (And.intro hdm hlen)
  clear hop hoi hmay hd hQ hC hres hmy
  go_enter Tryz.func39, Tryz.ntmps39
  obtain ⟨kb, hkb⟩ : ∃ kb, w.heap.size = kb := ⟨_, rfl⟩
  have hC0 := HC.out.alloc (.cells #[.int .i64 by', .int .i64 ad, .bool true, .int .i64 du, .int .i64 da, .bool false] 52)
  have HM0 := Lib.hid (HMY.out _ (hC0.rs_mem HDD.out))
  have hbn := Blk.new w [.int .i64 by', .int .i64 ad, .bool true, .int .i64 du, .int .i64 da, .bool false] 52
  rw [hkb] at hbn
  have c0 := hbn.cell 0
  have c1 := hbn.cell 1
  have c2 := hbn.cell 2
  have c3 := hbn.cell 3
  have c4 := hbn.cell 4
  have c5 := hbn.cell 5
  simp only [List.getElem?_cons_succ, List.getElem?_cons_zero] at c0 c1 c2 c3 c4 c5
  have HBN := Lib.hid hbn
  have HC0 := Lib.hid hC0
  clear hC0 hbn
  go_upto_region 3 with (go_at_call 118; refine HM0.out.mono ?_; rintro e W2 ⟨rfl, hU1⟩)
  have HC2 := Lib.hid (HC0.out.frame hU1)
  have hb2 := HBN.out.upd hU1 (fun f => f)
  clear c0 c1 c2 c3 c4 c5
  have c0 := hb2.cell 0
  simp only [List.getElem?_cons_zero] at c0
  have HB2 := Lib.hid hb2
  clear hb2 hU1 HC0 HBN HM0 HMY hkb
  have hklt := HB2.out.lt
  have hA1 := (HC2.out.lit (ints [by']) 3 1 rfl (by decide)).nilrow
  have hs1 : (W2.alloc (.cells (ints [by']).toArray 3)).heap.size = W2.heap.size + 1 := by simp
  have hC3 := hA1.phNew (phCells (⟨1, [by'], 0, 0⟩, .slice (some ⟨W2.heap.size, 0, none⟩) 1 1)) rfl
  rw [hs1] at hC3
  have HC3 := Lib.hid hC3
  have HB := Lib.hid ((HB2.out.alloc (.cells (ints [by']).toArray 3)).alloc (.cells (phCells (⟨1, [by'], 0, 0⟩, .slice (some ⟨W2.heap.size, 0, none⟩) 1 1)).toArray 156))
  clear hC3 hA1 HC2 HB2
  go_upto_region 4 with fail
  clear c0
  have hg2 : kb < W2.heap.size + 1 := by omega
  obtain ⟨g2, hgg2⟩ : ∃ g2, W2.heap.size + 1 = g2 := ⟨_, rfl⟩
  rw [hgg2] at HC3 hg2 ⊢
  have HC3' : Hid (Ctx P ((RowF (.slice (some ⟨g2, 0, none⟩) 1 1) 1 (([((⟨1, [by'], 0, 0⟩ : Ph), (Value.slice (some ⟨W2.heap.size, 0, none⟩) 1 1))] : List (Ph × Value)).flatMap phCells)).star Q) w0 ((W2.alloc (.cells (ints [by']).toArray 3)).alloc (.cells (phCells (⟨1, [by'], 0, 0⟩, .slice (some ⟨W2.heap.size, 0, none⟩) 1 1)).toArray 156)) (((.slice none 0 0, ints []) :: (.slice (some ⟨W2.heap.size, 0, none⟩) 1 1, ints [by']) :: rows))) := HC3
  obtain ⟨W3, hW3⟩ : ∃ W3, (W2.alloc (.cells (ints [by']).toArray 3)).alloc (.cells (phCells (⟨1, [by'], 0, 0⟩, .slice (some ⟨W2.heap.size, 0, none⟩) 1 1)).toArray 156) = W3 := ⟨_, rfl⟩
  rw [hW3] at HC3' HB
  change Code.wp _ _ _ _ ((W2.alloc (.cells (ints [by']).toArray 3)).alloc (.cells (phCells (⟨1, [by'], 0, 0⟩, .slice (some ⟨W2.heap.size, 0, none⟩) 1 1)).toArray 156))
  rw [hW3]
  clear HC3 hW3 hgg2 hs1 hklt
  have HC := HC3'
  clear HC3'

  have hbx := HB.out
  have c0 := hbx.cell 0
  have c1 := hbx.cell 1
  have c2 := hbx.cell 2
  have c3 := hbx.cell 3
  have c4 := hbx.cell 4
  have c5 := hbx.cell 5
  simp only [List.getElem?_cons_succ, List.getElem?_cons_zero] at c0 c1 c2 c3 c4 c5
  clear hbx
  have hsz4 : (W3.alloc (.cells (ints [k / 65536, k / 256 % 256, k % 256]).toArray 3)).heap.size = W3.heap.size + 1 := by simp
  go_upto_region 6 with (at_builtin; go_must (refine wpList_ph1 rfl _ _ rfl (.slice (some ⟨g2, 0, none⟩) 1 1) 1 (([((⟨1, [by'], 0, 0⟩ : Ph), (Value.slice (some ⟨W2.heap.size, 0, none⟩) 1 1))] : List (Ph × Value)).flatMap phCells) rfl (W3.alloc (.cells (ints [k / 65536, k / 256 % 256, k % 256]).toArray 3)) (phCells (⟨ad, [k / 65536, k / 256 % 256, k % 256], 0, 0⟩, .slice (some ⟨W3.heap.size, 0, none⟩) 3 3)) rfl (phCells_one _ _ _ _) ⟨rfl, rfl, rfl⟩ (own_upd HC.out.phGet ((Upd.refl none' W3).alloc _) (fun _ _ f => f)) (by rw [hsz4]; rfl) (by decide) ?_); intro g4 cp4 W4 hRn hUn hgn hgln)
  have hCn := Ctx.phStep HQ.out (HC.out.lit (ints [k / 65536, k / 256 % 256, k % 256]) 3 3 rfl (by decide)) hRn hUn (fun k hk => by simp only [Value.ownBlock, Option.some.injEq] at hk; rw [← hk]; exact hgn)
  have hBn := (HB.out.alloc (.cells (ints [k / 65536, k / 256 % 256, k % 256]).toArray 3)).upd hUn (fun e => by simp only [Value.ownBlock, Option.some.injEq] at e; omega)
  have hkn : kb < g4 := by
    have := (HB.out.alloc (.cells (ints [k / 65536, k / 256 % 256, k % 256]).toArray 3)).lt
    rcases hgn with e | e
    · simp only [Value.ownBlock, Option.some.injEq] at e; omega
    · omega
  clear HC HB c0 c1 c2 c3 c4 c5 hRn hUn hgn hgln
  have HC : Hid (Ctx P ((RowF (.slice (some ⟨g4, 0, none⟩) 2 cp4) 2 (([((⟨1, [by'], 0, 0⟩ : Ph), (Value.slice (some ⟨W2.heap.size, 0, none⟩) 1 1)), ((⟨ad, [k / 65536, k / 256 % 256, k % 256], 0, 0⟩ : Ph), (Value.slice (some ⟨W3.heap.size, 0, none⟩) 3 3 : Value))] : List (Ph × Value)).flatMap phCells)).star Q) w0 W4 _) := Lib.hid hCn
  have HB := Lib.hid hBn
  clear hCn hBn
  have hbx := HB.out
  have c0 := hbx.cell 0
  have c1 := hbx.cell 1
  have c2 := hbx.cell 2
  have c3 := hbx.cell 3
  have c4 := hbx.cell 4
  have c5 := hbx.cell 5
  simp only [List.getElem?_cons_succ, List.getElem?_cons_zero] at c0 c1 c2 c3 c4 c5
  clear hbx
  go_upto_region 7 with fail
  have hmem : (Value.slice a data.length c, ints data) ∈ (((.slice (some ⟨W3.heap.size, 0, none⟩) 3 3 : Value), ints [k / 65536, k / 256 % 256, k % 256]) :: ((.slice none 0 0 : Value), ints []) :: ((.slice (some ⟨W2.heap.size, 0, none⟩) 1 1 : Value), ints [by']) :: rows) := by repeat (first | exact HDD.out | apply List.mem_cons_of_mem)
  have HRSC := Lib.hid (HC.out.drew.rs_mem hmem)
  clear hmem
  have HCH : Hid (∀ (V : World) (va : Option Addr) (vc : Nat), Row V 3 (.slice va data.length vc) (ints data) → (∀ k, (Value.slice va data.length vc).ownBlock = some k → W4.drew.heap.size ≤ k ∧ k < V.heap.size) → Upd none' W4.drew V → V.cell? ⟨kb, 1, none⟩ = some (.int .i64 ad) ∧ Hid (Ctx P ((RowF (.slice (some ⟨g4, 0, none⟩) 2 cp4) 2 (([((⟨1, [by'], 0, 0⟩ : Ph), (Value.slice (some ⟨W2.heap.size, 0, none⟩) 1 1)), ((⟨ad, [k / 65536, k / 256 % 256, k % 256], 0, 0⟩ : Ph), (Value.slice (some ⟨W3.heap.size, 0, none⟩) 3 3 : Value))] : List (Ph × Value)).flatMap phCells)).star Q) w0 V (((.slice va data.length vc : Value), ints data) :: (((.slice (some ⟨W3.heap.size, 0, none⟩) 3 3 : Value), ints [k / 65536, k / 256 % 256, k % 256]) :: ((.slice none 0 0 : Value), ints []) :: ((.slice (some ⟨W2.heap.size, 0, none⟩) 1 1 : Value), ints [by']) :: rows))) ∧ Hid (Blk V kb [.int .i64 by', .int .i64 ad, .bool true, .int .i64 du, .int .i64 da, .bool false] 52)) := Lib.hid (by
    intro V va vc hR hf hU
    have hb := HB.out.drew.upd hU (fun f => f)
    have hc := hb.cell 1
    simp only [List.getElem?_cons_succ, List.getElem?_cons_zero] at hc
    have hrs := hR.rs (by rw [ints_len]; omega)
    exact ⟨hc, Lib.hid (HC.out.drew.newRow hU hrs hf hR.mk), Lib.hid hb⟩)
  have hlk7 : kb < W4.drew.heap.size := HB.out.drew.lt
  go_region_held3 (fun w' => w'.cell? ⟨kb, 1, none⟩ = some (.int .i64 ad)) (first | exact c1 | exact cc7 | exact (World.cell?_alloc_lt _ _ _ hlk7).trans c1 | exact (World.cell?_alloc_lt _ _ _ hl7).trans cc7 | exact (hUn.cell (p := ⟨kb, 1, none⟩) hl7 (fun e => by simp only [Value.ownBlock, Option.some.injEq] at e; omega)).trans cc7) (first | (refine step_appE rfl _ _ rfl W4.drew ⟨rfl, rfl, rfl⟩ rfl _ _ data rfl HRSC.out HDN.out.1 HDN.out.2 ?_; intro va7 vc7 V5 hRc7 hfc7 hUc7; obtain ⟨cc7, HCc7, HBc7⟩ := HCH.out _ _ _ hRc7 hfc7 hUc7; have hl7 := HBc7.out.lt; have hflag : True := trivial) | (clear hflag; go_must (refine step_ph1 rfl _ _ rfl (.slice (some ⟨g4, 0, none⟩) 2 cp4) 2 (([((⟨1, [by'], 0, 0⟩ : Ph), (Value.slice (some ⟨W2.heap.size, 0, none⟩) 1 1)), ((⟨ad, [k / 65536, k / 256 % 256, k % 256], 0, 0⟩ : Ph), (Value.slice (some ⟨W3.heap.size, 0, none⟩) 3 3 : Value))] : List (Ph × Value)).flatMap phCells) rfl V5 (phCells (⟨ad, data, 0, 0⟩, .slice va7 data.length vc7)) rfl (phCells_one _ _ _ _) ⟨rfl, rfl, rfl⟩ HCc7.out.phGet rfl (by decide) ?_); intro g5 cp5 W5 hRn hUn hgn hgln))
  have hCn := Ctx.phStep HQ.out (HCc7.out) hRn hUn (fun k hk => by simp only [Value.ownBlock, Option.some.injEq] at hk; rw [← hk]; exact hgn)
  have hBn := (HBc7.out).upd hUn (fun e => by simp only [Value.ownBlock, Option.some.injEq] at e; omega)
  have hkn : kb < g5 := by
    have := (HBc7.out).lt
    rcases hgn with e | e
    · simp only [Value.ownBlock, Option.some.injEq] at e; omega
    · omega
  clear HC HB c0 c1 c2 c3 c4 c5 hRn hUn hgn hgln
  have HC : Hid (Ctx P ((RowF (.slice (some ⟨g5, 0, none⟩) 3 cp5) 3 (([((⟨1, [by'], 0, 0⟩ : Ph), (Value.slice (some ⟨W2.heap.size, 0, none⟩) 1 1)), ((⟨ad, [k / 65536, k / 256 % 256, k % 256], 0, 0⟩ : Ph), (Value.slice (some ⟨W3.heap.size, 0, none⟩) 3 3 : Value)), ((⟨ad, data, 0, 0⟩ : Ph), (Value.slice va7 data.length vc7 : Value))] : List (Ph × Value)).flatMap phCells)).star Q) w0 W5 _) := Lib.hid hCn
  have HB := Lib.hid hBn
  clear hCn hBn
  have hbx := HB.out
  have c0 := hbx.cell 0
  have c1 := hbx.cell 1
  have c2 := hbx.cell 2
  have c3 := hbx.cell 3
  have c4 := hbx.cell 4
  have c5 := hbx.cell 5
  simp only [List.getElem?_cons_succ, List.getElem?_cons_zero] at c0 c1 c2 c3 c4 c5
  clear hbx
  go_upto_region 10 with (at_builtin; go_must (refine wpList_ph1 rfl _ _ rfl (.slice (some ⟨g5, 0, none⟩) 3 cp5) 3 (([((⟨1, [by'], 0, 0⟩ : Ph), (Value.slice (some ⟨W2.heap.size, 0, none⟩) 1 1)), ((⟨ad, [k / 65536, k / 256 % 256, k % 256], 0, 0⟩ : Ph), (Value.slice (some ⟨W3.heap.size, 0, none⟩) 3 3 : Value)), ((⟨ad, data, 0, 0⟩ : Ph), (Value.slice va7 data.length vc7 : Value))] : List (Ph × Value)).flatMap phCells) rfl W5 (phCells (⟨0, [], du, 0⟩, .slice none 0 0)) rfl (phCells_one _ _ _ _) ⟨rfl, rfl, rfl⟩ HC.out.phGet rfl (by decide) ?_); intro g6 cp6 W6 hRn hUn hgn hgln)
  have hCn := Ctx.phStep HQ.out (HC.out) hRn hUn (fun k hk => by simp only [Value.ownBlock, Option.some.injEq] at hk; rw [← hk]; exact hgn)
  have hBn := (HB.out).upd hUn (fun e => by simp only [Value.ownBlock, Option.some.injEq] at e; omega)
  have hkn : kb < g6 := by
    have := (HB.out).lt
    rcases hgn with e | e
    · simp only [Value.ownBlock, Option.some.injEq] at e; omega
    · omega
  clear HC HB c0 c1 c2 c3 c4 c5 hRn hUn hgn hgln
  have HC : Hid (Ctx P ((RowF (.slice (some ⟨g6, 0, none⟩) 4 cp6) 4 (([((⟨1, [by'], 0, 0⟩ : Ph), (Value.slice (some ⟨W2.heap.size, 0, none⟩) 1 1)), ((⟨ad, [k / 65536, k / 256 % 256, k % 256], 0, 0⟩ : Ph), (Value.slice (some ⟨W3.heap.size, 0, none⟩) 3 3 : Value)), ((⟨ad, data, 0, 0⟩ : Ph), (Value.slice va7 data.length vc7 : Value)), ((⟨0, [], du, 0⟩ : Ph), (Value.slice none 0 0 : Value))] : List (Ph × Value)).flatMap phCells)).star Q) w0 W6 _) := Lib.hid hCn
  have HB := Lib.hid hBn
  clear hCn hBn
  have hbx := HB.out
  have c0 := hbx.cell 0
  have c1 := hbx.cell 1
  have c2 := hbx.cell 2
  have c3 := hbx.cell 3
  have c4 := hbx.cell 4
  have c5 := hbx.cell 5
  simp only [List.getElem?_cons_succ, List.getElem?_cons_zero] at c0 c1 c2 c3 c4 c5
  clear hbx
  go_upto_region 14 with (at_builtin; go_must (refine wpList_ph1 rfl _ _ rfl (.slice (some ⟨g6, 0, none⟩) 4 cp6) 4 (([((⟨1, [by'], 0, 0⟩ : Ph), (Value.slice (some ⟨W2.heap.size, 0, none⟩) 1 1)), ((⟨ad, [k / 65536, k / 256 % 256, k % 256], 0, 0⟩ : Ph), (Value.slice (some ⟨W3.heap.size, 0, none⟩) 3 3 : Value)), ((⟨ad, data, 0, 0⟩ : Ph), (Value.slice va7 data.length vc7 : Value)), ((⟨0, [], du, 0⟩ : Ph), (Value.slice none 0 0 : Value))] : List (Ph × Value)).flatMap phCells) rfl W6 (phCells (⟨da, [], 0, read⟩, .slice none 0 0)) rfl (phCells_one _ _ _ _) ⟨rfl, rfl, rfl⟩ HC.out.phGet rfl (by decide) ?_); intro g7 cp7 W7 hRn hUn hgn hgln)
  have hCn := Ctx.phStep HQ.out (HC.out) hRn hUn (fun k hk => by simp only [Value.ownBlock, Option.some.injEq] at hk; rw [← hk]; exact hgn)
  have hBn := (HB.out).upd hUn (fun e => by simp only [Value.ownBlock, Option.some.injEq] at e; omega)
  have hkn : kb < g7 := by
    have := (HB.out).lt
    rcases hgn with e | e
    · simp only [Value.ownBlock, Option.some.injEq] at e; omega
    · omega
  clear HC HB c0 c1 c2 c3 c4 c5 hRn hUn hgn hgln
  have HC : Hid (Ctx P ((RowF (.slice (some ⟨g7, 0, none⟩) 5 cp7) 5 (([((⟨1, [by'], 0, 0⟩ : Ph), (Value.slice (some ⟨W2.heap.size, 0, none⟩) 1 1)), ((⟨ad, [k / 65536, k / 256 % 256, k % 256], 0, 0⟩ : Ph), (Value.slice (some ⟨W3.heap.size, 0, none⟩) 3 3 : Value)), ((⟨ad, data, 0, 0⟩ : Ph), (Value.slice va7 data.length vc7 : Value)), ((⟨0, [], du, 0⟩ : Ph), (Value.slice none 0 0 : Value)), ((⟨da, [], 0, read⟩ : Ph), (Value.slice none 0 0 : Value))] : List (Ph × Value)).flatMap phCells)).star Q) w0 W7 _) := Lib.hid hCn
  have HB := Lib.hid hBn
  clear hCn hBn
  have hbx := HB.out
  have c0 := hbx.cell 0
  have c1 := hbx.cell 1
  have c2 := hbx.cell 2
  have c3 := hbx.cell 3
  have c4 := hbx.cell 4
  have c5 := hbx.cell 5
  simp only [List.getElem?_cons_succ, List.getElem?_cons_zero] at c0 c1 c2 c3 c4 c5
  clear hbx
  go_upto_region 14 with fail
  clear c0 c1 c2 c3 c4 c5 HB
  have hfin := Ctx.phDone HQ.out HC.out (by decide) (by
    intro x hx
    simp only [List.mem_cons, List.not_mem_nil, or_false] at hx
    rcases hx with rfl | rfl | rfl | rfl | rfl
    all_goals repeat (first | exact List.mem_cons_self | apply List.mem_cons_of_mem))
  have HFIN := Lib.hid hfin
  clear hfin HC
  go_wp2
  go_ret2
  exact ⟨g7, 5, cp7, [((⟨1, [by'], 0, 0⟩ : Ph), (Value.slice (some ⟨W2.heap.size, 0, none⟩) 1 1)), ((⟨ad, [k / 65536, k / 256 % 256, k % 256], 0, 0⟩ : Ph), (Value.slice (some ⟨W3.heap.size, 0, none⟩) 3 3 : Value)), ((⟨ad, data, 0, 0⟩ : Ph), (Value.slice va7 data.length vc7 : Value)), ((⟨0, [], du, 0⟩ : Ph), (Value.slice none 0 0 : Value)), ((⟨da, [], 0, read⟩ : Ph), (Value.slice none 0 0 : Value))], _ :: [(.slice va7 data.length vc7, ints data), (.slice (some ⟨W3.heap.size, 0, none⟩) 3 3, ints [k / 65536, k / 256 % 256, k % 256]), (.slice none 0 0, ints []), (.slice (some ⟨W2.heap.size, 0, none⟩) 1 1, ints [by'])], rfl, by rw [HRES.out]; rfl, HFIN.out.1, HFIN.out.2⟩
set_option maxRecDepth 100000 in
set_option maxHeartbeats 4000000 in
/-- The document's command, any. -/
theorem c_rcommand {P Q : Own} (hQ : Q.Ok) {w0 w : World} {rows : List (Value × List Value)} (hC : Ctx P Q w0 w rows) (c : Int) (hc : opIs c = true) (k : Int) (a : Option Addr) (cp : Nat) (data : List Int) (hd : (.slice a data.length cp, ints data) ∈ rows) (read : Int) (hmay : cmdMay (opOf c) k data read = true) :
    Calls Tryz.prog 39 #[.agg (opOf c).cells, .int .i64 k, .slice a data.length cp, .int .i64 read] w fun e w' => ∃ g m cap L rows', e = .returned (.tuple #[.slice (some ⟨g, 0, none⟩) m cap, .int .i64 0]) ∧ L.map Prod.fst = cmdPhs (opOf c) k data read ∧ Ctx P Q w0 w' (rows' ++ rows) ∧ PhsV (rows' ++ rows) (.slice (some ⟨g, 0, none⟩) m cap) L := by
  have hm0 := hmay
  unfold cmdMay at hmay
  simp only [Bool.and_eq_true, decide_eq_true_eq, Bool.not_eq_true', Bool.and_eq_false_imp] at hmay
  obtain ⟨⟨⟨⟨⟨-, hk0⟩, hlen⟩, -⟩, hr⟩, hfit⟩ := hmay
  have hk0' : (opOf c).addr = 0 → k = 0 := fun h => by
    have := hk0 h
    simpa using this
  have hdl : data.length = 0 → data = [] := fun h => List.eq_nil_of_length_eq_zero h
  have hf := hfit
  unfold fitsB at hf
  simp only [opIs, decide_eq_true_eq] at hc
  rcases hc with rfl | rfl | rfl | rfl | rfl | rfl | rfl | rfl | rfl | rfl | rfl | rfl | rfl | rfl
  · -- 1
    have hr0 : read = 0 := by rw [if_neg (by decide), if_pos (by decide)] at hf; simpa using hf
    by_cases he : data = []
    · exact rcmd_000e0 hQ hC _ (by kernel_rfl) (by kernel_rfl) k a cp data hd hlen read hm0 (by kernel_rfl) (hk0' (by kernel_rfl)) (by kernel_rfl) (by kernel_rfl) (by kernel_rfl) he hr0
    · exact rcmd_000y0 hQ hC _ (by kernel_rfl) (by kernel_rfl) k a cp data hd hlen read hm0 (by kernel_rfl) (hk0' (by kernel_rfl)) (by kernel_rfl) (by kernel_rfl) (by kernel_rfl) he hr0
  · -- 2
    have hr0 : read = 0 := by rw [if_neg (by decide), if_pos (by decide)] at hf; simpa using hf
    by_cases he : data = []
    · exact rcmd_100e0 hQ hC _ (by kernel_rfl) (by kernel_rfl) k a cp data hd hlen read hm0 (by decide) (by kernel_rfl) (by kernel_rfl) (by kernel_rfl) he hr0
    · exact rcmd_100y0 hQ hC _ (by kernel_rfl) (by kernel_rfl) k a cp data hd hlen read hm0 (by decide) (by kernel_rfl) (by kernel_rfl) (by kernel_rfl) he hr0
  · -- 3
    by_cases hr0 : read = 0
    · exact rcmd_100n0 hQ hC _ (by kernel_rfl) (by kernel_rfl) k a cp data hd hlen read hm0 (by decide) (by kernel_rfl) (by kernel_rfl) (by kernel_rfl) hr0
    · exact rcmd_100n1 hQ hC _ (by kernel_rfl) (by kernel_rfl) k a cp data hd hlen read hm0 (by decide) (by kernel_rfl) (by kernel_rfl) (by kernel_rfl) (by omega)
  · -- 4
    have hr0 : read = 0 := by rw [if_pos (by decide)] at hf; simp at hf; exact hf.2
    exact rcmd_000n0 hQ hC _ (by kernel_rfl) (by kernel_rfl) k a cp data hd hlen read hm0 (by kernel_rfl) (hk0' (by kernel_rfl)) (by kernel_rfl) (by kernel_rfl) (by kernel_rfl) hr0
  · -- 5
    by_cases hr0 : read = 0
    · exact rcmd_000n0 hQ hC _ (by kernel_rfl) (by kernel_rfl) k a cp data hd hlen read hm0 (by kernel_rfl) (hk0' (by kernel_rfl)) (by kernel_rfl) (by kernel_rfl) (by kernel_rfl) hr0
    · exact rcmd_000n1 hQ hC _ (by kernel_rfl) (by kernel_rfl) k a cp data hd hlen read hm0 (by kernel_rfl) (hk0' (by kernel_rfl)) (by kernel_rfl) (by kernel_rfl) (by kernel_rfl) (by omega)
  · -- 6
    have hr0 : read = 0 := by rw [if_pos (by decide)] at hf; simp at hf; exact hf.2
    exact rcmd_000n0 hQ hC _ (by kernel_rfl) (by kernel_rfl) k a cp data hd hlen read hm0 (by kernel_rfl) (hk0' (by kernel_rfl)) (by kernel_rfl) (by kernel_rfl) (by kernel_rfl) hr0
  · -- 32
    have hr0 : read = 0 := by rw [if_pos (by decide)] at hf; simp at hf; exact hf.2
    exact rcmd_100n0 hQ hC _ (by kernel_rfl) (by kernel_rfl) k a cp data hd hlen read hm0 (by decide) (by kernel_rfl) (by kernel_rfl) (by kernel_rfl) hr0
  · -- 53
    by_cases hr0 : read = 0
    · exact rcmd_000n0 hQ hC _ (by kernel_rfl) (by kernel_rfl) k a cp data hd hlen read hm0 (by kernel_rfl) (hk0' (by kernel_rfl)) (by kernel_rfl) (by kernel_rfl) (by kernel_rfl) hr0
    · exact rcmd_000n1 hQ hC _ (by kernel_rfl) (by kernel_rfl) k a cp data hd hlen read hm0 (by kernel_rfl) (hk0' (by kernel_rfl)) (by kernel_rfl) (by kernel_rfl) (by kernel_rfl) (by omega)
  · -- 90
    by_cases hr0 : read = 0
    · exact rcmd_101n0 hQ hC _ (by kernel_rfl) (by kernel_rfl) k a cp data hd hlen read hm0 (by decide) (by kernel_rfl) (by decide) (by kernel_rfl) hr0
    · exact rcmd_101n1 hQ hC _ (by kernel_rfl) (by kernel_rfl) k a cp data hd hlen read hm0 (by decide) (by kernel_rfl) (by decide) (by kernel_rfl) (by omega)
  · -- 107
    by_cases hr0 : read = 0
    · exact rcmd_101n0 hQ hC _ (by kernel_rfl) (by kernel_rfl) k a cp data hd hlen read hm0 (by decide) (by kernel_rfl) (by decide) (by kernel_rfl) hr0
    · exact rcmd_101n1 hQ hC _ (by kernel_rfl) (by kernel_rfl) k a cp data hd hlen read hm0 (by decide) (by kernel_rfl) (by decide) (by kernel_rfl) (by omega)
  · -- 117
    have hr0 : read = 0 := by rw [if_pos (by decide)] at hf; simp at hf; exact hf.2
    exact rcmd_000n0 hQ hC _ (by kernel_rfl) (by kernel_rfl) k a cp data hd hlen read hm0 (by kernel_rfl) (hk0' (by kernel_rfl)) (by kernel_rfl) (by kernel_rfl) (by kernel_rfl) hr0
  · -- 122
    have hr0 : read = 0 := by rw [if_pos (by decide)] at hf; simp at hf; exact hf.2
    exact rcmd_000n0 hQ hC _ (by kernel_rfl) (by kernel_rfl) k a cp data hd hlen read hm0 (by kernel_rfl) (hk0' (by kernel_rfl)) (by kernel_rfl) (by kernel_rfl) (by kernel_rfl) hr0
  · -- 159
    by_cases hr0 : read = 0
    · exact rcmd_000n0 hQ hC _ (by kernel_rfl) (by kernel_rfl) k a cp data hd hlen read hm0 (by kernel_rfl) (hk0' (by kernel_rfl)) (by kernel_rfl) (by kernel_rfl) (by kernel_rfl) hr0
    · exact rcmd_000n1 hQ hC _ (by kernel_rfl) (by kernel_rfl) k a cp data hd hlen read hm0 (by kernel_rfl) (hk0' (by kernel_rfl)) (by kernel_rfl) (by kernel_rfl) (by kernel_rfl) (by omega)
  · -- 235
    have hdm : data ≠ [] := by
      rw [if_neg (by decide), if_neg (by decide), if_pos (by decide)] at hf
      rintro rfl
      simp at hf
    by_cases hr0 : read = 0
    · exact rcmd_111n0 hQ hC _ (by kernel_rfl) (by kernel_rfl) k a cp data hd hlen read hm0 (by decide) (by kernel_rfl) (by decide) (by kernel_rfl) hr0 hdm
    · exact rcmd_111n1 hQ hC _ (by kernel_rfl) (by kernel_rfl) k a cp data hd hlen read hm0 (by decide) (by kernel_rfl) (by decide) (by kernel_rfl) (by omega) hdm
end Go.Proofs.YteombggfmeilaaaGreat
namespace Go.Proofs.YteombggfmeilaaaGreat
open Go.RowKit
/-- A block of one's own. -/
def BlkO (k : Nat) (cs : List Value) (T : TypeId) : Own := fun w S => Blk w k cs T ∧ ∀ j, S j ↔ j = k
theorem blkO_ok (k : Nat) (cs : List Value) (T : TypeId) : (BlkO k cs T).Ok := ⟨fun h u hT => ⟨h.1.upd u (hT k ((h.2 k).2 rfl)), h.2⟩, fun h j hj => by rw [(h.2 j).1 hj]; exact h.1.lt⟩
/-- A chip at rest, and the form of a command in block ko. -/
def Wat (c : Cor) (b ko : Nat) (cs : List Value) (n : Int) (w0 w : World) (rows : List (Value × List Value)) : Prop :=
  ∃ (s : St) (N : Int), At c s ∧ Ctx (ChipP b s N) ((BlkO ko cs 52).star .emp) w0 w rows ∧ 0 ≤ N ∧ N ≤ n ∧ n ≤ 1048575
theorem wat_new {fa : ByteArray} {b : Nat} {w0 w : World} {rows : List (Value × List Value)} (hC : Ctx (ChipP b (St.new fa) 0) .emp w0 w rows) (cs : List Value) : Wat (Cor.new fa) b w.heap.size cs 0 w0 (w.alloc (.cells cs.toArray 52)) rows := by
  refine ⟨_, 0, at_new fa, hC.add2 (blkO_ok _ _ _) ((Upd.refl none' w).alloc _) (B := fun k => k = w.heap.size) ⟨Blk.new w cs _, fun k => Iff.rfl⟩ (fun k hk => by omega), Int.le_refl 0, Int.le_refl 0, by decide⟩
theorem Wat.fr {c : Cor} {b ko : Nat} {cs : List Value} {n : Int} {w0 w w' : World} {rows : List (Value × List Value)} (h : Wat c b ko cs n w0 w rows) (u : Upd none' w w') : Wat c b ko cs n w0 w' rows := by
  obtain ⟨s, N, h1, h2, h3⟩ := h
  exact ⟨s, N, h1, h2.frame u, h3⟩
theorem Wat.up {c : Cor} {b ko : Nat} {cs : List Value} {n : Int} {w0 w : World} {rows : List (Value × List Value)} (h : Wat c b ko cs n w0 w rows) : Upd none' w0 w := by
  obtain ⟨s, N, h1, h2, h3⟩ := h
  exact h2.upd
theorem Wat.rs {c : Cor} {b ko : Nat} {cs : List Value} {n : Int} {w0 w : World} {rows : List (Value × List Value)} (h : Wat c b ko cs n w0 w rows) {r : Value × List Value} (hr : r ∈ rows) : RS w r.1 r.2 := by
  obtain ⟨s, N, h1, h2, h3⟩ := h
  exact h2.rs_mem hr
theorem Wat.sub {c : Cor} {b ko : Nat} {cs : List Value} {n : Int} {w0 w : World} {rows rows' : List (Value × List Value)} (h : Wat c b ko cs n w0 w rows) (hs : ∀ r ∈ rows', r ∈ rows) : Wat c b ko cs n w0 w rows' := by
  obtain ⟨s, N, h1, h2, h3⟩ := h
  exact ⟨s, N, h1, h2.sub hs, h3⟩
theorem Wat.lit {c : Cor} {b ko : Nat} {cs : List Value} {n : Int} {w0 w : World} {rows : List (Value × List Value)} (h : Wat c b ko cs n w0 w rows) (vs : List Value) (t : TypeId) (m : Nat) (hm : vs.length = m) (hb : m ≤ 1048576) : Wat c b ko cs n w0 (w.alloc (.cells vs.toArray t)) ((.slice (some ⟨w.heap.size, 0, none⟩) m m, vs) :: rows) := by
  obtain ⟨s, N, h1, h2, h3⟩ := h
  exact ⟨s, N, h1, h2.lit vs t m hm hb, h3⟩
theorem Wat.nil {c : Cor} {b ko : Nat} {cs : List Value} {n : Int} {w0 w : World} {rows : List (Value × List Value)} (h : Wat c b ko cs n w0 w rows) : Wat c b ko cs n w0 w ((.slice none 0 0, ints []) :: rows) := by
  obtain ⟨s, N, h1, h2, h3⟩ := h
  exact ⟨s, N, h1, h2.nilrow, h3⟩
theorem Wat.blk {c : Cor} {b ko : Nat} {cs : List Value} {n : Int} {w0 w : World} {rows : List (Value × List Value)} (h : Wat c b ko cs n w0 w rows) : Blk w ko cs 52 := by
  obtain ⟨s, N, h1, h2, h3⟩ := h
  obtain ⟨S, ⟨k1, k2⟩, k3⟩ := h2.get2
  exact k1
theorem Wat.set {c : Cor} {b ko : Nat} {cs : List Value} {n : Int} {w0 w : World} {rows : List (Value × List Value)} (h : Wat c b ko cs n w0 w rows) (i : Nat) (v : Value) : Wat c b ko (cs.set i v) n w0 (w.setCell ⟨ko, i, none⟩ v) rows := by
  obtain ⟨s, N, h1, h2, h3⟩ := h
  refine ⟨s, N, h1, h2.step2 (blkO_ok _ _ _) Own.emp_ok (blkO_ok _ _ _) ?_, h3⟩
  rintro S ⟨k1, k2⟩
  exact ⟨S, ⟨k1.set i v, k2⟩, fun j hj => .inl hj, (Upd.refl _ _).setCell _ _ (fun _ => (k2 ko).2 rfl)⟩
/-- The document's command. -/
theorem wat_cmd {c : Cor} {b ko : Nat} {cs : List Value} {n : Int} {w0 w : World} {rows : List (Value × List Value)} (h : Wat c b ko cs n w0 w rows) (o : Int) (ho : opIs o = true) (ocs : Array Value) (hocs : (opOf o).cells = ocs) (k : Int) (a : Option Addr) (cp : Nat) (data : List Int) (m0 : Nat) (hm0 : data.length = m0) (hd : (.slice a m0 cp, ints data) ∈ rows) (read : Int) (hmay : cmdMay (opOf o) k data read = true) :
    Calls Tryz.prog 39 #[.agg ocs, .int .i64 k, .slice a m0 cp, .int .i64 read] w fun e w' => ∃ g m cap L rows', e = .returned (.tuple #[.slice (some ⟨g, 0, none⟩) m cap, .int .i64 0]) ∧ L.map Prod.fst = cmdPhs (opOf o) k data read ∧ Wat c b ko cs n w0 w' (rows' ++ rows) ∧ PhsV (rows' ++ rows) (.slice (some ⟨g, 0, none⟩) m cap) L := by
  subst hm0
  obtain ⟨s, N, h1, h2, h3⟩ := h
  rw [← hocs]
  refine (c_rcommand ((blkO_ok _ _ _).star Own.emp_ok) h2 o ho k a cp data hd read hmay).mono ?_
  rintro e w' ⟨g, m, cap, L, rows', rfl, e1, e2, e3⟩
  exact ⟨g, m, cap, L, rows', rfl, e1, ⟨s, N, h1, e2, h3⟩, e3⟩
/-- A command's phases, driven whole. -/
theorem wat_drive {c : Cor} {b ko : Nat} {cs : List Value} {n : Int} {w0 w : World} {rows : List (Value × List Value)} (h : Wat c b ko cs n w0 w rows) (o : Int) (ho : opIs o = true) (k : Int) (data : List Int) (read : Int) (hmay : cmdMay (opOf o) k data read = true)
    (a : Option Addr) (m cap : Nat) (L : List (Ph × Value)) (hL : L.map Prod.fst = cmdPhs (opOf o) k data read) (hP : PhsV rows (.slice a m cap) L)
    (c' : Cor) (out : List Int) (ol : Nat) (hol : out.length = ol) (clk : Int) (hclk : phsMany (cmdPhs (opOf o) k data read) = clk) (hroom : n + clk + 1 ≤ 1048575) (hd : ∀ t, At c t → ∃ d : Drv, Drv.phases ⟨t.select, [], 0, -1⟩ (cmdPhs (opOf o) k data read) = (d, true) ∧ d.clocks = clk ∧ d.out = out ∧ At c' d.s.deselect) :
    Calls Tryz.prog 40 #[.pointer (some ⟨b, 0, none⟩), .slice a m cap, .int .i64 (-1)] w fun e w' => ∃ oa oc, e = .returned (.tuple #[.slice oa ol oc, .int .i64 clk, .bool true, .int .i64 0]) ∧ Wat c' b ko cs (n + clk + 1) w0 w' ((.slice oa ol oc, ints out) :: rows) := by
  subst hol
  obtain ⟨s, N, h1, h2, h3, h4, h5⟩ := h
  obtain ⟨d, e1, e2, e3, e4⟩ := hd s h1
  have hall := cmd_all o ho k data read hmay
  refine (c_drive ((blkO_ok _ _ _).star Own.emp_ok) h2 h3 h1.sel a m cap L hP (-1) (by unfold i64B; decide) (by rw [← map_all, hL]; exact hall) (.inl (by rw [hL, hclk]; omega)) d true (by rw [hL]; exact e1)).mono ?_
  rintro e w' ⟨oa, oc, rfl, hC⟩
  rw [e2, e3] at hC ⊢
  have hk := phases_kept (cmdPhs (opOf o) k data read) ⟨s.select, [], 0, -1⟩ hall
  rw [e1] at hk
  have hc0 := hk.up
  dsimp only at hc0
  exact ⟨oa, oc, rfl, d.s.deselect, N + clk + 1, e4, hC, by omega, by omega, by omega⟩
/-- Its clocks are told. -/
theorem wat_clocks {c : Cor} {b ko : Nat} {cs : List Value} {n : Int} {w0 w : World} {rows : List (Value × List Value)} (h : Wat c b ko cs n w0 w rows) (o : Int) (ho : opIs o = true) (k : Int) (data : List Int) (read : Int) (hmay : cmdMay (opOf o) k data read = true)
    (a : Option Addr) (m cap : Nat) (L : List (Ph × Value)) (hL : L.map Prod.fst = cmdPhs (opOf o) k data read) (hP : PhsV rows (.slice a m cap) L) (clk : Int) (hclk : phsMany (cmdPhs (opOf o) k data read) = clk) :
    Calls Tryz.prog 41 #[.slice a m cap] w fun e w' => e = .returned (.tuple #[.int .i64 clk, .int .i64 0]) ∧ Wat c b ko cs n w0 w' rows := by
  obtain ⟨s, N, h1, h2, h3⟩ := h
  have hall : L.all (fun x => x.1.may) = true := by rw [← map_all, hL]; exact cmd_all o ho k data read hmay
  have := wire_clocks h2 a m cap L hP
  rw [show clocksV L = clk by unfold clocksV; rw [hall, if_pos rfl, hL, hclk], show clocksE L = 0 by unfold clocksE; rw [hall, if_pos rfl]] at this
  refine this.mono ?_
  rintro e w' ⟨rfl, hC⟩
  exact ⟨rfl, s, N, h1, hC, h3⟩
theorem wat_cells {c : Cor} {b ko : Nat} {cs : List Value} {n : Int} {w0 w : World} {rows : List (Value × List Value)} (h : Wat c b ko cs n w0 w rows) (fa : ByteArray) (ha : c.a = fa) :
    Calls Tryz.prog 34 #[.pointer (some ⟨b, 0, none⟩)] w fun e w' => e = .returned (.string fa) ∧ w = w' := by
  obtain ⟨s, N, h1, h2, h3⟩ := h
  exact c_cells h2 fa (h1.a.trans ha)
theorem rfindL (o : Int) (ho : opIs o = true) (ocs : Array Value) (hocs : (opOf o).cells = ocs) (w : World) :
    Calls Tryz.prog 38 #[.int .i64 o] w fun e w' => e = .returned (.tuple #[.agg ocs, .int .i64 0]) ∧ Upd none' w w' := by
  rw [← hocs]
  exact rfind o ho w
end Go.Proofs.YteombggfmeilaaaGreat
