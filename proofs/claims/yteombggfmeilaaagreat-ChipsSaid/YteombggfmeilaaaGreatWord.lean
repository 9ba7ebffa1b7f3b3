/- The walks over word, quiet. -/
import Derived.Test.YteombggfmeilaaaGreatLow
import Derived.Test.YteombggfmeilaaaGreatWireM
import Derived.Laws.AppendOwnNone
namespace Go.Proofs.YteombggfmeilaaaGreat
open Go.RowKit
theorem or14 (v : Int) (h : v = 0 ∨ v = 1) : bits .or .i64 14 v = 14 + v := by
  rcases h with rfl | rfl <;> decide +kernel
set_option maxRecDepth 100000 in
set_option maxHeartbeats 2000000 in
theorem law_word (w : World) (v0 : Value) (bs : List Int) (hr : RS w v0 (ints bs)) (hlen : bs.length ≤ 65536) (hb : ∀ x ∈ bs, 0 ≤ x ∧ x ≤ 255) :
    Calls Tryz.prog 116 #[v0] w fun e w' => ∃ v', e = .returned v' ∧ Row w' 3 v' (ints (wordL bs)) ∧ (∀ k, v'.ownBlock = some k → w.heap.size ≤ k) ∧ Upd none' w w' := by
  obtain ⟨h1, a0, cap0, rfl, h4, h5⟩ := hr
  rw [ints_len] at h1 h4 h5 ⊢
  go_enter Tryz.func116, Tryz.ntmps116
  go_wp2_with fail
  go_loopw [3, 4] (fun ov iv wr => ∃ i : Nat, i ≤ bs.length ∧ iv = .int .i64 i ∧ Row wr 3 ov (ints (wordL (bs.take i))) ∧ (∀ k, ov.ownBlock = some k → w.heap.size ≤ k) ∧ Upd none' w wr) (fun _ iv _ => bs.length - (intOf iv).toNat)
  case atStart => exact ⟨0, by omega, rfl, by rw [List.take_zero]; exact Row.nil _ _, fun k hk => (by simp [Value.ownBlock] at hk), Upd.refl _ _⟩
  case round =>
    obtain ⟨i, hi, rfl, hrow, hown, hU⟩ := hrel
    obtain ⟨oa, oc, rfl, -⟩ := hrow.form
    have hwl : ∀ l : List Int, (wordL l).length = 8 * l.length := by
      intro l
      induction l with
      | nil => rfl
      | cons x l ih => simp only [wordL, List.flatMap_cons, List.length_append, List.length_cons]; rw [show (List.flatMap byteBits l).length = 8 * l.length from ih]; simp [byteBits]; omega
    have hol : (ints (wordL (bs.take i))).length = 8 * i := by rw [ints_len, hwl, List.length_take, Nat.min_eq_left hi]
    rw [hol] at hrow hown ⊢
    by_cases hlt : i < bs.length
    · obtain ⟨bb, oo, rfl, hbb, hcc⟩ := h5 (by intro h; simp [ints] at h; simp [h] at hlt)
      obtain ⟨x, hxi⟩ : ∃ x, bs.getD i 0 = x := ⟨_, rfl⟩
      have hcell : wr.cell? ⟨bb, oo + i, none⟩ = some (.int .i64 x) := by
        rw [hU.cell (p := ⟨bb, oo + i, none⟩) hbb (fun f => f), hcc i hlt, ints_at _ _ hlt, hxi]
      have hmem : x ∈ bs := by rw [← hxi, List.getD_eq_getElem?_getD, List.getElem?_eq_getElem hlt]; exact List.getElem_mem hlt
      have hx := hb x hmem
      have htk : wordL (bs.take (i + 1)) = wordL (bs.take i) ++ byteBits x := by
        have e : bs.take (i + 1) = bs.take i ++ [x] := by
          rw [List.take_add_one, ← hxi]
          simp [List.getD_eq_getElem?_getD, List.getElem?_eq_getElem hlt]
        rw [e]
        simp [wordL]
      have HTK := Lib.hid htk
      have HROW := Lib.hid hrow
      have HOWN := Lib.hid hown
      have HU := Lib.hid hU
      have hbl := Nat.lt_of_lt_of_le hbb hU.size
      clear htk hmem hcc hrow hown hU hxi hb
      generalize wordL (bs.take i) = ol at *
      go_wp2_with fail
      go_loopw [3, 5] (fun ov jv wr2 => ∃ j : Nat, j ≤ 8 ∧ jv = .int .i64 (7 - (j : Int)) ∧ Row wr2 3 ov (ints (ol ++ (byteBits x).take j)) ∧ (∀ k, ov.ownBlock = some k → w.heap.size ≤ k) ∧ Upd none' w wr2) (fun _ jv _ => (intOf jv + 1).toNat)
      case atStart => exact ⟨0, by omega, rfl, by rw [List.take_zero, List.append_nil]; exact HROW.out, HOWN.out, HU.out⟩
      case round =>
        rename World => W2
        obtain ⟨j, hj, rfl, hrow2, hown2, hU2⟩ := hrel
        obtain ⟨oa2, oc2, rfl, -⟩ := hrow2.form
        have hol2 : (ints (ol ++ (byteBits x).take j)).length = 8 * i + j := by
          rw [ints_len, List.length_append, List.length_take, show (byteBits x).length = 8 from rfl, Nat.min_eq_left hj]
          have := hol
          rw [ints_len] at this
          omega
        rw [hol2] at hrow2 hown2 ⊢
        have hcell2 : W2.cell? ⟨bb, oo + i, none⟩ = some (.int .i64 x) := by
          rw [hU2.cell (p := ⟨bb, oo + i, none⟩) hbb (fun f => f), ← hcell, HU.out.cell (p := ⟨bb, oo + i, none⟩) hbb (fun f => f)]
        have HROW2 := Lib.hid hrow2
        have HOWN2 := Lib.hid hown2
        have HU2 := Lib.hid hU2
        have HOL := Lib.hid hol2
        have HOL0 := Lib.hid hol
        clear hrow2 hown2 hU2 hcell hol2 hol h5 hwl
        rcases (show j = 0 ∨ j = 1 ∨ j = 2 ∨ j = 3 ∨ j = 4 ∨ j = 5 ∨ j = 6 ∨ j = 7 ∨ j = 8 by omega) with rfl | rfl | rfl | rfl | rfl | rfl | rfl | rfl | rfl
        · have ha := i64_and1 (x / 128)
          have ho := or14 (x / 128 % 2) (by omega)
          go_wp2_with (at_builtin; go_must (refine wpList_app1 rfl _ _ 33 rfl 3 (.int .i64 0) 8 Tryz.underlying33 info_int rfl _ (ints (ol ++ (byteBits x).take 0)) (8 * i + 0) HOL.out rfl W2 (.int .i64 (14 + x / 128 % 2)) ⟨rfl, rfl, rfl⟩ HROW2.out rfl rfl (by omega) (by omega) ?_); intro g cap w3 hR3 hU3 hg3 hgs3)
          refine ⟨?rel, ?measure⟩
          case rel =>
            have hg : w.heap.size ≤ g := by
              rcases hg3 with e | e
              · exact HOWN2.out g e
              · have := HU2.out.size; omega
            refine ⟨1, by omega, by go_num, ?_, ?_, ?_⟩
            · rw [show (byteBits x).take 1 = (byteBits x).take 0 ++ [14 + x / 128 % 2] from rfl, ← List.append_assoc, ints_app]
              exact hR3
            · intro k hk
              simp [Value.ownBlock] at hk
              rw [← hk]
              exact hg
            · exact HU2.out.trans hU3 (fun k h1 h2 => absurd (HOWN2.out k h2) (by omega))
          case measure => simp [intOf]
        · have ha := i64_and1 (x / 64)
          have ho := or14 (x / 64 % 2) (by omega)
          go_wp2_with (at_builtin; go_must (refine wpList_app1 rfl _ _ 33 rfl 3 (.int .i64 0) 8 Tryz.underlying33 info_int rfl _ (ints (ol ++ (byteBits x).take 1)) (8 * i + 1) HOL.out rfl W2 (.int .i64 (14 + x / 64 % 2)) ⟨rfl, rfl, rfl⟩ HROW2.out rfl rfl (by omega) (by omega) ?_); intro g cap w3 hR3 hU3 hg3 hgs3)
          refine ⟨?rel, ?measure⟩
          case rel =>
            have hg : w.heap.size ≤ g := by
              rcases hg3 with e | e
              · exact HOWN2.out g e
              · have := HU2.out.size; omega
            refine ⟨2, by omega, by go_num, ?_, ?_, ?_⟩
            · rw [show (byteBits x).take 2 = (byteBits x).take 1 ++ [14 + x / 64 % 2] from rfl, ← List.append_assoc, ints_app]
              exact hR3
            · intro k hk
              simp [Value.ownBlock] at hk
              rw [← hk]
              exact hg
            · exact HU2.out.trans hU3 (fun k h1 h2 => absurd (HOWN2.out k h2) (by omega))
          case measure => simp [intOf]
        · have ha := i64_and1 (x / 32)
          have ho := or14 (x / 32 % 2) (by omega)
          go_wp2_with (at_builtin; go_must (refine wpList_app1 rfl _ _ 33 rfl 3 (.int .i64 0) 8 Tryz.underlying33 info_int rfl _ (ints (ol ++ (byteBits x).take 2)) (8 * i + 2) HOL.out rfl W2 (.int .i64 (14 + x / 32 % 2)) ⟨rfl, rfl, rfl⟩ HROW2.out rfl rfl (by omega) (by omega) ?_); intro g cap w3 hR3 hU3 hg3 hgs3)
          refine ⟨?rel, ?measure⟩
          case rel =>
            have hg : w.heap.size ≤ g := by
              rcases hg3 with e | e
              · exact HOWN2.out g e
              · have := HU2.out.size; omega
            refine ⟨3, by omega, by go_num, ?_, ?_, ?_⟩
            · rw [show (byteBits x).take 3 = (byteBits x).take 2 ++ [14 + x / 32 % 2] from rfl, ← List.append_assoc, ints_app]
              exact hR3
            · intro k hk
              simp [Value.ownBlock] at hk
              rw [← hk]
              exact hg
            · exact HU2.out.trans hU3 (fun k h1 h2 => absurd (HOWN2.out k h2) (by omega))
          case measure => simp [intOf]
        · have ha := i64_and1 (x / 16)
          have ho := or14 (x / 16 % 2) (by omega)
          go_wp2_with (at_builtin; go_must (refine wpList_app1 rfl _ _ 33 rfl 3 (.int .i64 0) 8 Tryz.underlying33 info_int rfl _ (ints (ol ++ (byteBits x).take 3)) (8 * i + 3) HOL.out rfl W2 (.int .i64 (14 + x / 16 % 2)) ⟨rfl, rfl, rfl⟩ HROW2.out rfl rfl (by omega) (by omega) ?_); intro g cap w3 hR3 hU3 hg3 hgs3)
          refine ⟨?rel, ?measure⟩
          case rel =>
            have hg : w.heap.size ≤ g := by
              rcases hg3 with e | e
              · exact HOWN2.out g e
              · have := HU2.out.size; omega
            refine ⟨4, by omega, by go_num, ?_, ?_, ?_⟩
            · rw [show (byteBits x).take 4 = (byteBits x).take 3 ++ [14 + x / 16 % 2] from rfl, ← List.append_assoc, ints_app]
              exact hR3
            · intro k hk
              simp [Value.ownBlock] at hk
              rw [← hk]
              exact hg
            · exact HU2.out.trans hU3 (fun k h1 h2 => absurd (HOWN2.out k h2) (by omega))
          case measure => simp [intOf]
        · have ha := i64_and1 (x / 8)
          have ho := or14 (x / 8 % 2) (by omega)
          go_wp2_with (at_builtin; go_must (refine wpList_app1 rfl _ _ 33 rfl 3 (.int .i64 0) 8 Tryz.underlying33 info_int rfl _ (ints (ol ++ (byteBits x).take 4)) (8 * i + 4) HOL.out rfl W2 (.int .i64 (14 + x / 8 % 2)) ⟨rfl, rfl, rfl⟩ HROW2.out rfl rfl (by omega) (by omega) ?_); intro g cap w3 hR3 hU3 hg3 hgs3)
          refine ⟨?rel, ?measure⟩
          case rel =>
            have hg : w.heap.size ≤ g := by
              rcases hg3 with e | e
              · exact HOWN2.out g e
              · have := HU2.out.size; omega
            refine ⟨5, by omega, by go_num, ?_, ?_, ?_⟩
            · rw [show (byteBits x).take 5 = (byteBits x).take 4 ++ [14 + x / 8 % 2] from rfl, ← List.append_assoc, ints_app]
              exact hR3
            · intro k hk
              simp [Value.ownBlock] at hk
              rw [← hk]
              exact hg
            · exact HU2.out.trans hU3 (fun k h1 h2 => absurd (HOWN2.out k h2) (by omega))
          case measure => simp [intOf]
        · have ha := i64_and1 (x / 4)
          have ho := or14 (x / 4 % 2) (by omega)
          go_wp2_with (at_builtin; go_must (refine wpList_app1 rfl _ _ 33 rfl 3 (.int .i64 0) 8 Tryz.underlying33 info_int rfl _ (ints (ol ++ (byteBits x).take 5)) (8 * i + 5) HOL.out rfl W2 (.int .i64 (14 + x / 4 % 2)) ⟨rfl, rfl, rfl⟩ HROW2.out rfl rfl (by omega) (by omega) ?_); intro g cap w3 hR3 hU3 hg3 hgs3)
          refine ⟨?rel, ?measure⟩
          case rel =>
            have hg : w.heap.size ≤ g := by
              rcases hg3 with e | e
              · exact HOWN2.out g e
              · have := HU2.out.size; omega
            refine ⟨6, by omega, by go_num, ?_, ?_, ?_⟩
            · rw [show (byteBits x).take 6 = (byteBits x).take 5 ++ [14 + x / 4 % 2] from rfl, ← List.append_assoc, ints_app]
              exact hR3
            · intro k hk
              simp [Value.ownBlock] at hk
              rw [← hk]
              exact hg
            · exact HU2.out.trans hU3 (fun k h1 h2 => absurd (HOWN2.out k h2) (by omega))
          case measure => simp [intOf]
        · have ha := i64_and1 (x / 2)
          have ho := or14 (x / 2 % 2) (by omega)
          go_wp2_with (at_builtin; go_must (refine wpList_app1 rfl _ _ 33 rfl 3 (.int .i64 0) 8 Tryz.underlying33 info_int rfl _ (ints (ol ++ (byteBits x).take 6)) (8 * i + 6) HOL.out rfl W2 (.int .i64 (14 + x / 2 % 2)) ⟨rfl, rfl, rfl⟩ HROW2.out rfl rfl (by omega) (by omega) ?_); intro g cap w3 hR3 hU3 hg3 hgs3)
          refine ⟨?rel, ?measure⟩
          case rel =>
            have hg : w.heap.size ≤ g := by
              rcases hg3 with e | e
              · exact HOWN2.out g e
              · have := HU2.out.size; omega
            refine ⟨7, by omega, by go_num, ?_, ?_, ?_⟩
            · rw [show (byteBits x).take 7 = (byteBits x).take 6 ++ [14 + x / 2 % 2] from rfl, ← List.append_assoc, ints_app]
              exact hR3
            · intro k hk
              simp [Value.ownBlock] at hk
              rw [← hk]
              exact hg
            · exact HU2.out.trans hU3 (fun k h1 h2 => absurd (HOWN2.out k h2) (by omega))
          case measure => simp [intOf]
        · have ha := i64_and1 (x)
          have ho := or14 (x % 2) (by omega)
          go_wp2_with (at_builtin; go_must (refine wpList_app1 rfl _ _ 33 rfl 3 (.int .i64 0) 8 Tryz.underlying33 info_int rfl _ (ints (ol ++ (byteBits x).take 7)) (8 * i + 7) HOL.out rfl W2 (.int .i64 (14 + x % 2)) ⟨rfl, rfl, rfl⟩ HROW2.out rfl rfl (by omega) (by omega) ?_); intro g cap w3 hR3 hU3 hg3 hgs3)
          refine ⟨?rel, ?measure⟩
          case rel =>
            have hg : w.heap.size ≤ g := by
              rcases hg3 with e | e
              · exact HOWN2.out g e
              · have := HU2.out.size; omega
            refine ⟨8, by omega, by go_num, ?_, ?_, ?_⟩
            · rw [show (byteBits x).take 8 = (byteBits x).take 7 ++ [14 + x % 2] from rfl, ← List.append_assoc, ints_app]
              exact hR3
            · intro k hk
              simp [Value.ownBlock] at hk
              rw [← hk]
              exact hg
            · exact HU2.out.trans hU3 (fun k h1 h2 => absurd (HOWN2.out k h2) (by omega))
          case measure => simp [intOf]
        · go_wp2
          refine ⟨?rel, ?measure⟩
          case rel =>
            refine ⟨i + 1, by omega, by go_num, ?_, HOWN2.out, HU2.out⟩
            rw [HTK.out]
            exact HROW2.out
          case measure => simp [intOf]; omega
    · have hieq : i = bs.length := by omega
      subst hieq
      rw [List.take_length] at hrow
      go_wp2
      go_ret
      exact ⟨.slice oa (8 * bs.length) oc, rfl, hrow, hown, hU⟩
/-- 'append(own, src...)', src a slice that is read, nil or not. -/
theorem wpList_appRS {P : Program} {w : World} {ops : Array Oper} {rest : List Oper} {o : Oper} {a : Act} {Q : Exit → Act → World → Prop} (hgd : o.guard = none) (s x : Operand) (t : TypeId)
    (ho : o.op = .call { callee := .builtin .append, args := #[s, x], argTypes := #[t, t] })
    (e : TypeId) (z : Value) (bytes : Nat) (ht : P.underlying t = some (.slice e)) (hi : (P.info? e).map (fun i => (i.zero, i.size, i.bytes)) = some (some z, 1, bytes)) (hzs : z.cells.size = 1)
    (base : Nat) (v : Value) (hs : a.eval s = v) (hown : w.ownsRow base e 1 v 0 [])
    (ao : Option Addr) (m c : Nat) (hx : a.eval x = .slice ao m c) (news : List Value) (hr : RS w (.slice ao m c) news) (hc : ao = none → c = 0) (h1 : ∀ u ∈ news, u.oneCell' = true)
    (hlen : news.length ≤ 17592186044416) (hbytes : news.length * bytes ≤ 140737488355328) (hbase : base ≤ w.heap.size)
    (h : ∀ v' w', w'.ownsRow base e 1 v' news.length news → Upd (fun k => v.ownBlock = some k) w w' → wpList P ops Q rest (a.put o.dst v') w') : wpList P ops Q (o :: rest) a w := by
  obtain ⟨_, a', cap, e1, _, h5⟩ := hr
  simp only [Value.slice.injEq] at e1
  obtain ⟨rfl, rfl, rfl⟩ := e1
  obtain ⟨i0, hi0, hz0, hz1, hz2⟩ := info_parts hi
  cases ao with
  | none =>
    have hn : news = [] := by
      by_cases hn : news = []
      · exact hn
      · obtain ⟨b, o, h, _⟩ := h5 hn
        cases h
    subst hn
    have := hc rfl
    subst this
    exact wpList_append_own_none hgd s x t ho base e i0 1 ht hi0 v 0 [] hs hown hx (h v w hown (Upd.refl _ w))
  | some ad =>
    refine wpList_appS hgd s x t ho e z bytes ht hi hzs base v 0 [] hs hown _ ad news.length c news hx rfl rfl ?_ h1 (by omega) (by simpa using hbytes) hbase ?_
    · intro j u hu
      have hj : j < news.length := (List.getElem?_eq_some_iff.1 hu).1
      obtain ⟨b, o, e2, hb, hcell⟩ := h5 (by intro h; simp [h] at hj)
      simp only [Option.some.injEq] at e2
      subst e2
      have ea : (⟨b, o, none⟩ : Addr).add j = ⟨b, o + j, none⟩ := by unfold Addr.add; split <;> simp_all
      rw [ea, hcell j hj, hu]
    · intro v' w' hO hU
      have hO' : w'.ownsRow base e 1 v' news.length news := by simpa using hO
      exact h v' w' hO' hU
set_option maxRecDepth 100000 in
set_option maxHeartbeats 2000000 in
theorem law_quiet (w : World) (a0 : Option Addr) (n0 c0 : Nat) (xs : List Int) (k : Nat) (hr : RS w (.slice a0 n0 c0) (ints xs)) (hc0 : a0 = none → c0 = 0) (hlen : xs.length ≤ 1048576) (hk : k ≤ 1048576) :
    Calls Tryz.prog 115 #[.slice a0 n0 c0, .int .i64 (k : Int)] w fun e w' => ∃ v', e = .returned v' ∧ Row w' 3 v' (ints (xs ++ List.replicate k 15)) ∧ (∀ g, v'.ownBlock = some g → w.heap.size ≤ g) ∧ Upd none' w w' := by
  have hR1 := Lib.hid (hr.upd ((Upd.refl none' w).alloc (.cells #[] 3)) (fun _ _ _ f => f))
  go_enter Tryz.func115, Tryz.ntmps115
  go_upto_region 2 with (at_builtin; go_must (refine wpList_appRS rfl _ _ 33 rfl 3 (.int .i64 0) 8 Tryz.underlying33 info_int rfl w.heap.size (.slice (some ⟨w.heap.size, 0, none⟩) 0 0) rfl (own_empty w 3) _ _ _ rfl (ints xs) hR1.out hc0 (ints_one xs) (by rw [ints_len]; omega) (by rw [ints_len]; omega) (by simp) ?_); intro v' w2 hO1 hU1; have hV1 : Upd none' w w2 := ((Upd.refl none' w).alloc _).trans hU1 (fun k h1 h2 => by simp [Value.ownBlock] at h2; omega); obtain ⟨hRow1, hbase1⟩ := Row.of_own hO1; obtain ⟨va, na, rfl, -⟩ := hRow1.form)
  rw [ints_len] at hRow1 hbase1 ⊢
  go_wp2_with fail
  go_loopw [5, 6] (fun ov iv wr => ∃ i : Nat, i ≤ k ∧ iv = .int .i64 i ∧ Row wr 3 ov (ints (xs ++ List.replicate i 15)) ∧ (∀ g, ov.ownBlock = some g → w.heap.size ≤ g) ∧ Upd none' w wr) (fun _ iv _ => k - (intOf iv).toNat)
  case atStart => exact ⟨0, by omega, rfl, by rw [List.replicate_zero, List.append_nil]; exact hRow1, hbase1, hV1⟩
  case round =>
    clear hRow1 hbase1 hV1 hO1 hU1
    obtain ⟨i, hi, rfl, hrow, hown, hU⟩ := hrel
    obtain ⟨oa, oc, rfl, -⟩ := hrow.form
    have hol : (ints (xs ++ List.replicate i 15)).length = xs.length + i := by rw [ints_len, List.length_append, List.length_replicate]
    rw [hol] at hrow hown ⊢
    have HROW := Lib.hid hrow
    have HOWN := Lib.hid hown
    have HU := Lib.hid hU
    have HOL := Lib.hid hol
    clear hrow hown hU hol
    by_cases hlt : i < k
    · go_wp2_with (at_builtin; go_must (refine wpList_app1 rfl _ _ 33 rfl 3 (.int .i64 0) 8 Tryz.underlying33 info_int rfl _ (ints (xs ++ List.replicate i 15)) (xs.length + i) HOL.out rfl wr (.int .i64 15) ⟨rfl, rfl, rfl⟩ HROW.out rfl rfl (by omega) (by omega) ?_); intro g cap w3 hR3 hU3 hg3 hgs3)
      refine ⟨?rel, ?measure⟩
      case rel =>
        have hg : w.heap.size ≤ g := by
          rcases hg3 with e | e
          · exact HOWN.out g e
          · have := HU.out.size; omega
        refine ⟨i + 1, by omega, by go_num, ?_, ?_, ?_⟩
        · rw [List.replicate_succ', ← List.append_assoc, ints_app]
          exact hR3
        · intro k hk
          simp [Value.ownBlock] at hk
          rw [← hk]
          exact hg
        · exact HU.out.trans hU3 (fun k h1 h2 => absurd (HOWN.out k h2) (by omega))
      case measure => simp [intOf]; omega
    · have hieq : i = k := by omega
      subst hieq
      go_wp2
      go_ret
      exact ⟨.slice oa (xs.length + i) oc, rfl, HROW.out, HOWN.out, HU.out⟩
end Go.Proofs.YteombggfmeilaaaGreat
