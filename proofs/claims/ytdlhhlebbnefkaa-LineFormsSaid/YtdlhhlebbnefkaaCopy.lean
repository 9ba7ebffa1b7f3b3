/- CopyCache: another one of the same lines. -/
import Derived.Test.YtdlhhlebbnefkaaLineC
import Derived.Laws.AppendOwnNone
namespace Go.Proofs.Ytdlhhlebbnefkaa
open Go.RowKit
/-- 'append(own, src...)', src a slice that is read, nil or not. -/
theorem wpList_appRS {P : Program} {w : World} {ops : Array Oper} {rest : List Oper} {o : Oper} {a : Act} {Q : Exit → Act → World → Prop} (hgd : o.guard = none) (s x : Operand) (t : TypeId)
    (ho : o.op = .call { callee := .builtin .append, args := #[s, x], argTypes := #[t, t] })
    (e : TypeId) (z : Value) (bytes : Nat) (ht : P.underlying t = some (.slice e)) (hi : (P.info? e).map (fun i => (i.zero, i.size, i.bytes)) = some (some z, 1, bytes)) (hzs : z.cells.size = 1)
    (base : Nat) (v : Value) (hs : a.eval s = v) (hown : w.ownsRow base e 1 v 0 [])
    (ao : Option Addr) (m c : Nat) (hx : a.eval x = .slice ao m c) (news : List Value) (hr : RS w (.slice ao m c) news) (hc : ao = none → c = 0) (h1 : ∀ u ∈ news, u.oneCell' = true)
    (hlen : news.length ≤ 17592186044416) (hbytes : news.length * bytes ≤ 140737488355328) (hbase : base ≤ w.heap.size)
    (h : ∀ v' w', w'.ownsRow base e 1 v' news.length news → Upd (fun k => v.ownBlock = some k) w w' → wpList P ops Q rest (a.put o.dst v') w') : wpList P ops Q (o :: rest) a w := by
  obtain ⟨_, a', cap, e1, _, h5⟩ := hr
  simp only [Value.slice.injEq] at e1
  obtain ⟨rfl, rfl, rfl⟩ := e1
  obtain ⟨i0, hi0, hz0, hz1, hz2⟩ := info_parts hi
  cases ao with
  | none =>
    have hn : news = [] := by
      by_cases hn : news = []
      · exact hn
      · obtain ⟨b, o, h, _⟩ := h5 hn
        cases h
    subst hn
    have := hc rfl
    subst this
    exact wpList_append_own_none hgd s x t ho base e i0 1 ht hi0 v 0 [] hs hown hx (h v w hown (Upd.refl _ w))
  | some ad =>
    refine wpList_appS hgd s x t ho e z bytes ht hi hzs base v 0 [] hs hown _ ad news.length c news hx rfl rfl ?_ h1 (by omega) (by simpa using hbytes) hbase ?_
    · intro j u hu
      have hj : j < news.length := (List.getElem?_eq_some_iff.1 hu).1
      obtain ⟨b, o, e2, hb, hcell⟩ := h5 (by intro h; simp [h] at hj)
      simp only [Option.some.injEq] at e2
      subst e2
      have ea : (⟨b, o, none⟩ : Addr).add j = ⟨b, o + j, none⟩ := by unfold Addr.add; split <;> simp_all
      rw [ea, hcell j hj, hu]
    · intro v' w' hO hU
      have hO' : w'.ownsRow base e 1 v' news.length news := by simpa using hO
      exact h v' w' hO' hU
set_option maxHeartbeats 1000000 in
theorem copy_cache (w : World) (a1 a2 : Option Addr) (n1 n2 c1 c2 : Nat) (nx : Int) (xs : List Int) (ts : List ByteArray) (h1 : RS w (.slice a1 n1 c1) (ints xs)) (h2 : RS w (.slice a2 n2 c2) (strs ts)) (hc1 : a1 = none → c1 = 0) (hc2 : a2 = none → c2 = 0)
    (hb1 : xs.length ≤ 17592186044416) (hb2 : ts.length * 16 ≤ 140737488355328) :
    Calls Try.prog 19 #[.agg #[.slice a1 n1 c1, .slice a2 n2 c2, .int .i64 nx]] w fun e w' => ∃ v u, e = .returned (.agg #[v, u, .int .i64 nx]) ∧ Row w' 3 v (ints xs) ∧ Row w' 9 u (strs ts) ∧
      (∀ k, v.ownBlock = some k → w.heap.size ≤ k) ∧ (∀ k, u.ownBlock = some k → w.heap.size ≤ k ∧ v.ownBlock ≠ some k) ∧ Upd none' w w' := by
  go_enter Try.func19, Try.ntmps19
  go_upto_region 1 with fail
  have hU0 := ((Upd.refl none' w).alloc (.cells #[.slice a1 n1 c1, .slice a2 n2 c2, .int .i64 nx] 42)).alloc (.cells #[.slice none 0 0, .slice none 0 0, .int .i64 0] 42)
  have hB := (Blk.new w [.slice a1 n1 c1, .slice a2 n2 c2, .int .i64 nx] 42).alloc (.cells #[.slice none 0 0, .slice none 0 0, .int .i64 0] 42)
  have hZ := Blk.new (w.alloc (.cells #[.slice a1 n1 c1, .slice a2 n2 c2, .int .i64 nx] 42)) [.slice none 0 0, .slice none 0 0, .int .i64 0] 42
  rw [World.size_alloc] at hZ
  generalize hp : w.heap.size = p at *
  generalize (w.alloc (.cells #[.slice a1 n1 c1, .slice a2 n2 c2, .int .i64 nx] 42)).alloc (.cells #[.slice none 0 0, .slice none 0 0, .int .i64 0] 42) = W1 at *
  have hR1 := Lib.hid (h1.upd (hU0.trans ((Upd.refl none' W1).alloc (.cells #[] 3)) (fun _ _ f => f)) (fun _ _ _ f => f))
  have k0 := hB.cell 0
  have r0 := hB.frozen 0
  have k1 := hB.cell 1
  have r1 := hB.frozen 1
  simp only [List.getElem?_cons_zero, List.getElem?_cons_succ] at k0 k1
  have hpl := hB.lt
  have hzl := hZ.lt
  go_upto_region 2 with (at_builtin; go_must (refine wpList_appRS rfl _ _ 22 rfl 3 (.int .i64 0) 8 Try.underlying22 info_int rfl W1.heap.size (.slice (some ⟨W1.heap.size, 0, none⟩) 0 0) rfl (own_empty W1 3) _ _ _ rfl (ints xs) hR1.out hc1 (ints_one xs) (by simp [ints]; omega) (by simp [ints]; omega) (by simp) ?_); intro v' w2 hO1 hU1; have hV1 : Upd none' W1 w2 := ((Upd.refl none' W1).alloc _).trans hU1 (fun k h1 h2 => by simp [Value.ownBlock] at h2; omega); have hB2 := hB.upd hV1 (fun f => f); have s0 := hB2.frozen 0; have s1 := hB2.cell 0; simp only [List.getElem?_cons_zero] at s1; obtain ⟨hRow1, hbase1⟩ := Row.of_own hO1; obtain ⟨va, na, rfl, hform⟩ := hRow1.form; have hsz := hV1.size)
  have hB3 := hB2.set 0 (.slice va (ints xs).length na)
  have hZ3 := (hZ.upd hV1 (fun f => f)).set_ne (c := p) 0 (.slice va (ints xs).length na) (by omega)
  have hUp := (Upd.refl (fun k => k = p) w2).setCell ⟨p, 0, none⟩ (.slice va (ints xs).length na) (fun _ => rfl)
  have hRow3 := hRow1.upd hUp (fun k hk e => by have := hbase1 k hk; omega)
  have hU3 : Upd none' w (w2.setCell ⟨p, 0, none⟩ (.slice va (ints xs).length na)) := (hU0.trans hV1 (fun _ _ f => f)).setCell ⟨p, 0, none⟩ _ (fun h => absurd h (by dsimp only; omega))
  simp only [List.set_cons_zero] at hB3
  have hsz3 : w2.heap.size = (w2.setCell ⟨p, 0, none⟩ (.slice va (ints xs).length na)).heap.size := by simp
  generalize w2.setCell ⟨p, 0, none⟩ (.slice va (ints xs).length na) = W3 at *
  clear k0 k1 r0 r1 s0 s1 hB hZ hB2 hUp hU1 hO1 hRow1 hform
  have hpl3 := hB3.lt
  have hR2 := Lib.hid (h2.upd (hU3.trans ((Upd.refl none' W3).alloc (.cells #[] 9)) (fun _ _ f => f)) (fun _ _ _ f => f))
  have k0 := hB3.cell 0
  have r0 := hB3.frozen 0
  have k1 := hB3.cell 1
  have r1 := hB3.frozen 1
  simp only [List.getElem?_cons_zero, List.getElem?_cons_succ] at k0 k1
  go_upto_region 3 with (at_builtin; go_must (refine wpList_appRS rfl _ _ 40 rfl 9 (.string ⟨#[]⟩) 16 Try.underlying40 info_str rfl W3.heap.size (.slice (some ⟨W3.heap.size, 0, none⟩) 0 0) rfl (own_empty W3 9) _ _ _ rfl (strs ts) hR2.out hc2 (strs_one ts) (by simp [strs]; omega) (by simp [strs]; omega) (by simp) ?_); intro v' w4 hO1 hU1; have hV3 : Upd none' W3 w4 := ((Upd.refl none' W3).alloc _).trans hU1 (fun k h1 h2 => by simp [Value.ownBlock] at h2; omega); have hB4 := hB3.upd hV3 (fun f => f); have s0 := hB4.frozen 1; have s1 := hB4.cell 1; simp only [List.getElem?_cons_zero, List.getElem?_cons_succ] at s1; obtain ⟨hRow5, hbase5⟩ := Row.of_own hO1; obtain ⟨vb, nb, rfl, hform⟩ := hRow5.form; have hsz5 := hV3.size)
  have hB5 := hB4.set 1 (.slice vb (strs ts).length nb)
  have hZ5 := (hZ3.upd hV3 (fun f => f)).set_ne (c := p) 1 (.slice vb (strs ts).length nb) (by omega)
  have hUp := (Upd.refl (fun k => k = p) w4).setCell ⟨p, 1, none⟩ (.slice vb (strs ts).length nb) (fun _ => rfl)
  have hRow6 := hRow5.upd hUp (fun k hk e => by have := hbase5 k hk; omega)
  have hRow4 := (hRow3.upd hV3 (fun _ _ f => f)).upd hUp (fun k hk e => by have := hbase1 k hk; omega)
  have hlt1 := hRow3.lt
  have hU5 : Upd none' w (w4.setCell ⟨p, 1, none⟩ (.slice vb (strs ts).length nb)) := (hU3.trans hV3 (fun _ _ f => f)).setCell ⟨p, 1, none⟩ _ (fun h => absurd h (by dsimp only; omega))
  simp only [List.set_cons_zero, List.set_cons_succ] at hB5
  generalize w4.setCell ⟨p, 1, none⟩ (.slice vb (strs ts).length nb) = W5 at *
  clear k0 k1 r0 r1 s0 s1 hB3 hB4 hUp hU1 hO1 hform hRow3 hRow5 hZ3
  have k0 := hB5.cell 0
  have k1 := hB5.cell 1
  have k2 := hB5.cell 2
  have r0 := hZ5.frozen 0
  have r1 := hZ5.frozen 1
  have r2 := hZ5.frozen 2
  have z0 := hZ5.cell 0
  have z1 := hZ5.cell 1
  have z2 := hZ5.cell 2
  simp only [List.getElem?_cons_zero, List.getElem?_cons_succ] at k0 k1 k2 z0 z1 z2
  go_wp2
  have hZ6 := ((hZ5.set 0 (.slice va (ints xs).length na)).set 1 (.slice vb (strs ts).length nb)).set 2 (.int .i64 nx)
  have hUf := (((Upd.refl (fun k => k = p + 1) W5).setCell ⟨p + 1, 0, none⟩ (.slice va (ints xs).length na) (fun _ => rfl)).setCell ⟨p + 1, 1, none⟩ (.slice vb (strs ts).length nb) (fun _ => rfl)).setCell ⟨p + 1, 2, none⟩ (.int .i64 nx) (fun _ => rfl)
  have hRa := hRow4.upd hUf (fun k hk e => by have := hbase1 k hk; omega)
  have hRb := hRow6.upd hUf (fun k hk e => by have := hbase5 k hk; omega)
  have hUe := hU5.trans hUf (fun k h1 h2 => by omega)
  generalize ((W5.setCell ⟨p + 1, 0, none⟩ (.slice va (ints xs).length na)).setCell ⟨p + 1, 1, none⟩ (.slice vb (strs ts).length nb)).setCell ⟨p + 1, 2, none⟩ (.int .i64 nx) = W6 at *
  simp only [List.set_cons_zero, List.set_cons_succ] at hZ6
  have x0 := hZ6.cell 0
  have x1 := hZ6.cell 1
  have x2 := hZ6.cell 2
  simp only [List.getElem?_cons_zero, List.getElem?_cons_succ] at x0 x1 x2
  refine bodyPost_ret (v := .agg #[.slice va (ints xs).length na, .slice vb (strs ts).length nb, .int .i64 nx]) (by simp [results, Try.results19, go_sem, x0, x1, x2]) rfl ?_
  refine ⟨_, _, rfl, hRa, hRb, fun k hk => by have := hbase1 k hk; omega, fun k hk => ⟨by have := hbase5 k hk; omega, fun he => ?_⟩, hUe⟩
  have := hbase5 k hk
  have := hlt1 k he
  omega
end Go.Proofs.Ytdlhhlebbnefkaa
