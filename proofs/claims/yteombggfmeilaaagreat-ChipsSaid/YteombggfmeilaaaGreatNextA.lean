/- Next of any slice, on both chips. -/
import Derived.Test.YteombggfmeilaaaGreatRmR
import Derived.Test.YteombggfmeilaaaGreatCtxW
import Derived.Laws.AppendOwnNone
namespace Go.Proofs.YteombggfmeilaaaGreat
open Go.RowKit
/-- 'append(own, src...)', src a slice that is read, nil or not. -/
theorem wpList_appRSL {P : Program} {w : World} {ops : Array Oper} {rest : List Oper} {o : Oper} {a : Act} {Q : Exit → Act → World → Prop} (hgd : o.guard = none) (s x : Operand) (t : TypeId)
    (ho : o.op = .call { callee := .builtin .append, args := #[s, x], argTypes := #[t, t] })
    (e : TypeId) (z : Value) (bytes : Nat) (ht : P.underlying t = some (.slice e)) (hi : (P.info? e).map (fun i => (i.zero, i.size, i.bytes)) = some (some z, 1, bytes)) (hzs : z.cells.size = 1)
    (base : Nat) (v : Value) (hs : a.eval s = v) (hown : w.ownsRow base e 1 v 0 [])
    (ao : Option Addr) (m c : Nat) (hx : a.eval x = .slice ao m c) (news : List Value) (hr : RS w (.slice ao m c) news) (hc : ao = none → c = 0) (h1 : ∀ u ∈ news, u.oneCell' = true)
    (hlen : news.length ≤ 17592186044416) (hbytes : news.length * bytes ≤ 140737488355328) (hbase : base ≤ w.heap.size)
    (h : ∀ v' w', w'.ownsRow base e 1 v' news.length news → Upd (fun k => v.ownBlock = some k) w w' → wpList P ops Q rest (a.put o.dst v') w') : wpList P ops Q (o :: rest) a w := by
  obtain ⟨_, a', cap, e1, _, h5⟩ := hr
  simp only [Value.slice.injEq] at e1
  obtain ⟨rfl, rfl, rfl⟩ := e1
  obtain ⟨i0, hi0, hz0, hz1, hz2⟩ := info_parts hi
  cases ao with
  | none =>
    have hn : news = [] := by
      by_cases hn : news = []
      · exact hn
      · obtain ⟨b, o, h, _⟩ := h5 hn
        cases h
    subst hn
    have := hc rfl
    subst this
    exact wpList_append_own_none hgd s x t ho base e i0 1 ht hi0 v 0 [] hs hown hx (h v w hown (Upd.refl _ w))
  | some ad =>
    refine wpList_appS hgd s x t ho e z bytes ht hi hzs base v 0 [] hs hown _ ad news.length c news hx rfl rfl ?_ h1 (by omega) (by simpa using hbytes) hbase ?_
    · intro j u hu
      have hj : j < news.length := (List.getElem?_eq_some_iff.1 hu).1
      obtain ⟨b, o, e2, hb, hcell⟩ := h5 (by intro h; simp [h] at hj)
      simp only [Option.some.injEq] at e2
      subst e2
      have ea : (⟨b, o, none⟩ : Addr).add j = ⟨b, o + j, none⟩ := by unfold Addr.add; split <;> simp_all
      rw [ea, hcell j hj, hu]
    · intro v' w' hO hU
      have hO' : w'.ownsRow base e 1 v' news.length news := by simpa using hO
      exact h v' w' hO' hU
theorem clone_any (w : World) (v : Value) (xs : List Int) (h : RS w v (ints xs)) (hc0 : v = .slice none 0 0 ∨ ∃ a n c, v = .slice (some a) n c) (hl : xs.length ≤ 4096) :
    Calls Tryz.prog 105 #[v] w fun e w' => ∃ v', e = .returned v' ∧ Row w' 3 v' (ints xs) ∧ (∀ k, v'.ownBlock = some k → w.heap.size ≤ k) ∧ Upd none' w w' := by
  by_cases hn : xs = []
  · subst hn
    rcases hc0 with rfl | ⟨ad, n, c, rfl⟩
    · have hnil : ∀ W, (binOp .eql 33 (.slice none 0 0) (.slice none 0 0)).run Tryz.prog W = .ok (.bool true) W := fun W => by kernel_rfl
      go_enter Tryz.func105, Tryz.ntmps105
      go_wp2
      go_ret
      exact ⟨_, rfl, Row.nil _ _, fun k hk => by simp [Value.ownBlock] at hk, Upd.refl _ _⟩
    · have hn0 : n = 0 := by have := h.len.1; simpa [ints] using this
      subst hn0
      have HR := Lib.hid (h.upd ((Upd.refl none' w).alloc (.cells #[] 3)) (fun _ _ _ f => f))
      have hnil : ∀ W, (binOp .eql 33 (.slice (some ad) 0 c) (.slice none 0 0)).run Tryz.prog W = .ok (.bool false) W := fun W => Lib.run_eql_slice_nil W _ _ _ _ _ _ _ Tryz.underlying33
      clear h
      go_enter Tryz.func105, Tryz.ntmps105
      go_wp2_with (at_builtin; go_must (refine wpList_appRSL rfl _ _ 33 rfl 3 (.int .i64 0) 8 Tryz.underlying33 info_int rfl w.heap.size (.slice (some ⟨w.heap.size, 0, none⟩) 0 0) rfl (own_empty w 3) _ _ _ rfl (ints []) HR.out (fun e => by cases e) (ints_one []) (by simp [ints]) (by simp [ints]) (by simp) ?_); intro v' w1 hO1 hU1)
      have hU1' : Upd none' w w1 := ((Upd.refl none' w).alloc _).trans hU1 (fun k h1 h2 => by simp [Value.ownBlock] at h2; omega)
      obtain ⟨hR1, hbase⟩ := Row.of_own hO1
      go_ret
      exact ⟨_, rfl, hR1, hbase, hU1'⟩
  · exact clone_ints w v xs h hn hl
set_option maxHeartbeats 1000000 in
theorem chip_next_any (b : Nat) (s : St) (S : Nat → Prop) (w : World) (hA : ChipAt w b s S) (v : Value) (xs : List Int) (h : RS w v (ints xs)) (hc0 : v = .slice none 0 0 ∨ ∃ a n c, v = .slice (some a) n c) (hl : xs.length ≤ 16) (hbad : xs.any badD = false) :
    Calls Tryz.prog 24 #[.pointer (some ⟨b, 0, none⟩), v] w fun e w' => e = .returned (.int .i64 0) ∧ ChipPost b { s with busy := xs } S w w' := by
  have hc := contains_func w v xs h
  rw [hbad] at hc
  have hcl := clone_any w v xs h hc0 (by omega)
  obtain ⟨jv, bv, dv, hv, rfl⟩ := hA
  have c19 := hv.cb.cell 19
  have f19 := hv.cb.frozen 19
  simp only [St.list, List.getElem?_cons_succ, List.getElem?_cons_zero] at c19
  have HV := Lib.hid hv
  have hlt := hv.cb.lt
  clear hc0
  obtain ⟨_, a, cap, rfl, -⟩ := h
  rw [ints_len] at hc hcl ⊢
  unfold cloV at hc
  clear hv
  go_enter Tryz.func24, Tryz.ntmps24
  go_wp2_with (first | (go_at_call 104; refine hc.mono ?_; rintro e w' ⟨rfl, rfl⟩) | (go_at_call 105; refine hcl.mono ?_; rintro e w1 ⟨v', rfl, hR, hf, hU⟩; obtain ⟨va, na, rfl, -⟩ := hR.form; have hv1 := ChipV.upd0 HV.out hU; have d19 := hv1.cb.cell 19; have g19 := hv1.cb.frozen 19; simp only [St.list, List.getElem?_cons_succ, List.getElem?_cons_zero] at d19; have HV1 := Lib.hid hv1))
  go_ret
  have hUs := (Upd.refl (fun k => k = b) w1).setCell ⟨b, 19, none⟩ (.slice va (ints xs).length na) (fun _ => rfl)
  have hv1 := HV1.out
  have hown : ∀ k, (Value.slice va (ints xs).length na).ownBlock = some k → k ≠ b ∧ jv ≠ .pointer (some ⟨k, 0, none⟩) ∧ dv.ownBlock ≠ some k := by
    intro k hk
    have h1 := hf k hk
    refine ⟨by omega, fun e => ?_, fun e => ?_⟩
    · have := HV.out.job.lt k e; omega
    · have := HV.out.data.lt k e; omega
  have hR2 := hR.upd hUs (fun k hk => (hown k hk).1)
  refine ⟨rfl, chipSet b jv (.slice va (ints xs).length na) dv, ⟨jv, _, dv, ⟨hv1.cb.set 19 _, hv1.job.upd hUs (fun k hk => hv1.sj k hk), hR2.rs (by rw [ints_len]; omega), fun k hk => hR2.lt k hk, hv1.data.upd hUs (fun k hk => (hv1.sd k hk).1), hv1.sj, fun k hk => ⟨(hown k hk).1, (hown k hk).2.1⟩, fun k hk => ⟨(hv1.sd k hk).1, (hv1.sd k hk).2.1, fun e => (hown k e).2.2 hk⟩⟩, rfl⟩, ?_, ?_⟩
  · rintro k (e | e | e | e)
    · exact .inl (.inl e)
    · exact .inl (.inr (.inl e))
    · exact .inr (hf k e)
    · exact .inl (.inr (.inr (.inr e)))
  · exact (hU.mono (fun _ _ f => f.elim)).trans (hUs.mono (T := chipSet b jv bv dv) (fun k _ e => .inl e)) (fun _ _ e => e)
theorem chip_next_long (b : Nat) (w : World) (a : Option Addr) (n c : Nat) (hn : 16 < n) :
    Calls Tryz.prog 24 #[.pointer (some ⟨b, 0, none⟩), .slice a n c] w fun e w' => e = .returned (.int .i64 600) ∧ w = w' := by
  have h1 : (16 : Int) < (n : Int) := by omega
  go_enter Tryz.func24, Tryz.ntmps24
  go_wp2
  go_ret
  exact ⟨rfl, rfl⟩
/-- May durations come? -/
def nextB (xs : List Int) : Bool := !(xs.any badD) && decide (xs.length ≤ 16)
def St.nexts (s : St) (xs : List Int) : St := if nextB xs then { s with busy := xs } else s
def nextE (xs : List Int) : Int := if nextB xs then 0 else 600
theorem next_cases (xs : List Int) : xs.any badD = false ∧ xs.length ≤ 16 ∧ nextB xs = true ∨ (xs.any badD = true ∨ 16 < xs.length) ∧ nextB xs = false := by
  unfold nextB
  cases hb : xs.any badD with
  | true => exact .inr ⟨.inl rfl, rfl⟩
  | false =>
    by_cases hl : xs.length ≤ 16
    · exact .inl ⟨rfl, hl, by simp [hl]⟩
    · exact .inr ⟨.inr (by omega), by simp [hl]⟩
theorem next_invW {s : St} {N : Int} (h : s.InvW N) (xs : List Int) : (s.nexts xs).InvW N := by
  unfold St.nexts
  rcases next_cases xs with ⟨h1, h2, h3⟩ | ⟨-, h3⟩
  · rw [h3, if_pos rfl]
    refine ⟨⟨h.1.size, h.1.job, h.1.addr, h.1.told, h.1.len, h.1.data, h.1.now, h.1.mode, h.1.op, h.1.wipes, h2, fun d hd => ?_⟩, h.2⟩
    rw [List.any_eq_false] at h1
    have := h1 d hd
    simp only [badD, decide_eq_true_eq] at this
    omega
  · rw [h3, if_neg (by decide)]
    exact h
theorem c_nexts {Q : Own} {w0 w : World} {b : Nat} {s : St} {N : Int} {rows : List (Value × List Value)} (hC : Ctx (ChipP b s N) Q w0 w rows) (a : Option Addr) (n cap : Nat) (xs : List Int) (hr : RS w (.slice a n cap) (ints xs)) (hc : a = none → cap = 0) :
    Calls Tryz.prog 24 #[.pointer (some ⟨b, 0, none⟩), .slice a n cap] w fun e w' => e = .returned (.int .i64 (nextE xs)) ∧ Ctx (ChipP b (s.nexts xs) N) Q w0 w' rows := by
  have hlen := hr.len
  rw [ints_len] at hlen
  unfold nextE
  rcases next_cases xs with ⟨h1, h2, h3⟩ | ⟨h1, h3⟩
  · rw [h3, if_pos rfl]
    have hv0 : Value.slice a n cap = .slice none 0 0 ∨ ∃ a' n' c', Value.slice a n cap = .slice (some a') n' c' := by
      cases a with
      | none => left; have := hc rfl; have := hlen.2; rw [hc rfl]; congr 1; omega
      | some ad => exact .inr ⟨ad, n, cap, rfl⟩
    refine c_post hC (s.nexts xs) (fun hI => next_invW hI xs) (fun S hA _ => ?_)
    have hs : s.nexts xs = { s with busy := xs } := by unfold St.nexts; rw [h3, if_pos rfl]
    rw [hs]
    exact chip_next_any b s S w hA _ xs hr hv0 h2 h1
  · have hs : s.nexts xs = s := by unfold St.nexts; rw [h3, if_neg (by decide)]
    rw [h3, if_neg (by decide), hs]
    by_cases h16 : xs.length ≤ 16
    · refine (chip_next_no b w _ xs hr h16 (h1.resolve_right (by omega))).mono ?_
      rintro e w' ⟨rfl, rfl⟩
      exact ⟨rfl, hC⟩
    · refine (chip_next_long b w a n cap (by omega)).mono ?_
      rintro e w' ⟨rfl, rfl⟩
      exact ⟨rfl, hC⟩
theorem c_rnexts {Q : Own} {w0 w : World} {b : Nat} {s : St} {N : Int} {rows : List (Value × List Value)} (hC : Ctx (RefP b s N) Q w0 w rows) (a : Option Addr) (n cap : Nat) (xs : List Int) (hr : RS w (.slice a n cap) (ints xs)) (hc : a = none → cap = 0) :
    Calls Tryz.prog 25 #[.pointer (some ⟨b, 0, none⟩), .slice a n cap] w fun e w' => e = .returned (.int .i64 (nextE xs)) ∧ Ctx (RefP b (s.nexts xs) N) Q w0 w' rows := by
  unfold nextE St.nexts
  rcases next_cases xs with ⟨h1, h2, h3⟩ | ⟨h1, h3⟩
  · rw [h3, if_pos rfl, if_pos rfl]
    exact c_rnext hC a n cap xs hr hc h1 h2
  · rw [h3, if_neg (by decide), if_neg (by decide)]
    refine (ref_next_no b w _ xs hr h1).mono ?_
    rintro e w' ⟨rfl, rfl⟩
    exact ⟨rfl, hC⟩
end Go.Proofs.YteombggfmeilaaaGreat
