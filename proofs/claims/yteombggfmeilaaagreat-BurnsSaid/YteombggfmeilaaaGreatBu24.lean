/- NextA ChipLo BothN Lend -/
import Derived.Test.YteombggfmeilaaaGreatBu19
import Derived.Test.YteombggfmeilaaaGreatBu06
import Derived.Laws.AppendOwnNone
import Derived.Test.YteombggfmeilaaaGreatBu05
import Derived.Deep.MidRow
import Derived.Test.YteombggfmeilaaaGreatBu23
import Derived.Test.YteombggfmeilaaaGreatBu22
/- NextA. -/
namespace Go.Proofs.YteombggfmeilaaaGreat
open Go.RowKit
theorem wpList_appRSL {P : Program} {w : World} {ops : Array Oper} {rest : List Oper} {o : Oper} {a : Act} {Q : Exit → Act → World → Prop} (hgd : o.guard = none) (s x : Operand) (t : TypeId)
    (ho : o.op = .call { callee := .builtin .append, args := #[s, x], argTypes := #[t, t] })
    (e : TypeId) (z : Value) (bytes : Nat) (ht : P.underlying t = some (.slice e)) (hi : (P.info? e).map (fun i => (i.zero, i.size, i.bytes)) = some (some z, 1, bytes)) (hzs : z.cells.size = 1)
    (base : Nat) (v : Value) (hs : a.eval s = v) (hown : w.ownsRow base e 1 v 0 [])
    (ao : Option Addr) (m c : Nat) (hx : a.eval x = .slice ao m c) (news : List Value) (hr : RS w (.slice ao m c) news) (hc : ao = none → c = 0) (h1 : ∀ u ∈ news, u.oneCell' = true)
    (hlen : news.length ≤ 17592186044416) (hbytes : news.length * bytes ≤ 140737488355328) (hbase : base ≤ w.heap.size)
    (h : ∀ v' w', w'.ownsRow base e 1 v' news.length news → Upd (fun k => v.ownBlock = some k) w w' → wpList P ops Q rest (a.put o.dst v') w') : wpList P ops Q (o :: rest) a w := by
  obtain ⟨_, a', cap, e1, _, h5⟩ := hr
  simp only [Value.slice.injEq] at e1
  obtain ⟨rfl, rfl, rfl⟩ := e1
  obtain ⟨i0, hi0, hz0, hz1, hz2⟩ := info_parts hi
  cases ao with
  | none =>
    have hn : news = [] := by
      by_cases hn : news = []
      · exact hn
      · obtain ⟨b, o, h, _⟩ := h5 hn
        cases h
    subst hn
    have := hc rfl
    subst this
    exact wpList_append_own_none hgd s x t ho base e i0 1 ht hi0 v 0 [] hs hown hx (h v w hown (Upd.refl _ w))
  | some ad =>
    refine wpList_appS hgd s x t ho e z bytes ht hi hzs base v 0 [] hs hown _ ad news.length c news hx rfl rfl ?_ h1 (by omega) (by simpa using hbytes) hbase ?_
    · intro j u hu
      have hj : j < news.length := (List.getElem?_eq_some_iff.1 hu).1
      obtain ⟨b, o, e2, hb, hcell⟩ := h5 (by intro h; simp [h] at hj)
      simp only [Option.some.injEq] at e2
      subst e2
      have ea : (⟨b, o, none⟩ : Addr).add j = ⟨b, o + j, none⟩ := by unfold Addr.add; split <;> simp_all
      rw [ea, hcell j hj, hu]
    · intro v' w' hO hU
      have hO' : w'.ownsRow base e 1 v' news.length news := by simpa using hO
      exact h v' w' hO' hU
theorem clone_any (w : World) (v : Value) (xs : List Int) (h : RS w v (ints xs)) (hc0 : v = .slice none 0 0 ∨ ∃ a n c, v = .slice (some a) n c) (hl : xs.length ≤ 4096) :
    Calls Tryz.prog 105 #[v] w fun e w' => ∃ v', e = .returned v' ∧ Row w' 3 v' (ints xs) ∧ (∀ k, v'.ownBlock = some k → w.heap.size ≤ k) ∧ Upd none' w w' := by
  by_cases hn : xs = []
  · subst hn
    rcases hc0 with rfl | ⟨ad, n, c, rfl⟩
    · have hnil : ∀ W, (binOp .eql 33 (.slice none 0 0) (.slice none 0 0)).run Tryz.prog W = .ok (.bool true) W := fun W => by kernel_rfl
      go_enter Tryz.func105, Tryz.ntmps105
      go_wp2
      go_ret
      exact ⟨_, rfl, Row.nil _ _, fun k hk => by simp [Value.ownBlock] at hk, Upd.refl _ _⟩
    · have hn0 : n = 0 := by have := h.len.1; simpa [ints] using this
      subst hn0
      have HR := Lib.hid (h.upd ((Upd.refl none' w).alloc (.cells #[] 3)) (fun _ _ _ f => f))
      have hnil : ∀ W, (binOp .eql 33 (.slice (some ad) 0 c) (.slice none 0 0)).run Tryz.prog W = .ok (.bool false) W := fun W => Lib.run_eql_slice_nil W _ _ _ _ _ _ _ Tryz.underlying33
      clear h
      go_enter Tryz.func105, Tryz.ntmps105
      go_wp2_with (at_builtin; go_must (refine wpList_appRSL rfl _ _ 33 rfl 3 (.int .i64 0) 8 Tryz.underlying33 info_int rfl w.heap.size (.slice (some ⟨w.heap.size, 0, none⟩) 0 0) rfl (own_empty w 3) _ _ _ rfl (ints []) HR.out (fun e => by cases e) (ints_one []) (by simp [ints]) (by simp [ints]) (by simp) ?_); intro v' w1 hO1 hU1)
      have hU1' : Upd none' w w1 := ((Upd.refl none' w).alloc _).trans hU1 (fun k h1 h2 => by simp [Value.ownBlock] at h2; omega)
      obtain ⟨hR1, hbase⟩ := Row.of_own hO1
      go_ret
      exact ⟨_, rfl, hR1, hbase, hU1'⟩
  · exact clone_ints w v xs h hn hl
set_option maxHeartbeats 1000000 in
theorem chip_next_any (b : Nat) (s : St) (S : Nat → Prop) (w : World) (hA : ChipAt w b s S) (v : Value) (xs : List Int) (h : RS w v (ints xs)) (hc0 : v = .slice none 0 0 ∨ ∃ a n c, v = .slice (some a) n c) (hl : xs.length ≤ 16) (hbad : xs.any badD = false) :
    Calls Tryz.prog 24 #[.pointer (some ⟨b, 0, none⟩), v] w fun e w' => e = .returned (.int .i64 0) ∧ ChipPost b { s with busy := xs } S w w' := by
  have hc := contains_func w v xs h
  rw [hbad] at hc
  have hcl := clone_any w v xs h hc0 (by omega)
  obtain ⟨jv, bv, dv, hv, rfl⟩ := hA
  have c19 := hv.cb.cell 19
  have f19 := hv.cb.frozen 19
  simp only [St.list, List.getElem?_cons_succ, List.getElem?_cons_zero] at c19
  have HV := Lib.hid hv
  have hlt := hv.cb.lt
  clear hc0
  obtain ⟨_, a, cap, rfl, -⟩ := h
  rw [ints_len] at hc hcl ⊢
  unfold cloV at hc
  clear hv
  go_enter Tryz.func24, Tryz.ntmps24
  go_wp2_with (first | (go_at_call 104; refine hc.mono ?_; rintro e w' ⟨rfl, rfl⟩) | (go_at_call 105; refine hcl.mono ?_; rintro e w1 ⟨v', rfl, hR, hf, hU⟩; obtain ⟨va, na, rfl, -⟩ := hR.form; have hv1 := ChipV.upd0 HV.out hU; have d19 := hv1.cb.cell 19; have g19 := hv1.cb.frozen 19; simp only [St.list, List.getElem?_cons_succ, List.getElem?_cons_zero] at d19; have HV1 := Lib.hid hv1))
  go_ret
  have hUs := (Upd.refl (fun k => k = b) w1).setCell ⟨b, 19, none⟩ (.slice va (ints xs).length na) (fun _ => rfl)
  have hv1 := HV1.out
  have hown : ∀ k, (Value.slice va (ints xs).length na).ownBlock = some k → k ≠ b ∧ jv ≠ .pointer (some ⟨k, 0, none⟩) ∧ dv.ownBlock ≠ some k := by
    intro k hk
    have h1 := hf k hk
    refine ⟨by omega, fun e => ?_, fun e => ?_⟩
    · have := HV.out.job.lt k e; omega
    · have := HV.out.data.lt k e; omega
  have hR2 := hR.upd hUs (fun k hk => (hown k hk).1)
  refine ⟨rfl, chipSet b jv (.slice va (ints xs).length na) dv, ⟨jv, _, dv, ⟨hv1.cb.set 19 _, hv1.job.upd hUs (fun k hk => hv1.sj k hk), hR2.rs (by rw [ints_len]; omega), fun k hk => hR2.lt k hk, hv1.data.upd hUs (fun k hk => (hv1.sd k hk).1), hv1.sj, fun k hk => ⟨(hown k hk).1, (hown k hk).2.1⟩, fun k hk => ⟨(hv1.sd k hk).1, (hv1.sd k hk).2.1, fun e => (hown k e).2.2 hk⟩⟩, rfl⟩, ?_, ?_⟩
  · rintro k (e | e | e | e)
    · exact .inl (.inl e)
    · exact .inl (.inr (.inl e))
    · exact .inr (hf k e)
    · exact .inl (.inr (.inr (.inr e)))
  · exact (hU.mono (fun _ _ f => f.elim)).trans (hUs.mono (T := chipSet b jv bv dv) (fun k _ e => .inl e)) (fun _ _ e => e)
theorem chip_next_long (b : Nat) (w : World) (a : Option Addr) (n c : Nat) (hn : 16 < n) :
    Calls Tryz.prog 24 #[.pointer (some ⟨b, 0, none⟩), .slice a n c] w fun e w' => e = .returned (.int .i64 600) ∧ w = w' := by
  have h1 : (16 : Int) < (n : Int) := by omega
  go_enter Tryz.func24, Tryz.ntmps24
  go_wp2
  go_ret
  exact ⟨rfl, rfl⟩
def nextB (xs : List Int) : Bool := !(xs.any badD) && decide (xs.length ≤ 16)
def St.nexts (s : St) (xs : List Int) : St := if nextB xs then { s with busy := xs } else s
def nextE (xs : List Int) : Int := if nextB xs then 0 else 600
theorem next_cases (xs : List Int) : xs.any badD = false ∧ xs.length ≤ 16 ∧ nextB xs = true ∨ (xs.any badD = true ∨ 16 < xs.length) ∧ nextB xs = false := by
  unfold nextB
  cases hb : xs.any badD with
  | true => exact .inr ⟨.inl rfl, rfl⟩
  | false =>
    by_cases hl : xs.length ≤ 16
    · exact .inl ⟨rfl, hl, by simp [hl]⟩
    · exact .inr ⟨.inr (by omega), by simp [hl]⟩
theorem next_invW {s : St} {N : Int} (h : s.InvW N) (xs : List Int) : (s.nexts xs).InvW N := by
  unfold St.nexts
  rcases next_cases xs with ⟨h1, h2, h3⟩ | ⟨-, h3⟩
  · rw [h3, if_pos rfl]
    refine ⟨⟨h.1.size, h.1.job, h.1.addr, h.1.told, h.1.len, h.1.data, h.1.now, h.1.mode, h.1.op, h.1.wipes, h2, fun d hd => ?_⟩, h.2⟩
    rw [List.any_eq_false] at h1
    have := h1 d hd
    simp only [badD, decide_eq_true_eq] at this
    omega
  · rw [h3, if_neg (by decide)]
    exact h
theorem c_nexts {Q : Own} {w0 w : World} {b : Nat} {s : St} {N : Int} {rows : List (Value × List Value)} (hC : Ctx (ChipP b s N) Q w0 w rows) (a : Option Addr) (n cap : Nat) (xs : List Int) (hr : RS w (.slice a n cap) (ints xs)) (hc : a = none → cap = 0) :
    Calls Tryz.prog 24 #[.pointer (some ⟨b, 0, none⟩), .slice a n cap] w fun e w' => e = .returned (.int .i64 (nextE xs)) ∧ Ctx (ChipP b (s.nexts xs) N) Q w0 w' rows := by
  have hlen := hr.len
  rw [ints_len] at hlen
  unfold nextE
  rcases next_cases xs with ⟨h1, h2, h3⟩ | ⟨h1, h3⟩
  · rw [h3, if_pos rfl]
    have hv0 : Value.slice a n cap = .slice none 0 0 ∨ ∃ a' n' c', Value.slice a n cap = .slice (some a') n' c' := by
      cases a with
      | none => left; have := hc rfl; have := hlen.2; rw [hc rfl]; congr 1; omega
      | some ad => exact .inr ⟨ad, n, cap, rfl⟩
    refine c_post hC (s.nexts xs) (fun hI => next_invW hI xs) (fun S hA _ => ?_)
    have hs : s.nexts xs = { s with busy := xs } := by unfold St.nexts; rw [h3, if_pos rfl]
    rw [hs]
    exact chip_next_any b s S w hA _ xs hr hv0 h2 h1
  · have hs : s.nexts xs = s := by unfold St.nexts; rw [h3, if_neg (by decide)]
    rw [h3, if_neg (by decide), hs]
    by_cases h16 : xs.length ≤ 16
    · refine (chip_next_no b w _ xs hr h16 (h1.resolve_right (by omega))).mono ?_
      rintro e w' ⟨rfl, rfl⟩
      exact ⟨rfl, hC⟩
    · refine (chip_next_long b w a n cap (by omega)).mono ?_
      rintro e w' ⟨rfl, rfl⟩
      exact ⟨rfl, hC⟩
theorem c_rnexts {Q : Own} {w0 w : World} {b : Nat} {s : St} {N : Int} {rows : List (Value × List Value)} (hC : Ctx (RefP b s N) Q w0 w rows) (a : Option Addr) (n cap : Nat) (xs : List Int) (hr : RS w (.slice a n cap) (ints xs)) (hc : a = none → cap = 0) :
    Calls Tryz.prog 25 #[.pointer (some ⟨b, 0, none⟩), .slice a n cap] w fun e w' => e = .returned (.int .i64 (nextE xs)) ∧ Ctx (RefP b (s.nexts xs) N) Q w0 w' rows := by
  unfold nextE St.nexts
  rcases next_cases xs with ⟨h1, h2, h3⟩ | ⟨h1, h3⟩
  · rw [h3, if_pos rfl, if_pos rfl]
    exact c_rnext hC a n cap xs hr hc h1 h2
  · rw [h3, if_neg (by decide), if_neg (by decide)]
    refine (ref_next_no b w _ xs hr h1).mono ?_
    rintro e w' ⟨rfl, rfl⟩
    exact ⟨rfl, hC⟩
end Go.Proofs.YteombggfmeilaaaGreat
/- ChipLo. -/
namespace Go.Proofs.YteombggfmeilaaaGreat
open Go.RowKit
def St.pw (s : St) : St := { (St.new s.a) with prot := s.prot, quad := s.quad, wipes := s.wipes, tabled := s.tabled }
def pwL : List Value := [.bool false, .bool false, .bool false, .pointer none, .slice none 0 0, .int .i64 0, .int .i64 0, .bool false, .int .i64 0, .int .i64 0, .bool false, .int .i64 0, .int .i64 0, .int .i64 0, .int .i64 0, .int .i64 0, .bool false, .slice none 0 0, .int .i64 0, .int .i64 0, .bool false]
theorem pow0_world {w : World} {b : Nat} {s : St} {jv bv dv : Value} (h : CB w b s jv bv dv) :
    CB (w.setCells b 15 pwL) b s.pw (.pointer none) (.slice none 0 0) (.slice none 0 0) := by
  show CB (((((((((((((((((((((w.setCell ⟨b, 15, none⟩ (.bool false)).setCell ⟨b, 16, none⟩ (.bool false)).setCell ⟨b, 17, none⟩ (.bool false)).setCell ⟨b, 18, none⟩ (.pointer none)).setCell ⟨b, 19, none⟩ (.slice none 0 0)).setCell ⟨b, 20, none⟩ (.int .i64 0)).setCell ⟨b, 21, none⟩ (.int .i64 0)).setCell ⟨b, 22, none⟩ (.bool false)).setCell ⟨b, 23, none⟩ (.int .i64 0)).setCell ⟨b, 24, none⟩ (.int .i64 0)).setCell ⟨b, 25, none⟩ (.bool false)).setCell ⟨b, 26, none⟩ (.int .i64 0)).setCell ⟨b, 27, none⟩ (.int .i64 0)).setCell ⟨b, 28, none⟩ (.int .i64 0)).setCell ⟨b, 29, none⟩ (.int .i64 0)).setCell ⟨b, 30, none⟩ (.int .i64 0)).setCell ⟨b, 31, none⟩ (.bool false)).setCell ⟨b, 32, none⟩ (.slice none 0 0)).setCell ⟨b, 33, none⟩ (.int .i64 0)).setCell ⟨b, 34, none⟩ (.int .i64 0)).setCell ⟨b, 35, none⟩ (.bool false)) b s.pw (.pointer none) (.slice none 0 0) (.slice none 0 0)
  have := (((((((((((((((((((((h.set 15 (.bool false)).set 16 (.bool false)).set 17 (.bool false)).set 18 (.pointer none)).set 19 (.slice none 0 0)).set 20 (.int .i64 0)).set 21 (.int .i64 0)).set 22 (.bool false)).set 23 (.int .i64 0)).set 24 (.int .i64 0)).set 25 (.bool false)).set 26 (.int .i64 0)).set 27 (.int .i64 0)).set 28 (.int .i64 0)).set 29 (.int .i64 0)).set 30 (.int .i64 0)).set 31 (.bool false)).set 32 (.slice none 0 0)).set 33 (.int .i64 0)).set 34 (.int .i64 0)).set 35 (.bool false))
  simp only [St.list, List.set_cons_zero, List.set_cons_succ] at this
  exact this
theorem pow0_upd (w : World) (b : Nat) : Upd (fun k => k = b) w (w.setCells b 15 pwL) := by
  show Upd (fun k => k = b) w (((((((((((((((((((((w.setCell ⟨b, 15, none⟩ (.bool false)).setCell ⟨b, 16, none⟩ (.bool false)).setCell ⟨b, 17, none⟩ (.bool false)).setCell ⟨b, 18, none⟩ (.pointer none)).setCell ⟨b, 19, none⟩ (.slice none 0 0)).setCell ⟨b, 20, none⟩ (.int .i64 0)).setCell ⟨b, 21, none⟩ (.int .i64 0)).setCell ⟨b, 22, none⟩ (.bool false)).setCell ⟨b, 23, none⟩ (.int .i64 0)).setCell ⟨b, 24, none⟩ (.int .i64 0)).setCell ⟨b, 25, none⟩ (.bool false)).setCell ⟨b, 26, none⟩ (.int .i64 0)).setCell ⟨b, 27, none⟩ (.int .i64 0)).setCell ⟨b, 28, none⟩ (.int .i64 0)).setCell ⟨b, 29, none⟩ (.int .i64 0)).setCell ⟨b, 30, none⟩ (.int .i64 0)).setCell ⟨b, 31, none⟩ (.bool false)).setCell ⟨b, 32, none⟩ (.slice none 0 0)).setCell ⟨b, 33, none⟩ (.int .i64 0)).setCell ⟨b, 34, none⟩ (.int .i64 0)).setCell ⟨b, 35, none⟩ (.bool false))
  exact ((((((((((((((((((((((Upd.refl (fun k => k = b) w).setCell ⟨b, 15, none⟩ (.bool false) (fun _ => rfl)).setCell ⟨b, 16, none⟩ (.bool false) (fun _ => rfl)).setCell ⟨b, 17, none⟩ (.bool false) (fun _ => rfl)).setCell ⟨b, 18, none⟩ (.pointer none) (fun _ => rfl)).setCell ⟨b, 19, none⟩ (.slice none 0 0) (fun _ => rfl)).setCell ⟨b, 20, none⟩ (.int .i64 0) (fun _ => rfl)).setCell ⟨b, 21, none⟩ (.int .i64 0) (fun _ => rfl)).setCell ⟨b, 22, none⟩ (.bool false) (fun _ => rfl)).setCell ⟨b, 23, none⟩ (.int .i64 0) (fun _ => rfl)).setCell ⟨b, 24, none⟩ (.int .i64 0) (fun _ => rfl)).setCell ⟨b, 25, none⟩ (.bool false) (fun _ => rfl)).setCell ⟨b, 26, none⟩ (.int .i64 0) (fun _ => rfl)).setCell ⟨b, 27, none⟩ (.int .i64 0) (fun _ => rfl)).setCell ⟨b, 28, none⟩ (.int .i64 0) (fun _ => rfl)).setCell ⟨b, 29, none⟩ (.int .i64 0) (fun _ => rfl)).setCell ⟨b, 30, none⟩ (.int .i64 0) (fun _ => rfl)).setCell ⟨b, 31, none⟩ (.bool false) (fun _ => rfl)).setCell ⟨b, 32, none⟩ (.slice none 0 0) (fun _ => rfl)).setCell ⟨b, 33, none⟩ (.int .i64 0) (fun _ => rfl)).setCell ⟨b, 34, none⟩ (.int .i64 0) (fun _ => rfl)).setCell ⟨b, 35, none⟩ (.bool false) (fun _ => rfl))
theorem pow0_there {w : World} {b : Nat} {s : St} {jv bv dv : Value} (h : CB w b s jv bv dv) : w.there b 15 21 := by
  intro j hj
  refine ⟨?_, h.frozen _⟩
  rw [h.cell]
  unfold St.list
  rw [List.getElem?_eq_getElem (by simp; omega)]
  rfl
theorem pow0_post {w w1 : World} {b : Nat} {s : St} {S : Nat → Prop} (hb : S b) (hB : CB w1 b s.pw (.pointer none) (.slice none 0 0) (.slice none 0 0)) (hU : Upd S w w1) : ChipPost b s.pw S w w1 := by
  refine ⟨chipSet b (.pointer none) (.slice none 0 0) (.slice none 0 0), ⟨.pointer none, .slice none 0 0, .slice none 0 0, ⟨hB, rfl, RS.nil _, fun k hk => by simp [Value.ownBlock] at hk, Row.nil _ _, fun k hk => by simp at hk, fun k hk => by simp [Value.ownBlock] at hk, fun k hk => by simp [Value.ownBlock] at hk⟩, rfl⟩, ?_, hU⟩
  rintro k (rfl | hk | hk | hk)
  · exact .inl hb
  · simp at hk
  · simp [Value.ownBlock] at hk
  · simp [Value.ownBlock] at hk
set_option maxRecDepth 100000 in
set_option maxHeartbeats 1000000 in
theorem chip_loss_none (b : Nat) (s : St) (S : Nat → Prop) (w : World) (hA : ChipAt w b s S) (hj : s.job = none) (mask : ByteArray) :
    Calls Tryz.prog 28 #[.pointer (some ⟨b, 0, none⟩), .string mask] w fun e w' => e = .returned (.int .i64 0) ∧ ChipPost b (s.loss mask) S w w' := by
  obtain ⟨jv, bv, dv, hv, rfl⟩ := hA
  have hjv := hv.job
  rw [hj] at hjv
  obtain rfl : jv = .pointer none := hjv
  have HL : Hid (s.loss mask = s.pw) := by
    show s.loss mask = s.pw
    unfold St.loss St.pw
    rw [hj]
  have hB := hv.cb
  have c18 := hB.cell 18
  simp only [St.list, List.getElem?_cons_zero, List.getElem?_cons_succ] at c18
  have HTH := Lib.hid (pow0_there hB)
  have HW := Lib.hid (pow0_world hB)
  have HU := Lib.hid (pow0_upd w b)
  clear hv hB hj
  go_enter Tryz.func28, Tryz.ntmps28
  go_upto_region 5 with fail
  go_wp2_with (refine wpList_store_mid rfl 140 _ _ rfl b 15 pwL.toArray rfl rfl HTH.out (by kernel_rfl) (by kernel_rfl) ?_)
  go_ret
  refine ⟨rfl, ?_⟩
  rw [HL.out]
  exact pow0_post (.inl rfl) HW.out (HU.out.mono (fun k _ hk => .inl hk))
set_option maxRecDepth 100000 in
set_option maxHeartbeats 2000000 in
theorem chip_loss_some (b : Nat) (s : St) (S : Nat → Prop) (w : World) (hA : ChipAt w b s S) (ha : s.a.size = 4096) (j : Job) (hj : s.job = some j) (hf : j.Form) (mask : ByteArray) (hm : mask.size ≤ 9223372036854775807) :
    Calls Tryz.prog 28 #[.pointer (some ⟨b, 0, none⟩), .string mask] w fun e w' => e = .returned (.int .i64 0) ∧ ChipPost b (s.loss mask) S w w' := by
  obtain ⟨jv, bv, dv, hv, rfl⟩ := hA
  have hjv := hv.job
  rw [hj] at hjv
  obtain ⟨g, rfl, hG⟩ := hjv
  have HL : Hid (s.loss mask = ({ s with a := j.cells s.a mask } : St).pw) := by
    show s.loss mask = ({ s with a := j.cells s.a mask } : St).pw
    unfold St.loss St.pw
    rw [hj]
  have HB := Lib.hid hv.cb
  have HJC := fun W (u : Upd none' w W) => job_cells g j s.a mask W (hG.upd u (fun f => f)) hf ha hm
  have HJ := Lib.hid HJC
  have c0 := hv.cb.cell 0
  have c18 := hv.cb.cell 18
  have f0 := hv.cb.frozen 0
  simp only [St.list, List.getElem?_cons_zero, List.getElem?_cons_succ] at c0 c18
  clear hv hj hG HJC ha hm
  go_enter Tryz.func28, Tryz.ntmps28
  go_upto_region 4 with fail
  go_region_with (go_at_call 106; go_must (refine (HJ.out _ (Upd.refl none' w).drew).mono ?_; rintro e w3 ⟨rfl, hU3⟩; have hC3 := Blk.upd (S := none') (w := w) HB.out ((Upd.refl none' w).drew.trans hU3 (fun _ _ f => f)) (fun f => f); have hc3 := hC3.cell 0; have hf3 := hC3.frozen 0; simp only [St.list, List.getElem?_cons_zero] at hc3))
  all_goals
    clear c0 c18 f0 hc3 hf3
    have hB := hC3.set 0 (.string (j.cells s.a mask))
    have hU4 : Upd (fun k => k = b) w (w3.setCell ⟨b, 0, none⟩ (.string (j.cells s.a mask))) := ((((Upd.refl none' w).drew.trans hU3 (fun _ _ f => f)).mono (fun _ _ f => f.elim))).setCell ⟨b, 0, none⟩ _ (fun _ => rfl)
    replace hB : CB (w3.setCell ⟨b, 0, none⟩ (.string (j.cells s.a mask))) b ({ s with a := j.cells s.a mask } : St) (.pointer (some ⟨g, 0, none⟩)) bv dv := hB
    generalize w3.setCell ⟨b, 0, none⟩ (.string (j.cells s.a mask)) = W at *
    have HTH := Lib.hid (pow0_there hB)
    have HW := Lib.hid (pow0_world hB)
    have HU := Lib.hid (pow0_upd W b)
    clear hB hC3 hU3
    go_wp2_with (refine wpList_store_mid rfl 140 _ _ rfl b 15 pwL.toArray rfl rfl HTH.out (by kernel_rfl) (by kernel_rfl) ?_)
    go_ret
    refine ⟨rfl, ?_⟩
    rw [HL.out]
    exact pow0_post (.inl rfl) HW.out ((hU4.trans HU.out (fun _ _ h => h)).mono (fun k _ hk => .inl hk))
theorem chip_loss (b : Nat) (s : St) (S : Nat → Prop) (w : World) (hA : ChipAt w b s S) (N : Int) (hI : s.InvW N) (mask : ByteArray) (hm : mask.size ≤ 9223372036854775807) :
    Calls Tryz.prog 28 #[.pointer (some ⟨b, 0, none⟩), .string mask] w fun e w' => e = .returned (.int .i64 0) ∧ ChipPost b (s.loss mask) S w w' := by
  cases hj : s.job with
  | none => exact chip_loss_none b s S w hA hj mask
  | some j => exact chip_loss_some b s S w hA hI.1.size j hj (hI.1.job j hj).1 mask hm
theorem loss_inv {s : St} {N : Int} (h : s.InvW N) (mask : ByteArray) : (s.loss mask).InvW N := by
  have h0 : 0 ≤ N := by have := h.1.told; omega
  have ha : (match s.job with | some j => j.cells s.a mask | none => s.a).size = 4096 := by
    cases s.job with
    | none => exact h.1.size
    | some j => exact (Job.cells_size j s.a mask).trans h.1.size
  obtain ⟨n1, n2⟩ := (new_inv _ ha).mono h0
  exact ⟨⟨n1.size, n1.job, n1.addr, n1.told, n1.len, n1.data, n1.now, n1.mode, n1.op, h.1.wipes, n1.busy⟩, fun hs => by cases hs⟩
theorem c_loss {Q : Own} {w0 w : World} {b : Nat} {s : St} {N : Int} {rows : List (Value × List Value)} (hC : Ctx (ChipP b s N) Q w0 w rows) (mask : ByteArray) (hm : mask.size ≤ 9223372036854775807) (t : St) (ht : s.loss mask = t) :
    Calls Tryz.prog 28 #[.pointer (some ⟨b, 0, none⟩), .string mask] w fun e w' => e = .returned (.int .i64 0) ∧ Ctx (ChipP b t N) Q w0 w' rows := by
  subst ht
  exact c_post hC (s.loss mask) (fun h => loss_inv h mask) (fun S hA hI => chip_loss b s S w hA N hI mask hm)
end Go.Proofs.YteombggfmeilaaaGreat
/- BothN. -/
namespace Go.Proofs.YteombggfmeilaaaGreat
open Go.RowKit
def Mac.nexts (m : Mac) (xs : List Int) : Mac := ⟨m.s.nexts xs, m.K⟩
theorem nexts_sel (s : St) (xs : List Int) : (s.nexts xs).sel = s.sel := by
  unfold St.nexts
  split <;> rfl
theorem Mac.Ok.nexts {m : Mac} (h : m.Ok) (xs : List Int) : (m.nexts xs).Ok := ⟨h.goes, h.left, h.clocks, fun hl => (nexts_sel _ _).trans (h.sel hl)⟩
theorem p_nexts {Q : Own} {b k fo fi : Nat} {m : Mac} {n : Int} {w0 w : World} {rows : List (Value × List Value)} (h : Ctx (ProgP b k fo fi m n) Q w0 w rows) (a : Option Addr) (l cap : Nat) (xs : List Int) (hr : RS w (.slice a l cap) (ints xs)) (hc : a = none → cap = 0) :
    Calls Tryz.prog 24 #[.pointer (some ⟨b, 0, none⟩), .slice a l cap] w fun e w' => e = .returned (.int .i64 (nextE xs)) ∧ Ctx (ProgP b k fo fi (m.nexts xs) n) Q w0 w' rows := by
  obtain ⟨N, hC, h1, h2, h3, h4⟩ := progP_of h
  refine (c_nexts hC a l cap xs hr hc).mono ?_
  rintro e w' ⟨rfl, hC2⟩
  exact ⟨rfl, progP_to (m := m.nexts xs) h.okQ hC2 ⟨h1, h2, h3.nexts _, h4⟩⟩
theorem d_nexts {Q : Own} {b k : Nat} {m : Mac} {n : Int} {w0 w : World} {rows : List (Value × List Value)} (h : Ctx Q (DocP b k m n) w0 w rows) (a : Option Addr) (l cap : Nat) (xs : List Int) (hr : RS w (.slice a l cap) (ints xs)) (hc : a = none → cap = 0) :
    Calls Tryz.prog 25 #[.pointer (some ⟨b, 0, none⟩), .slice a l cap] w fun e w' => e = .returned (.int .i64 (nextE xs)) ∧ Ctx Q (DocP b k (m.nexts xs) n) w0 w' rows := by
  obtain ⟨N, hC, h1, h2, h3, h4⟩ := docP_of h.commQ
  refine (c_rnexts hC a l cap xs hr hc).mono ?_
  rintro e w' ⟨rfl, hC2⟩
  exact ⟨rfl, (docP_to (m := m.nexts xs) h.okP hC2 ⟨h1, h2, h3.nexts _, h4⟩).commQ⟩
theorem p_loss {Q : Own} {b k fo fi : Nat} {m : Mac} {n : Int} {w0 w : World} {rows : List (Value × List Value)} (h : Ctx (ProgP b k fo fi m n) Q w0 w rows) (mask : ByteArray) (hm : mask.size ≤ 9223372036854775807) :
    Calls Tryz.prog 28 #[.pointer (some ⟨b, 0, none⟩), .string mask] w fun e w' => e = .returned (.int .i64 0) ∧ ∃ N, Ctx ((ChipP b (m.s.loss mask) N).star (CtlC k b fo fi m.K)) Q w0 w' rows := by
  obtain ⟨N, hC, -⟩ := progP_of h
  refine (c_loss hC mask hm _ rfl).mono ?_
  rintro e w' ⟨rfl, hC2⟩
  exact ⟨rfl, N, hC2.assocR (ctlC_ok k b fo fi m.K) h.okQ⟩
theorem d_loss {P : Own} {b k fo fi b2 k2 : Nat} {s : St} {N : Int} {K : KS} {m : Mac} {n : Int} {w0 w : World} {rows : List (Value × List Value)} (h : Ctx ((ChipP b s N).star (CtlC k b fo fi K)) (DocP b2 k2 m n) w0 w rows) (_ : P = P) (mask : ByteArray) (hm : mask.size ≤ 9223372036854775807) :
    Calls Tryz.prog 29 #[.pointer (some ⟨b2, 0, none⟩), .string mask] w fun e w' => e = .returned (.tuple #[]) ∧ ∃ N2 Q Q2, Ctx (ChipP b s N) Q w0 w' rows ∧ Ctx (RefP b2 (m.s.loss mask) N2) Q2 w0 w' rows := by
  obtain ⟨N2, hC, -⟩ := docP_of h.commQ
  have hI : m.s.InvW N2 := by
    obtain ⟨S, ⟨r, _, _, hI, _⟩, _⟩ := hC.get1
    exact hI
  refine (c_rloss hC mask hm _ rfl (loss_inv hI mask)).mono ?_
  rintro e w' ⟨rfl, hC2⟩
  have hok := (chipP_ok b s N).star (ctlC_ok k b fo fi K)
  exact ⟨rfl, N2, _, _, ((hC2.drop2 hok).commQ).assoc (chipP_ok b s N) (ctlC_ok k b fo fi K), hC2⟩
end Go.Proofs.YteombggfmeilaaaGreat
/- Lend. -/
namespace Go.Proofs.YteombggfmeilaaaGreat
open Go.RowKit
set_option maxHeartbeats 1000000 in
theorem spoil_ints (w : World) (a : Option Addr) (n c : Nat) (xs : List Int) (h : RS w (.slice a n c) (ints xs)) (hz : Mk w (.slice a n c)) :
    Calls Tryz.prog 27 #[.slice a n c] w fun e w' => e = .returned (.tuple #[]) ∧ Upd (fun k => (Value.slice a n c).ownBlock = some k) w w' := by
  obtain ⟨h1, a', c', e1, h4, h5⟩ := h
  simp only [Value.slice.injEq] at e1
  obtain ⟨rfl, hn, rfl⟩ := e1
  have hil : (ints xs).length = xs.length := ints_len xs
  have hb : n * 8 ≤ 140737488351232 := by rw [hn]; exact h1
  by_cases h0 : n = 0
  · subst h0
    go_enter Tryz.func27, Tryz.ntmps27
    go_wp2
    go_loopw [2] (fun iv wr => iv = .int .i64 0 ∧ wr = w) (fun _ _ => 0)
    case atStart => exact ⟨rfl, rfl⟩
    case round =>
      obtain ⟨rfl, rfl⟩ := hrel
      go_wp2
      go_end0
      exact ⟨rfl, Upd.refl _ _⟩
  · obtain ⟨g, o, rfl, hg, hc⟩ := h5 (by intro e; rw [e] at hn; simp at hn; omega)
    have hcs : ∀ j, j < n → ∃ x : Int, w.cell? ⟨g, o + j, none⟩ = some (.int .i64 x) := fun j hj => by
      refine ⟨xs.getD j 0, ?_⟩
      rw [hc j (by omega), ints_at _ _ (by omega)]
    have hfz := fun j => hz g rfl j
    have HC := Lib.hid hcs
    have HF := Lib.hid hfz
    clear hc hcs hfz hz h5 h1
    go_enter Tryz.func27, Tryz.ntmps27
    go_wp2
    go_loopw [2] (fun iv wr => ∃ i : Nat, i ≤ n ∧ iv = .int .i64 (i : Int) ∧ Hid ((∀ j, j < n → ∃ x : Int, wr.cell? ⟨g, o + j, none⟩ = some (.int .i64 x)) ∧ (∀ j, wr.frozen? ⟨g, j, none⟩ = false)) ∧ Upd (fun k => (Value.slice (some ⟨g, o, none⟩) n c).ownBlock = some k) w wr) (fun iv _ => n - (intOf iv).toNat)
    case atStart => exact ⟨0, Nat.zero_le _, rfl, Lib.hid ⟨HC.out, HF.out⟩, Upd.refl _ _⟩
    case round =>
      clear HC HF
      rename World => W2
      obtain ⟨i, hi, rfl, hH, hU⟩ := hrel
      by_cases hlt : i < n
      · obtain ⟨x, hx⟩ := hH.out.1 i hlt
        have hf := hH.out.2 (o + i)
        have hlt2 := World.block_lt_of_cell? W2 _ hx
        obtain ⟨y, hy⟩ : ∃ y, IntKind.i64.wrap (-9 - x) = y := ⟨_, rfl⟩
        have HN : Hid ((∀ j, j < n → ∃ x : Int, (W2.setCell ⟨g, o + i, none⟩ (.int .i64 y)).cell? ⟨g, o + j, none⟩ = some (.int .i64 x)) ∧ (∀ j, (W2.setCell ⟨g, o + i, none⟩ (.int .i64 y)).frozen? ⟨g, j, none⟩ = false)) := Lib.hid ⟨fun j hj => by
          by_cases e : j = i
          · subst e
            exact ⟨y, World.cell?_setCell_same _ _ _ hx⟩
          · obtain ⟨z, hz⟩ := hH.out.1 j hj
            exact ⟨z, (World.cell?_setCell_other _ _ _ _ (by simp only [ne_eq, Addr.mk.injEq, true_and, and_true]; omega)).trans hz⟩, fun j => by simpa using hH.out.2 j⟩
        have HU := Lib.hid (hU.setCell ⟨g, o + i, none⟩ (.int .i64 y) (fun _ => rfl))
        clear hH hU hlt2
        go_wp2
        refine ⟨?rel, ?measure⟩
        case rel => exact ⟨i + 1, by omega, by go_num, HN, HU.out⟩
        case measure => simp [intOf]; omega
      · obtain rfl : i = n := by omega
        go_wp2
        go_end0
        exact ⟨rfl, hU⟩
theorem c_spoil {P Q : Own} {w0 w : World} {rows : List (Value × List Value)} {a : Option Addr} {n c : Nat} {xs : List Int} (hC : Ctx P Q w0 w ((.slice a n c, ints xs) :: rows)) (hn : ∀ k, (Value.slice a n c).ownBlock = some k → w0.heap.size ≤ k) (hne : ∀ r ∈ rows, ∀ k, r.1.ownBlock = some k → (Value.slice a n c).ownBlock ≠ some k) :
    Calls Tryz.prog 27 #[.slice a n c] w fun e w' => e = .returned (.tuple #[]) ∧ Ctx P Q w0 w' rows := by
  obtain ⟨S, h1, h2, h3⟩ := hC.all
  obtain ⟨g1, g2, g3⟩ := h3 _ List.mem_cons_self
  refine (spoil_ints w a n c xs g1 (fun k hk => g3 k hk (hn k hk))).mono ?_
  rintro e w' ⟨rfl, hU⟩
  refine ⟨rfl, hC.okP, hC.okQ, hC.upd.trans hU (fun k h4 h5 => absurd (hn k h5) (by omega)), S, (hC.okP.star hC.okQ).frame h1 hU (fun k hk he => (g2 k he).2 hk), h2, fun r hr => ?_⟩
  obtain ⟨f4, f5, f6⟩ := h3 r (List.mem_cons_of_mem _ hr)
  exact ⟨f4.upd hU (fun k _ he hk => hne r hr k he hk), fun k hk => ⟨Nat.lt_of_lt_of_le (f5 k hk).1 hU.size, (f5 k hk).2⟩, fun k hk h0 j => (hU.frozen (p := ⟨k, j, none⟩) (f5 k hk).1 (fun e => hne r hr k hk e)).trans (f6 k hk h0 j)⟩
def RestP (w : World) (R : Nat → Prop) : Own := fun w' S => (∀ k, S k ↔ R k) ∧ ∀ k, R k → k < w'.heap.size ∧ w'.heap[k]? = w.heap[k]?
theorem restP_ok (w : World) (R : Nat → Prop) : (RestP w R).Ok := by
  refine ⟨?_, ?_⟩
  · rintro w1 w2 S T ⟨h1, h2⟩ hu hT
    exact ⟨h1, fun k hk => ⟨Nat.lt_of_lt_of_le (h2 k hk).1 hu.size, (hu.block k (h2 k hk).1 (hT k ((h1 k).2 hk))).trans (h2 k hk).2⟩⟩
  · rintro w1 S ⟨h1, h2⟩ k hk
    exact (h2 k ((h1 k).1 hk)).1
theorem rs_block {w w' : World} {v : Value} {vs : List Value} (h : RS w v vs) (hb : ∀ k, v.ownBlock = some k → k < w'.heap.size ∧ w'.heap[k]? = w.heap[k]?) : RS w' v vs := by
  obtain ⟨h1, a, cap, rfl, h4, h5⟩ := h
  refine ⟨h1, a, cap, rfl, h4, fun hn => ?_⟩
  obtain ⟨b, o, rfl, h7, h8⟩ := h5 hn
  obtain ⟨g1, g2⟩ := hb b rfl
  refine ⟨b, o, rfl, g1, fun j hj => ?_⟩
  rw [← h8 j hj]
  simp [World.cell?, g2]
theorem Ctx.base {P Q : Own} {w0 w : World} {rowsA rowsB : List (Value × List Value)} (h : Ctx P Q w0 w (rowsA ++ rowsB)) (hA : ∀ r ∈ rowsA, ∀ k, r.1.ownBlock = some k → w0.heap.size ≤ k) (hAB : ∀ r ∈ rowsA, ∀ r2 ∈ rowsB, ∀ k, r.1.ownBlock = some k → r2.1.ownBlock ≠ some k) :
    ∃ R : Nat → Prop, Ctx P (Q.star (RestP w R)) { w with heap := #[] } w rowsA ∧ ∀ (P' : Own) (w' : World) (rows' : List (Value × List Value)), Ctx P' (Q.star (RestP w R)) { w with heap := #[] } w' rows' →
      (∀ r ∈ rows', ∀ k, r.1.ownBlock = some k → w0.heap.size ≤ k ∧ ∀ r2 ∈ rowsB, r2.1.ownBlock ≠ some k) ∧ Ctx P' Q w0 w' (rows' ++ rowsB) := by
  obtain ⟨S, ⟨A, B, hPA, hQB, hd, hS⟩, h2, h3⟩ := h.all
  have h0 := h.upd.size
  refine ⟨fun k => k < w.heap.size ∧ ¬ S k ∧ ∀ r ∈ rowsA, r.1.ownBlock ≠ some k, ?_, ?_⟩
  · refine ⟨h.okP, h.okQ.star (restP_ok _ _), ⟨rfl, rfl, Nat.zero_le _, fun k hk => absurd hk (Nat.not_lt_zero k)⟩, fun k => A k ∨ B k ∨ (k < w.heap.size ∧ ¬ S k ∧ ∀ r ∈ rowsA, r.1.ownBlock ≠ some k), ⟨A, fun k => B k ∨ (k < w.heap.size ∧ ¬ S k ∧ ∀ r ∈ rowsA, r.1.ownBlock ≠ some k), hPA, ⟨B, fun k => (k < w.heap.size ∧ ¬ S k ∧ ∀ r ∈ rowsA, r.1.ownBlock ≠ some k), hQB, ⟨fun k => Iff.rfl, fun k hk => ⟨hk.1, rfl⟩⟩, fun k hb hr => hr.2.1 ((hS k).2 (.inr hb)), fun _ => Iff.rfl⟩, ?_, fun _ => Iff.rfl⟩, fun k _ => Nat.zero_le k, fun r hr => ?_⟩
    · rintro k ha (hb | hr)
      · exact hd k ha hb
      · exact hr.2.1 ((hS k).2 (.inl ha))
    · obtain ⟨g1, g2, g3⟩ := h3 r (List.mem_append.2 (.inl hr))
      refine ⟨g1, fun k hk => ⟨(g2 k hk).1, ?_⟩, fun k hk _ => g3 k hk (hA r hr k hk)⟩
      rintro (ha | hb | hc)
      · exact (g2 k hk).2 ((hS k).2 (.inl ha))
      · exact (g2 k hk).2 ((hS k).2 (.inr hb))
      · exact hc.2.2 r hr hk
  · intro P' w' rows' hC
    obtain ⟨S', ⟨A', D', hA', ⟨B', R', hB', ⟨hR1, hR2⟩, hd2, hS2⟩, hd', hS'⟩, -, h3'⟩ := hC.all
    have hin : ∀ k, k < w.heap.size → ¬ S k → (∀ r ∈ rowsA, r.1.ownBlock ≠ some k) → R' k ∧ k < w'.heap.size ∧ w'.heap[k]? = w.heap[k]? := fun k k1 k2 k3 => ⟨(hR1 k).2 ⟨k1, k2, k3⟩, hR2 k ⟨k1, k2, k3⟩⟩
    have hold : ∀ k, k < w0.heap.size → R' k ∧ k < w'.heap.size ∧ w'.heap[k]? = w.heap[k]? := fun k hk => hin k (by omega) (fun hs => by have := h2 k hs; omega) (fun r hr e => by have := hA r hr k e; omega)
    have hB : ∀ r ∈ rowsB, ∀ k, r.1.ownBlock = some k → R' k ∧ k < w'.heap.size ∧ w'.heap[k]? = w.heap[k]? := fun r hr k hk => by
      have g := (h3 r (List.mem_append.2 (.inr hr))).2.1 k hk
      exact hin k g.1 g.2 (fun r1 hr1 e => hAB r1 hr1 r hr k e hk)
    have hrows : ∀ r ∈ rows', ∀ k, r.1.ownBlock = some k → ¬ R' k := fun r hr k hk hr' => ((h3' r hr).2.1 k hk).2 ((hS' k).2 (.inr ((hS2 k).2 (.inr hr'))))
    refine ⟨fun r hr k hk => ⟨?_, fun r2 hr2 e => hrows r hr k hk (hB r2 hr2 k e).1⟩, hC.okP, h.okQ, ?_, fun k => A' k ∨ B' k, ⟨A', B', hA', hB', fun k ha hb => hd' k ha ((hS2 k).2 (.inl hb)), fun _ => Iff.rfl⟩, ?_, ?_⟩
    · by_cases hk0 : k < w0.heap.size
      · exact absurd (hold k hk0).1 (hrows r hr k hk)
      · omega
    · refine ⟨hC.upd.os.trans h.upd.os, hC.upd.output.trans h.upd.output, ?_, fun k hk _ => ?_⟩
      · by_cases hz : w0.heap.size = 0
        · omega
        · have := (hold (w0.heap.size - 1) (by omega)).2.1
          omega
      · rw [(hold k hk).2.2]
        exact h.upd.block k hk (fun f => f)
    · intro k hk
      by_cases hk0 : k < w0.heap.size
      · have hr := (hold k hk0).1
        rcases hk with ha | hb
        · exact absurd ((hS2 k).2 (.inr hr)) (hd' k ha)
        · exact absurd hr (hd2 k hb)
      · omega
    · intro r hr
      rcases List.mem_append.1 hr with hr | hr
      · obtain ⟨g1, g2, g3⟩ := h3' r hr
        refine ⟨g1, fun k hk => ⟨(g2 k hk).1, ?_⟩, fun k hk _ => g3 k hk (Nat.zero_le k)⟩
        rintro (ha | hb)
        · exact (g2 k hk).2 ((hS' k).2 (.inl ha))
        · exact (g2 k hk).2 ((hS' k).2 (.inr ((hS2 k).2 (.inl hb))))
      · obtain ⟨g1, g2, g3⟩ := h3 r (List.mem_append.2 (.inr hr))
        refine ⟨rs_block g1 (fun k hk => (hB r hr k hk).2), fun k hk => ⟨(hB r hr k hk).2.1, ?_⟩, fun k hk h0 j => ?_⟩
        · have hr' := (hB r hr k hk).1
          rintro (ha | hb)
          · exact hd' k ha ((hS2 k).2 (.inr hr'))
          · exact hd2 k hb hr'
        · rw [← g3 k hk h0 j]
          simp [World.frozen?, (hB r hr k hk).2.2]
end Go.Proofs.YteombggfmeilaaaGreat
