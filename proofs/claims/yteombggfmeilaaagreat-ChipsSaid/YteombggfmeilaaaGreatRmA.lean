/- The walks over the small methods of the document's chip: statuses, busy, goOn, command. · The walk over the document's chip's goOn. · The walk over the document's chip's command. -/
import Derived.Test.YteombggfmeilaaaGreatRmM
import Derived.Test.YteombggfmeilaaaGreatRcmA
namespace Go.Proofs.YteombggfmeilaaaGreat
open Go.RowKit
/-- The document's chip's block. -/
abbrev RB (w : World) (b : Nat) (r : RSt) (wv bv iv : Value) : Prop := Blk w b (r.list wv bv iv) 54
theorem ref_first (x y z : Bool) (w : World) :
    Calls Tryz.prog 112 #[.bool x, .bool y, .bool z] w fun e w' => e = .returned (.int .i64 (first x y z)) ∧ w = w' := by
  cases x <;> cases y <;> cases z
  all_goals
    go_enter Tryz.func112, Tryz.ntmps112
    go_wp2
    go_ret
    exact ⟨rfl, rfl⟩
theorem ref_second (x y : Bool) (w : World) :
    Calls Tryz.prog 113 #[.bool x, .bool y] w fun e w' => e = .returned (.int .i64 (second x y)) ∧ w = w' := by
  cases x <;> cases y
  all_goals
    go_enter Tryz.func113, Tryz.ntmps113
    go_wp2
    go_ret
    exact ⟨rfl, rfl⟩
theorem ref_protected (p : Bool) (a : Int) (w : World) (h : 0 ≤ a) (h2 : a < 4096) :
    Calls Tryz.prog 157 #[.bool p, .int .i64 a] w fun e w' => e = .returned (.tuple #[.bool (p && decide (a < 2048)), .int .i64 0]) ∧ w = w' := by
  cases p
  · go_enter Tryz.func157, Tryz.ntmps157
    go_wp2
    go_ret2
    exact ⟨rfl, rfl⟩
  · go_enter Tryz.func157, Tryz.ntmps157
    go_wp2
    go_ret2
    exact ⟨by simp, rfl⟩
theorem ref_busy (b : Nat) (r : RSt) (wv bv iv : Value) (w : World) (h : RB w b r wv bv iv) :
    Calls Tryz.prog 99 #[.pointer (some ⟨b, 0, none⟩)] w fun e w' => e = .returned (.bool r.works) ∧ w = w' := by
  have c7 := h.cell 7
  have c11 := h.cell 11
  simp only [RSt.list, List.getElem?_cons_succ, List.getElem?_cons_zero] at c7 c11
  by_cases hk : r.kind = 0
  · rw [hk] at c7
    have hw : r.works = false := by simp [RSt.works, hk]
    have HW := Lib.hid (show True ∧ r.works = false from ⟨trivial, hw⟩)
    clear hw hk h
    go_enter Tryz.func99, Tryz.ntmps99
    go_wp2
    go_ret
    exact ⟨by rw [HW.out.2]; rfl, rfl⟩
  · have hkb : (r.kind != 0) = true := by simpa using hk
    have hw : r.works = !r.susp := by simp [RSt.works, hk]
    have HW := Lib.hid (show True ∧ r.works = !r.susp from ⟨trivial, hw⟩)
    clear hw hk h
    go_enter Tryz.func99, Tryz.ntmps99
    go_wp2
    go_ret
    exact ⟨by rw [HW.out.2]; rfl, rfl⟩
theorem ref_status (b : Nat) (r : RSt) (wv bv iv : Value) (w : World) (h : RB w b r wv bv iv) :
    Calls Tryz.prog 31 #[.pointer (some ⟨b, 0, none⟩)] w fun e w' => e = .returned (.tuple #[.int .i64 r.first, .int .i64 r.second]) ∧ Upd none' w w' := by
  have l1 : ∀ u : UW w, u.val.cell? ⟨b, 1, none⟩ = some (.bool r.prot) := fun u => (h.upd u.upd (fun f => f)).cell 1
  have l2 : ∀ u : UW w, u.val.cell? ⟨b, 2, none⟩ = some (.bool r.quad) := fun u => (h.upd u.upd (fun f => f)).cell 2
  have l5 : ∀ u : UW w, u.val.cell? ⟨b, 5, none⟩ = some (.bool r.en) := fun u => (h.upd u.upd (fun f => f)).cell 5
  have l11 : ∀ u : UW w, u.val.cell? ⟨b, 11, none⟩ = some (.bool r.susp) := fun u => (h.upd u.upd (fun f => f)).cell 11
  have hwk : ∀ u : UW w, Calls Tryz.prog 99 #[.pointer (some ⟨b, 0, none⟩)] u.val fun e w' => e = .returned (.bool r.works) ∧ u.val = w' :=
    fun u => ref_busy b r wv bv iv u.val (h.upd u.upd (fun f => f))
  have HW := Lib.hid hwk
  clear hwk
  go_enter Tryz.func31, Tryz.ntmps31
  go_wp2_with fail
  refine wp_region_upd_lit w (Upd.refl none' w) (by kernel_rfl) (by kernel_rfl) ?_
  repeat (go_big_quiet_step ((first | (go_at_call 99; exact quiet_eq (HW.out _)) | (go_at_call 112; exact quiet_eq (ref_first r.works r.en r.prot _)) | (go_at_call 113; exact quiet_eq (ref_second r.quad r.susp _)))))
  refine wpQuiet_nil ?_
  rintro _ ⟨⟨w1, hU1⟩, rfl⟩
  go_wp2
  go_ret2
  exact ⟨rfl, hU1⟩
theorem goOn_fin {b : Nat} {r : RSt} {wv bv iv : Value} {w : World} (h : RB w b r wv bv iv) {p k : Int} (hk : nextPart r.op p = k) :
    RB ((((w.setCell ⟨b, 21, none⟩ (.int .i64 0)).setCell ⟨b, 22, none⟩ (.int .i64 0)).setCell ⟨b, 28, none⟩ (.int .i64 0)).setCell ⟨b, 23, none⟩ (.int .i64 k)) b (r.goOn p) wv bv iv ∧
    Upd (fun j => j = b) w ((((w.setCell ⟨b, 21, none⟩ (.int .i64 0)).setCell ⟨b, 22, none⟩ (.int .i64 0)).setCell ⟨b, 28, none⟩ (.int .i64 0)).setCell ⟨b, 23, none⟩ (.int .i64 k)) := by
  subst hk
  refine ⟨(((h.set 21 _).set 22 _).set 28 _).set 23 _, ?_⟩
  exact ((((Upd.refl (fun j => j = b) w).setCell ⟨b, 21, none⟩ _ (fun _ => rfl)).setCell ⟨b, 22, none⟩ _ (fun _ => rfl)).setCell ⟨b, 28, none⟩ _ (fun _ => rfl)).setCell ⟨b, 23, none⟩ _ (fun _ => rfl)
end Go.Proofs.YteombggfmeilaaaGreat
namespace Go.Proofs.YteombggfmeilaaaGreat
open Go.RowKit
set_option maxHeartbeats 2000000 in
theorem ref_goon (b : Nat) (r : RSt) (wv bv iv : Value) (p : Int) (hp : p = 0 ∨ p = 1 ∨ p = 2 ∨ p = 3) (w : World) (h : RB w b r wv bv iv) :
    Calls Tryz.prog 153 #[.pointer (some ⟨b, 0, none⟩), .int .i64 p] w fun e w' => e = .returned (.tuple #[]) ∧ RB w' b (r.goOn p) wv bv iv ∧ Upd (fun k => k = b) w w' := by
  have c14 := h.cell 14
  have c15 := h.cell 15
  have c16 := h.cell 16
  have c21 := h.cell 21
  have c22 := h.cell 22
  have c23 := h.cell 23
  have c28 := h.cell 28
  have f21 := h.frozen 21
  have f22 := h.frozen 22
  have f23 := h.frozen 23
  have f28 := h.frozen 28
  have hlt := h.lt
  simp only [RSt.list, List.getElem?_cons_succ, List.getElem?_cons_zero] at c14 c15 c16 c21 c22 c23 c28
  have HF : Hid (∀ k, nextPart r.op p = k → _) := Lib.hid (fun k hk => goOn_fin h hk)
  clear h
  by_cases ha : 0 < r.op.addr <;> by_cases hd : 0 < r.op.dummy <;> cases hm : r.op.mode <;> rw [hm] at c15
  all_goals rcases hp with rfl | rfl | rfl | rfl
  all_goals
    have HM := Lib.hid hm
    have HA := Lib.hid ha
    have HD := Lib.hid hd
    clear hm
    go_enter Tryz.func153, Tryz.ntmps153
    go_wp2
    go_end0
    exact ⟨rfl, HF.out _ (by have h1 := HA.out; have h2 := HD.out; unfold nextPart; rw [HM.out]; simp <;> (repeat (first | omega | split)))⟩
end Go.Proofs.YteombggfmeilaaaGreat
namespace Go.Proofs.YteombggfmeilaaaGreat
open Go.RowKit
/-- What a command leaves ahead of its parts. -/
def RSt.known1 (r : RSt) (c : Int) (tk : Bool) : RSt := { r with known := true, op := opOf c, taken := tk }
theorem command_eq (r : RSt) (c : Int) (tk : Bool) (h : r.takes c = tk) : r.command c = (r.known1 c tk).goOn 0 := by subst h; rfl
theorem rb_op {w : World} {b : Nat} {r : RSt} {wv bv iv : Value} (h : RB w b r wv bv iv) (o : POp) :
    RB ((((((w.setCell ⟨b, 13, none⟩ (.int .i64 o.byte)).setCell ⟨b, 14, none⟩ (.int .i64 o.addr)).setCell ⟨b, 15, none⟩ (.bool o.mode)).setCell ⟨b, 16, none⟩ (.int .i64 o.dummy)).setCell ⟨b, 17, none⟩ (.int .i64 o.data)).setCell ⟨b, 18, none⟩ (.bool o.inn)) b { r with op := o } wv bv iv :=
  (((((h.set 13 (.int .i64 o.byte)).set 14 (.int .i64 o.addr)).set 15 (.bool o.mode)).set 16 (.int .i64 o.dummy)).set 17 (.int .i64 o.data)).set 18 (.bool o.inn)
theorem rupd_op {S : Nat → Prop} {a w : World} {b : Nat} (h : Upd S a w) (hb : S b) (o : POp) :
    Upd S a ((((((w.setCell ⟨b, 13, none⟩ (.int .i64 o.byte)).setCell ⟨b, 14, none⟩ (.int .i64 o.addr)).setCell ⟨b, 15, none⟩ (.bool o.mode)).setCell ⟨b, 16, none⟩ (.int .i64 o.dummy)).setCell ⟨b, 17, none⟩ (.int .i64 o.data)).setCell ⟨b, 18, none⟩ (.bool o.inn)) :=
  (((((h.setCell ⟨b, 13, none⟩ _ (fun _ => hb)).setCell ⟨b, 14, none⟩ _ (fun _ => hb)).setCell ⟨b, 15, none⟩ _ (fun _ => hb)).setCell ⟨b, 16, none⟩ _ (fun _ => hb)).setCell ⟨b, 17, none⟩ _ (fun _ => hb)).setCell ⟨b, 18, none⟩ _ (fun _ => hb)
theorem cmd_world {w w1 : World} {b : Nat} {r : RSt} {wv bv iv : Value} (hB : RB w1 b r wv bv iv) (hU : Upd (fun k => k = b) w w1) (by' ad : Int) (mo : Bool) (du da : Int) (inn : Bool) :
    RB (((((((w1.setCell ⟨b, 13, none⟩ (.int .i64 by')).setCell ⟨b, 14, none⟩ (.int .i64 ad)).setCell ⟨b, 15, none⟩ (.bool mo)).setCell ⟨b, 16, none⟩ (.int .i64 du)).setCell ⟨b, 17, none⟩ (.int .i64 da)).setCell ⟨b, 18, none⟩ (.bool inn)).alloc (.cells #[.int .i64 by', .int .i64 ad, .bool mo, .int .i64 du, .int .i64 da, .bool inn] 52)) b { r with op := ⟨by', ad, mo, du, da, inn⟩ } wv bv iv ∧ Upd (fun k => k = b) w (((((((w1.setCell ⟨b, 13, none⟩ (.int .i64 by')).setCell ⟨b, 14, none⟩ (.int .i64 ad)).setCell ⟨b, 15, none⟩ (.bool mo)).setCell ⟨b, 16, none⟩ (.int .i64 du)).setCell ⟨b, 17, none⟩ (.int .i64 da)).setCell ⟨b, 18, none⟩ (.bool inn)).alloc (.cells #[.int .i64 by', .int .i64 ad, .bool mo, .int .i64 du, .int .i64 da, .bool inn] 52)) :=
  ⟨(rb_op hB ⟨by', ad, mo, du, da, inn⟩).alloc _, (rupd_op hU rfl ⟨by', ad, mo, du, da, inn⟩).alloc _⟩
set_option maxHeartbeats 4000000 in
theorem ref_command (b : Nat) (c : Int) (r : RSt) (wv bv iv : Value) (w : World) (h : RB w b r wv bv iv) (tk : Bool) (htk : r.takes c = tk) :
    Calls Tryz.prog 94 #[.pointer (some ⟨b, 0, none⟩), .int .i64 c] w fun e w' => e = .returned (.tuple #[]) ∧ RB w' b (r.command c) wv bv iv ∧ Upd (fun k => k = b) w w' := by
  rw [command_eq r c tk htk]
  have hof : ∃ e, (e == 0) = opIs c ∧ ∀ W, Calls Tryz.prog 117 #[.int .i64 c] W fun e' w' => e' = .returned (.tuple #[.agg (opOf c).cells, .int .i64 e]) ∧ Upd none' W w' := by
    cases hc : opIs c with
    | true => exact ⟨0, rfl, fun W => rop_of c hc W⟩
    | false =>
      refine ⟨400, rfl, fun W => ?_⟩
      have e0 : opOf c = op0 := by
        simp only [opIs, decide_eq_false_iff_not] at hc
        unfold opOf
        rw [if_neg (by omega), if_neg (by omega), if_neg (by omega), if_neg (by omega), if_neg (by omega), if_neg (by omega), if_neg (by omega), if_neg (by omega), if_neg (by omega)]
      rw [e0]
      exact rop_of_no c hc W
  obtain ⟨ee, hee, hof⟩ := hof
  obtain ⟨o, ho⟩ : ∃ o, opOf c = o := ⟨_, rfl⟩
  rw [ho] at hof
  obtain ⟨by', ad, mo, du, da, inn⟩ := o
  unfold POp.cells at hof
  dsimp only at hof
  have HOF := Lib.hid hof
  have HO := Lib.hid ho
  have f20 := h.frozen 20
  have c20 := h.cell 20
  simp only [RSt.list, List.getElem?_cons_succ, List.getElem?_cons_zero] at c20
  have HC0 : Hid (RB (w.setCell ⟨b, 20, none⟩ (.bool true)) b { r with known := true } wv bv iv) := Lib.hid (h.set 20 (.bool true))
  have HU0 : Hid _ := Lib.hid ((Upd.refl (fun k => k = b) w).setCell ⟨b, 20, none⟩ (.bool true) (fun _ => rfl))
  have hlt := h.lt
  clear hof h ho
  go_enter Tryz.func94, Tryz.ntmps94
  go_wp2_with fail
  refine (HOF.out _).mono ?_
  rintro e w1 ⟨rfl, hU1⟩
  have hB1 := HC0.out.upd hU1 (fun f => f)
  have hUa := HU0.out.trans hU1 (fun _ _ f => f.elim)
  have HW := Lib.hid (cmd_world hB1 hUa by' ad mo du da inn)
  have c13 := hB1.cell 13
  have f13 := hB1.frozen 13
  have c14 := hB1.cell 14
  have f14 := hB1.frozen 14
  have c15 := hB1.cell 15
  have f15 := hB1.frozen 15
  have c16 := hB1.cell 16
  have f16 := hB1.frozen 16
  have c17 := hB1.cell 17
  have f17 := hB1.frozen 17
  have c18 := hB1.cell 18
  have f18 := hB1.frozen 18
  have hlt1 := hB1.lt
  simp only [RSt.list, List.getElem?_cons_succ, List.getElem?_cons_zero] at c13 c14 c15 c16 c17 c18
  clear hB1 hUa hU1
  go_upto_region 3 with fail
  obtain ⟨hB3, hU3⟩ := HW.out
  clear HW c13 c14 c15 c16 c17 c18 f13 f14 f15 f16 f17 f18
  generalize (((((((w1.setCell ⟨b, 13, none⟩ (.int .i64 by')).setCell ⟨b, 14, none⟩ (.int .i64 ad)).setCell ⟨b, 15, none⟩ (.bool mo)).setCell ⟨b, 16, none⟩ (.int .i64 du)).setCell ⟨b, 17, none⟩ (.int .i64 da)).setCell ⟨b, 18, none⟩ (.bool inn)).alloc (.cells #[.int .i64 by', .int .i64 ad, .bool mo, .int .i64 du, .int .i64 da, .bool inn] 52)) = W3 at *
  have c2 := hB3.cell 2
  have c11 := hB3.cell 11
  have c19 := hB3.cell 19
  have f19 := hB3.frozen 19
  simp only [RSt.list, List.getElem?_cons_succ, List.getElem?_cons_zero] at c2 c11 c19
  have hlt3 := hB3.lt
  have HB4 : Hid (∀ t0, RB (W3.setCell ⟨b, 19, none⟩ (.bool t0)) b (r.known1 c t0) wv bv iv) := Lib.hid (fun t0 => by
    have := hB3.set 19 (.bool t0)
    unfold RSt.known1
    rw [HO.out]
    exact this)
  have HU4 : Hid (∀ t0 : Bool, Upd (fun k => k = b) w (W3.setCell ⟨b, 19, none⟩ (.bool t0))) := Lib.hid (fun t0 => hU3.setCell ⟨b, 19, none⟩ (.bool t0) (fun _ => rfl))
  have HB5 : Hid (∀ t0 t1 : Bool, RB ((W3.setCell ⟨b, 19, none⟩ (.bool t0)).setCell ⟨b, 19, none⟩ (.bool t1)) b (r.known1 c t1) wv bv iv) := Lib.hid (fun t0 t1 => (HB4.out t0).set 19 (.bool t1))
  have HU5 : Hid (∀ t0 t1 : Bool, Upd (fun k => k = b) w ((W3.setCell ⟨b, 19, none⟩ (.bool t0)).setCell ⟨b, 19, none⟩ (.bool t1))) := Lib.hid (fun t0 t1 => (HU4.out t0).setCell ⟨b, 19, none⟩ (.bool t1) (fun _ => rfl))
  clear hB3 hU3 hlt1 HOF HC0 HU0 f20 c20 hlt
  have hbu : ∀ (t0 : Bool) W, RB W b (r.known1 c t0) wv bv iv → Calls Tryz.prog 99 #[.pointer (some ⟨b, 0, none⟩)] W fun e w' => e = .returned (.bool r.works) ∧ W = w' := fun t0 W h => ref_busy b (r.known1 c t0) wv bv iv W h
  have himp : ¬ (r.works = true ∧ r.susp = true) := by
    unfold RSt.works
    intro hh
    rw [hh.2] at hh
    simp at hh
  by_cases hcl : c = 107 ∨ c = 235 ∨ c = 5 ∨ c = 53 ∨ c = 117 ∨ c = 1 ∨ c = 2 ∨ c = 32
  · cases hq : r.quad <;> cases hw : r.works <;> cases hs : r.susp
    all_goals (rw [hq] at c2; rw [hs] at c11; rw [hw] at hbu)
    all_goals (try (exfalso; exact himp ⟨hw, hs⟩))
    all_goals clear himp
    all_goals rcases hcl with hcl | hcl | hcl | hcl | hcl | hcl | hcl | hcl
    all_goals subst hcl
    all_goals
      have he : (ee == 0) = true := hee
      simp [RSt.takes, hq, hw, hs, opIs] at htk
      subst htk
      have HBU := Lib.hid hbu
      clear hbu hq hw hs
      go_wp2_with fail
      refine (HBU.out _ _ (HB4.out _)).mono ?_
      rintro e w4 ⟨rfl, rfl⟩
      go_wp2_with fail
      first
      | refine (ref_goon b (r.known1 _ _) wv bv iv 0 (.inl rfl) _ (HB4.out _)).mono ?_
      | refine (ref_goon b (r.known1 _ _) wv bv iv 0 (.inl rfl) _ (HB5.out _ _)).mono ?_
      rintro e w5 ⟨rfl, hB5, hU5⟩
      go_wp2
      go_end0
      first
      | exact ⟨rfl, hB5, (HU4.out _).trans hU5 (fun _ _ k => k)⟩
      | exact ⟨rfl, hB5, (HU5.out _ _).trans hU5 (fun _ _ k => k)⟩
  · have n1 : ¬ c = 107 := by omega
    have n2 : ¬ c = 235 := by omega
    have n3 : ¬ c = 5 := by omega
    have n4 : ¬ c = 53 := by omega
    have n5 : ¬ c = 117 := by omega
    have n6 : ¬ c = 1 := by omega
    have n7 : ¬ c = 2 := by omega
    have n8 : ¬ c = 32 := by omega
    have m1 : (c == 107) = false := by simpa using n1
    have m2 : (c == 235) = false := by simpa using n2
    have m3 : (c == 5) = false := by simpa using n3
    have m4 : (c == 53) = false := by simpa using n4
    have m5 : (c == 117) = false := by simpa using n5
    have m6 : (c == 1) = false := by simpa using n6
    have m7 : (c == 2) = false := by simpa using n7
    have m8 : (c == 32) = false := by simpa using n8
    have m1' : (c != 107) = true := by simpa using n1
    have m2' : (c != 235) = true := by simpa using n2
    have m3' : (c != 5) = true := by simpa using n3
    have m4' : (c != 53) = true := by simpa using n4
    have m5' : (c != 117) = true := by simpa using n5
    clear hcl
    have htk2 : (if r.susp && false then false else if r.works && true then false else opIs c && (r.quad || true)) = tk := by
      rw [← htk]
      unfold RSt.takes
      rw [show decide (c = 1 ∨ c = 2 ∨ c = 32) = false from decide_eq_false (by omega), show decide (c ≠ 5 ∧ c ≠ 53 ∧ c ≠ 117) = true from decide_eq_true (by omega), show decide (c ≠ 107 ∧ c ≠ 235) = true from decide_eq_true (by omega)]
    clear htk n1 n2 n3 n4 n5 n6 n7 n8
    cases ho : opIs c
    all_goals (rw [ho] at hee htk2)
    all_goals (cases hq : r.quad <;> cases hw : r.works <;> cases hs : r.susp)
    all_goals (rw [hq] at c2; rw [hs] at c11; rw [hw] at hbu)
    all_goals (try (exfalso; exact himp ⟨hw, hs⟩))
    all_goals clear himp
    all_goals
      rw [hs, hw, hq] at htk2
      simp at htk2
      subst htk2
      have HBU := Lib.hid hbu
      clear hbu hq hw hs
      go_wp2_with fail
      refine (HBU.out _ _ (HB4.out _)).mono ?_
      rintro e w4 ⟨rfl, rfl⟩
      go_wp2_with fail
      first
      | refine (ref_goon b (r.known1 _ _) wv bv iv 0 (.inl rfl) _ (HB4.out _)).mono ?_
      | refine (ref_goon b (r.known1 _ _) wv bv iv 0 (.inl rfl) _ (HB5.out _ _)).mono ?_
      rintro e w5 ⟨rfl, hB5, hU5⟩
      go_wp2
      go_end0
      first
      | exact ⟨rfl, hB5, (HU4.out _).trans hU5 (fun _ _ k => k)⟩
      | exact ⟨rfl, hB5, (HU5.out _ _).trans hU5 (fun _ _ k => k)⟩
end Go.Proofs.YteombggfmeilaaaGreat
