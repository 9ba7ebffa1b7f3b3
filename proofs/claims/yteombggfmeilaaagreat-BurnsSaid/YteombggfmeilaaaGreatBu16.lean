/- RmA RefErase RefSfdp -/
import Derived.Test.YteombggfmeilaaaGreatBu14
import Derived.Test.YteombggfmeilaaaGreatBu15
import Derived.Test.YteombggfmeilaaaGreatBu01
import Derived.Test.YteombggfmeilaaaGreatBu05
/- RmA. -/
namespace Go.Proofs.YteombggfmeilaaaGreat
open Go.RowKit
abbrev RB (w : World) (b : Nat) (r : RSt) (wv bv iv : Value) : Prop := Blk w b (r.list wv bv iv) 54
theorem ref_first (x y z : Bool) (w : World) :
    Calls Tryz.prog 112 #[.bool x, .bool y, .bool z] w fun e w' => e = .returned (.int .i64 (first x y z)) ∧ w = w' := by
  cases x <;> cases y <;> cases z
  all_goals
    go_enter Tryz.func112, Tryz.ntmps112
    go_wp2
    go_ret
    exact ⟨rfl, rfl⟩
theorem ref_second (x y : Bool) (w : World) :
    Calls Tryz.prog 113 #[.bool x, .bool y] w fun e w' => e = .returned (.int .i64 (second x y)) ∧ w = w' := by
  cases x <;> cases y
  all_goals
    go_enter Tryz.func113, Tryz.ntmps113
    go_wp2
    go_ret
    exact ⟨rfl, rfl⟩
theorem ref_protected (p : Bool) (a : Int) (w : World) (h : 0 ≤ a) (h2 : a < 4096) :
    Calls Tryz.prog 157 #[.bool p, .int .i64 a] w fun e w' => e = .returned (.tuple #[.bool (p && decide (a < 2048)), .int .i64 0]) ∧ w = w' := by
  cases p
  · go_enter Tryz.func157, Tryz.ntmps157
    go_wp2
    go_ret2
    exact ⟨rfl, rfl⟩
  · go_enter Tryz.func157, Tryz.ntmps157
    go_wp2
    go_ret2
    exact ⟨by simp, rfl⟩
theorem ref_busy (b : Nat) (r : RSt) (wv bv iv : Value) (w : World) (h : RB w b r wv bv iv) :
    Calls Tryz.prog 99 #[.pointer (some ⟨b, 0, none⟩)] w fun e w' => e = .returned (.bool r.works) ∧ w = w' := by
  have c7 := h.cell 7
  have c11 := h.cell 11
  simp only [RSt.list, List.getElem?_cons_succ, List.getElem?_cons_zero] at c7 c11
  by_cases hk : r.kind = 0
  · rw [hk] at c7
    have hw : r.works = false := by simp [RSt.works, hk]
    have HW := Lib.hid (show True ∧ r.works = false from ⟨trivial, hw⟩)
    clear hw hk h
    go_enter Tryz.func99, Tryz.ntmps99
    go_wp2
    go_ret
    exact ⟨by rw [HW.out.2]; rfl, rfl⟩
  · have hkb : (r.kind != 0) = true := by simpa using hk
    have hw : r.works = !r.susp := by simp [RSt.works, hk]
    have HW := Lib.hid (show True ∧ r.works = !r.susp from ⟨trivial, hw⟩)
    clear hw hk h
    go_enter Tryz.func99, Tryz.ntmps99
    go_wp2
    go_ret
    exact ⟨by rw [HW.out.2]; rfl, rfl⟩
theorem ref_status (b : Nat) (r : RSt) (wv bv iv : Value) (w : World) (h : RB w b r wv bv iv) :
    Calls Tryz.prog 31 #[.pointer (some ⟨b, 0, none⟩)] w fun e w' => e = .returned (.tuple #[.int .i64 r.first, .int .i64 r.second]) ∧ Upd none' w w' := by
  have l1 : ∀ u : UW w, u.val.cell? ⟨b, 1, none⟩ = some (.bool r.prot) := fun u => (h.upd u.upd (fun f => f)).cell 1
  have l2 : ∀ u : UW w, u.val.cell? ⟨b, 2, none⟩ = some (.bool r.quad) := fun u => (h.upd u.upd (fun f => f)).cell 2
  have l5 : ∀ u : UW w, u.val.cell? ⟨b, 5, none⟩ = some (.bool r.en) := fun u => (h.upd u.upd (fun f => f)).cell 5
  have l11 : ∀ u : UW w, u.val.cell? ⟨b, 11, none⟩ = some (.bool r.susp) := fun u => (h.upd u.upd (fun f => f)).cell 11
  have hwk : ∀ u : UW w, Calls Tryz.prog 99 #[.pointer (some ⟨b, 0, none⟩)] u.val fun e w' => e = .returned (.bool r.works) ∧ u.val = w' :=
    fun u => ref_busy b r wv bv iv u.val (h.upd u.upd (fun f => f))
  have HW := Lib.hid hwk
  clear hwk
  go_enter Tryz.func31, Tryz.ntmps31
  go_wp2_with fail
  refine wp_region_upd_lit w (Upd.refl none' w) (by kernel_rfl) (by kernel_rfl) ?_
  repeat (go_big_quiet_step ((first | (go_at_call 99; exact quiet_eq (HW.out _)) | (go_at_call 112; exact quiet_eq (ref_first r.works r.en r.prot _)) | (go_at_call 113; exact quiet_eq (ref_second r.quad r.susp _)))))
  refine wpQuiet_nil ?_
  rintro _ ⟨⟨w1, hU1⟩, rfl⟩
  go_wp2
  go_ret2
  exact ⟨rfl, hU1⟩
theorem goOn_fin {b : Nat} {r : RSt} {wv bv iv : Value} {w : World} (h : RB w b r wv bv iv) {p k : Int} (hk : nextPart r.op p = k) :
    RB ((((w.setCell ⟨b, 21, none⟩ (.int .i64 0)).setCell ⟨b, 22, none⟩ (.int .i64 0)).setCell ⟨b, 28, none⟩ (.int .i64 0)).setCell ⟨b, 23, none⟩ (.int .i64 k)) b (r.goOn p) wv bv iv ∧
    Upd (fun j => j = b) w ((((w.setCell ⟨b, 21, none⟩ (.int .i64 0)).setCell ⟨b, 22, none⟩ (.int .i64 0)).setCell ⟨b, 28, none⟩ (.int .i64 0)).setCell ⟨b, 23, none⟩ (.int .i64 k)) := by
  subst hk
  refine ⟨(((h.set 21 _).set 22 _).set 28 _).set 23 _, ?_⟩
  exact ((((Upd.refl (fun j => j = b) w).setCell ⟨b, 21, none⟩ _ (fun _ => rfl)).setCell ⟨b, 22, none⟩ _ (fun _ => rfl)).setCell ⟨b, 28, none⟩ _ (fun _ => rfl)).setCell ⟨b, 23, none⟩ _ (fun _ => rfl)
end Go.Proofs.YteombggfmeilaaaGreat
namespace Go.Proofs.YteombggfmeilaaaGreat
open Go.RowKit
set_option maxHeartbeats 2000000 in
theorem ref_goon (b : Nat) (r : RSt) (wv bv iv : Value) (p : Int) (hp : p = 0 ∨ p = 1 ∨ p = 2 ∨ p = 3) (w : World) (h : RB w b r wv bv iv) :
    Calls Tryz.prog 153 #[.pointer (some ⟨b, 0, none⟩), .int .i64 p] w fun e w' => e = .returned (.tuple #[]) ∧ RB w' b (r.goOn p) wv bv iv ∧ Upd (fun k => k = b) w w' := by
  have c14 := h.cell 14
  have c15 := h.cell 15
  have c16 := h.cell 16
  have c21 := h.cell 21
  have c22 := h.cell 22
  have c23 := h.cell 23
  have c28 := h.cell 28
  have f21 := h.frozen 21
  have f22 := h.frozen 22
  have f23 := h.frozen 23
  have f28 := h.frozen 28
  have hlt := h.lt
  simp only [RSt.list, List.getElem?_cons_succ, List.getElem?_cons_zero] at c14 c15 c16 c21 c22 c23 c28
  have HF : Hid (∀ k, nextPart r.op p = k → _) := Lib.hid (fun k hk => goOn_fin h hk)
  clear h
  by_cases ha : 0 < r.op.addr <;> by_cases hd : 0 < r.op.dummy <;> cases hm : r.op.mode <;> rw [hm] at c15
  all_goals rcases hp with rfl | rfl | rfl | rfl
  all_goals
    have HM := Lib.hid hm
    have HA := Lib.hid ha
    have HD := Lib.hid hd
    clear hm
    go_enter Tryz.func153, Tryz.ntmps153
    go_wp2
    go_end0
    exact ⟨rfl, HF.out _ (by have h1 := HA.out; have h2 := HD.out; unfold nextPart; rw [HM.out]; simp <;> (repeat (first | omega | split)))⟩
end Go.Proofs.YteombggfmeilaaaGreat
namespace Go.Proofs.YteombggfmeilaaaGreat
open Go.RowKit
def RSt.known1 (r : RSt) (c : Int) (tk : Bool) : RSt := { r with known := true, op := opOf c, taken := tk }
theorem command_eq (r : RSt) (c : Int) (tk : Bool) (h : r.takes c = tk) : r.command c = (r.known1 c tk).goOn 0 := by subst h; rfl
theorem rb_op {w : World} {b : Nat} {r : RSt} {wv bv iv : Value} (h : RB w b r wv bv iv) (o : POp) :
    RB ((((((w.setCell ⟨b, 13, none⟩ (.int .i64 o.byte)).setCell ⟨b, 14, none⟩ (.int .i64 o.addr)).setCell ⟨b, 15, none⟩ (.bool o.mode)).setCell ⟨b, 16, none⟩ (.int .i64 o.dummy)).setCell ⟨b, 17, none⟩ (.int .i64 o.data)).setCell ⟨b, 18, none⟩ (.bool o.inn)) b { r with op := o } wv bv iv :=
  (((((h.set 13 (.int .i64 o.byte)).set 14 (.int .i64 o.addr)).set 15 (.bool o.mode)).set 16 (.int .i64 o.dummy)).set 17 (.int .i64 o.data)).set 18 (.bool o.inn)
theorem rupd_op {S : Nat → Prop} {a w : World} {b : Nat} (h : Upd S a w) (hb : S b) (o : POp) :
    Upd S a ((((((w.setCell ⟨b, 13, none⟩ (.int .i64 o.byte)).setCell ⟨b, 14, none⟩ (.int .i64 o.addr)).setCell ⟨b, 15, none⟩ (.bool o.mode)).setCell ⟨b, 16, none⟩ (.int .i64 o.dummy)).setCell ⟨b, 17, none⟩ (.int .i64 o.data)).setCell ⟨b, 18, none⟩ (.bool o.inn)) :=
  (((((h.setCell ⟨b, 13, none⟩ _ (fun _ => hb)).setCell ⟨b, 14, none⟩ _ (fun _ => hb)).setCell ⟨b, 15, none⟩ _ (fun _ => hb)).setCell ⟨b, 16, none⟩ _ (fun _ => hb)).setCell ⟨b, 17, none⟩ _ (fun _ => hb)).setCell ⟨b, 18, none⟩ _ (fun _ => hb)
theorem cmd_world {w w1 : World} {b : Nat} {r : RSt} {wv bv iv : Value} (hB : RB w1 b r wv bv iv) (hU : Upd (fun k => k = b) w w1) (by' ad : Int) (mo : Bool) (du da : Int) (inn : Bool) :
    RB (((((((w1.setCell ⟨b, 13, none⟩ (.int .i64 by')).setCell ⟨b, 14, none⟩ (.int .i64 ad)).setCell ⟨b, 15, none⟩ (.bool mo)).setCell ⟨b, 16, none⟩ (.int .i64 du)).setCell ⟨b, 17, none⟩ (.int .i64 da)).setCell ⟨b, 18, none⟩ (.bool inn)).alloc (.cells #[.int .i64 by', .int .i64 ad, .bool mo, .int .i64 du, .int .i64 da, .bool inn] 52)) b { r with op := ⟨by', ad, mo, du, da, inn⟩ } wv bv iv ∧ Upd (fun k => k = b) w (((((((w1.setCell ⟨b, 13, none⟩ (.int .i64 by')).setCell ⟨b, 14, none⟩ (.int .i64 ad)).setCell ⟨b, 15, none⟩ (.bool mo)).setCell ⟨b, 16, none⟩ (.int .i64 du)).setCell ⟨b, 17, none⟩ (.int .i64 da)).setCell ⟨b, 18, none⟩ (.bool inn)).alloc (.cells #[.int .i64 by', .int .i64 ad, .bool mo, .int .i64 du, .int .i64 da, .bool inn] 52)) :=
  ⟨(rb_op hB ⟨by', ad, mo, du, da, inn⟩).alloc _, (rupd_op hU rfl ⟨by', ad, mo, du, da, inn⟩).alloc _⟩
set_option maxHeartbeats 4000000 in
theorem ref_command (b : Nat) (c : Int) (r : RSt) (wv bv iv : Value) (w : World) (h : RB w b r wv bv iv) (tk : Bool) (htk : r.takes c = tk) :
    Calls Tryz.prog 94 #[.pointer (some ⟨b, 0, none⟩), .int .i64 c] w fun e w' => e = .returned (.tuple #[]) ∧ RB w' b (r.command c) wv bv iv ∧ Upd (fun k => k = b) w w' := by
  rw [command_eq r c tk htk]
  have hof : ∃ e, (e == 0) = opIs c ∧ ∀ W, Calls Tryz.prog 117 #[.int .i64 c] W fun e' w' => e' = .returned (.tuple #[.agg (opOf c).cells, .int .i64 e]) ∧ Upd none' W w' := by
    cases hc : opIs c with
    | true => exact ⟨0, rfl, fun W => rop_of c hc W⟩
    | false =>
      refine ⟨400, rfl, fun W => ?_⟩
      have e0 : opOf c = op0 := by
        simp only [opIs, decide_eq_false_iff_not] at hc
        unfold opOf
        rw [if_neg (by omega), if_neg (by omega), if_neg (by omega), if_neg (by omega), if_neg (by omega), if_neg (by omega), if_neg (by omega), if_neg (by omega), if_neg (by omega)]
      rw [e0]
      exact rop_of_no c hc W
  obtain ⟨ee, hee, hof⟩ := hof
  obtain ⟨o, ho⟩ : ∃ o, opOf c = o := ⟨_, rfl⟩
  rw [ho] at hof
  obtain ⟨by', ad, mo, du, da, inn⟩ := o
  unfold POp.cells at hof
  dsimp only at hof
  have HOF := Lib.hid hof
  have HO := Lib.hid ho
  have f20 := h.frozen 20
  have c20 := h.cell 20
  simp only [RSt.list, List.getElem?_cons_succ, List.getElem?_cons_zero] at c20
  have HC0 : Hid (RB (w.setCell ⟨b, 20, none⟩ (.bool true)) b { r with known := true } wv bv iv) := Lib.hid (h.set 20 (.bool true))
  have HU0 : Hid _ := Lib.hid ((Upd.refl (fun k => k = b) w).setCell ⟨b, 20, none⟩ (.bool true) (fun _ => rfl))
  have hlt := h.lt
  clear hof h ho
  go_enter Tryz.func94, Tryz.ntmps94
  go_wp2_with fail
  refine (HOF.out _).mono ?_
  rintro e w1 ⟨rfl, hU1⟩
  have hB1 := HC0.out.upd hU1 (fun f => f)
  have hUa := HU0.out.trans hU1 (fun _ _ f => f.elim)
  have HW := Lib.hid (cmd_world hB1 hUa by' ad mo du da inn)
  have c13 := hB1.cell 13
  have f13 := hB1.frozen 13
  have c14 := hB1.cell 14
  have f14 := hB1.frozen 14
  have c15 := hB1.cell 15
  have f15 := hB1.frozen 15
  have c16 := hB1.cell 16
  have f16 := hB1.frozen 16
  have c17 := hB1.cell 17
  have f17 := hB1.frozen 17
  have c18 := hB1.cell 18
  have f18 := hB1.frozen 18
  have hlt1 := hB1.lt
  simp only [RSt.list, List.getElem?_cons_succ, List.getElem?_cons_zero] at c13 c14 c15 c16 c17 c18
  clear hB1 hUa hU1
  go_upto_region 3 with fail
  obtain ⟨hB3, hU3⟩ := HW.out
  clear HW c13 c14 c15 c16 c17 c18 f13 f14 f15 f16 f17 f18
  generalize (((((((w1.setCell ⟨b, 13, none⟩ (.int .i64 by')).setCell ⟨b, 14, none⟩ (.int .i64 ad)).setCell ⟨b, 15, none⟩ (.bool mo)).setCell ⟨b, 16, none⟩ (.int .i64 du)).setCell ⟨b, 17, none⟩ (.int .i64 da)).setCell ⟨b, 18, none⟩ (.bool inn)).alloc (.cells #[.int .i64 by', .int .i64 ad, .bool mo, .int .i64 du, .int .i64 da, .bool inn] 52)) = W3 at *
  have c2 := hB3.cell 2
  have c11 := hB3.cell 11
  have c19 := hB3.cell 19
  have f19 := hB3.frozen 19
  simp only [RSt.list, List.getElem?_cons_succ, List.getElem?_cons_zero] at c2 c11 c19
  have hlt3 := hB3.lt
  have HB4 : Hid (∀ t0, RB (W3.setCell ⟨b, 19, none⟩ (.bool t0)) b (r.known1 c t0) wv bv iv) := Lib.hid (fun t0 => by
    have := hB3.set 19 (.bool t0)
    unfold RSt.known1
    rw [HO.out]
    exact this)
  have HU4 : Hid (∀ t0 : Bool, Upd (fun k => k = b) w (W3.setCell ⟨b, 19, none⟩ (.bool t0))) := Lib.hid (fun t0 => hU3.setCell ⟨b, 19, none⟩ (.bool t0) (fun _ => rfl))
  have HB5 : Hid (∀ t0 t1 : Bool, RB ((W3.setCell ⟨b, 19, none⟩ (.bool t0)).setCell ⟨b, 19, none⟩ (.bool t1)) b (r.known1 c t1) wv bv iv) := Lib.hid (fun t0 t1 => (HB4.out t0).set 19 (.bool t1))
  have HU5 : Hid (∀ t0 t1 : Bool, Upd (fun k => k = b) w ((W3.setCell ⟨b, 19, none⟩ (.bool t0)).setCell ⟨b, 19, none⟩ (.bool t1))) := Lib.hid (fun t0 t1 => (HU4.out t0).setCell ⟨b, 19, none⟩ (.bool t1) (fun _ => rfl))
  clear hB3 hU3 hlt1 HOF HC0 HU0 f20 c20 hlt
  have hbu : ∀ (t0 : Bool) W, RB W b (r.known1 c t0) wv bv iv → Calls Tryz.prog 99 #[.pointer (some ⟨b, 0, none⟩)] W fun e w' => e = .returned (.bool r.works) ∧ W = w' := fun t0 W h => ref_busy b (r.known1 c t0) wv bv iv W h
  have himp : ¬ (r.works = true ∧ r.susp = true) := by
    unfold RSt.works
    intro hh
    rw [hh.2] at hh
    simp at hh
  by_cases hcl : c = 107 ∨ c = 235 ∨ c = 5 ∨ c = 53 ∨ c = 117 ∨ c = 1 ∨ c = 2 ∨ c = 32
  · cases hq : r.quad <;> cases hw : r.works <;> cases hs : r.susp
    all_goals (rw [hq] at c2; rw [hs] at c11; rw [hw] at hbu)
    all_goals (try (exfalso; exact himp ⟨hw, hs⟩))
    all_goals clear himp
    all_goals rcases hcl with hcl | hcl | hcl | hcl | hcl | hcl | hcl | hcl
    all_goals subst hcl
    all_goals
      have he : (ee == 0) = true := hee
      simp [RSt.takes, hq, hw, hs, opIs] at htk
      subst htk
      have HBU := Lib.hid hbu
      clear hbu hq hw hs
      go_wp2_with fail
      refine (HBU.out _ _ (HB4.out _)).mono ?_
      rintro e w4 ⟨rfl, rfl⟩
      go_wp2_with fail
      first
      | refine (ref_goon b (r.known1 _ _) wv bv iv 0 (.inl rfl) _ (HB4.out _)).mono ?_
      | refine (ref_goon b (r.known1 _ _) wv bv iv 0 (.inl rfl) _ (HB5.out _ _)).mono ?_
      rintro e w5 ⟨rfl, hB5, hU5⟩
      go_wp2
      go_end0
      first
      | exact ⟨rfl, hB5, (HU4.out _).trans hU5 (fun _ _ k => k)⟩
      | exact ⟨rfl, hB5, (HU5.out _ _).trans hU5 (fun _ _ k => k)⟩
  · have n1 : ¬ c = 107 := by omega
    have n2 : ¬ c = 235 := by omega
    have n3 : ¬ c = 5 := by omega
    have n4 : ¬ c = 53 := by omega
    have n5 : ¬ c = 117 := by omega
    have n6 : ¬ c = 1 := by omega
    have n7 : ¬ c = 2 := by omega
    have n8 : ¬ c = 32 := by omega
    have m1 : (c == 107) = false := by simpa using n1
    have m2 : (c == 235) = false := by simpa using n2
    have m3 : (c == 5) = false := by simpa using n3
    have m4 : (c == 53) = false := by simpa using n4
    have m5 : (c == 117) = false := by simpa using n5
    have m6 : (c == 1) = false := by simpa using n6
    have m7 : (c == 2) = false := by simpa using n7
    have m8 : (c == 32) = false := by simpa using n8
    have m1' : (c != 107) = true := by simpa using n1
    have m2' : (c != 235) = true := by simpa using n2
    have m3' : (c != 5) = true := by simpa using n3
    have m4' : (c != 53) = true := by simpa using n4
    have m5' : (c != 117) = true := by simpa using n5
    clear hcl
    have htk2 : (if r.susp && false then false else if r.works && true then false else opIs c && (r.quad || true)) = tk := by
      rw [← htk]
      unfold RSt.takes
      rw [show decide (c = 1 ∨ c = 2 ∨ c = 32) = false from decide_eq_false (by omega), show decide (c ≠ 5 ∧ c ≠ 53 ∧ c ≠ 117) = true from decide_eq_true (by omega), show decide (c ≠ 107 ∧ c ≠ 235) = true from decide_eq_true (by omega)]
    clear htk n1 n2 n3 n4 n5 n6 n7 n8
    cases ho : opIs c
    all_goals (rw [ho] at hee htk2)
    all_goals (cases hq : r.quad <;> cases hw : r.works <;> cases hs : r.susp)
    all_goals (rw [hq] at c2; rw [hs] at c11; rw [hw] at hbu)
    all_goals (try (exfalso; exact himp ⟨hw, hs⟩))
    all_goals clear himp
    all_goals
      rw [hs, hw, hq] at htk2
      simp at htk2
      subst htk2
      have HBU := Lib.hid hbu
      clear hbu hq hw hs
      go_wp2_with fail
      refine (HBU.out _ _ (HB4.out _)).mono ?_
      rintro e w4 ⟨rfl, rfl⟩
      go_wp2_with fail
      first
      | refine (ref_goon b (r.known1 _ _) wv bv iv 0 (.inl rfl) _ (HB4.out _)).mono ?_
      | refine (ref_goon b (r.known1 _ _) wv bv iv 0 (.inl rfl) _ (HB5.out _ _)).mono ?_
      rintro e w5 ⟨rfl, hB5, hU5⟩
      go_wp2
      go_end0
      first
      | exact ⟨rfl, hB5, (HU4.out _).trans hU5 (fun _ _ k => k)⟩
      | exact ⟨rfl, hB5, (HU5.out _ _).trans hU5 (fun _ _ k => k)⟩
end Go.Proofs.YteombggfmeilaaaGreat
/- RefErase. -/
namespace Go.Proofs.YteombggfmeilaaaGreat
open Go.RowKit
theorem ref_bit (s : ByteArray) (i : Nat) (w : World) (hi : i ≤ 100000) (hs : s.size ≤ 9223372036854775807) :
    Calls Tryz.prog 166 #[.string s, .int .i64 i] w fun e w' => e = .returned (.int .u8 (maskAt s i).toNat) ∧ w = w' := by
  by_cases h0 : s.size = 0
  · have hs0 : s = ⟨#[]⟩ := by
      obtain ⟨d⟩ := s
      simp only [ByteArray.size] at h0
      rw [Array.eq_empty_of_size_eq_zero h0]
    subst hs0
    have hm : maskAt ⟨#[]⟩ i = 0 := by simp [maskAt, ByteArray.size]
    have HM := Lib.hid hm
    clear hm h0
    go_enter Tryz.func166, Tryz.ntmps166
    go_wp2
    go_ret
    exact ⟨by rw [HM.out]; rfl, rfl⟩
  · have hq : i % s.size < s.size := Nat.mod_lt _ (by omega)
    have hm : maskAt s i = s[i % s.size]'hq := by
      unfold maskAt
      rw [if_neg h0, List.getD_eq_getElem?_getD, List.getElem?_eq_getElem (show i % s.size < s.data.toList.length from hq)]
      rfl
    have HM := Lib.hid hm
    clear hm
    go_enter Tryz.func166, Tryz.ntmps166
    go_wp2
    go_ret
    exact ⟨by rw [HM.out]; rfl, rfl⟩
theorem ref_may (s : ByteArray) (w : World) (hs : s.size = 4096) :
    Calls Tryz.prog 91 #[.string s] w fun e w' => e = .returned (.bool true) ∧ w = w' := by
  go_enter Tryz.func91, Tryz.ntmps91
  go_wp2
  go_ret
  exact ⟨rfl, rfl⟩
set_option maxRecDepth 100000 in
set_option maxHeartbeats 1000000 in
theorem ref_erasecut (a : ByteArray) (sector : Nat) (mask : ByteArray) (w : World) (ha : a.size = 4096) (hse : sector < 8) (hs : mask.size ≤ 9223372036854775807) :
    Calls Tryz.prog 108 #[.string a, .int .i64 sector, .string mask] w fun e w' => e = .returned (.tuple #[.string (eraseCut a sector mask), .int .i64 0]) ∧ Upd none' w w' := by
  have kc := Lib.run_convert_string_bytes (P := Tryz.prog) w 9 23 5 a Tryz.underlying9 Tryz.underlying23 Tryz.underlying5
  have hasz : a.data.toList.length = 4096 := ha
  have HA := Lib.hid hasz
  clear hasz
  obtain ⟨turn, hturn⟩ : ∃ turn : Nat → UInt8 → UInt8, turn = fun i old => old ||| maskAt mask i := ⟨_, rfl⟩
  have HT := Lib.hid hturn
  have hre : eraseCut a sector mask = ⟨(turnL a.data.toList (sector * 512) 512 turn).toArray⟩ := by rw [hturn]; rfl
  have HRE := Lib.hid hre
  clear hturn hre
  have hmu : IntKind.i64.wrap ((sector : Int) * 512) = ((sector * 512 : Nat) : Int) := by rw [IntWalk.i64_in _ (by omega)]; omega
  have hmu2 : (sector : Int) * 512 = ((sector * 512 : Nat) : Int) := by omega
  obtain ⟨lo, hlo⟩ : ∃ lo, sector * 512 = lo := ⟨_, rfl⟩
  have hlo2 : lo + 512 ≤ 4096 := by omega
  rw [hlo] at hmu hmu2 HRE
  clear hlo
  go_enter Tryz.func108, Tryz.ntmps108
  go_wp2_with (go_at_call 91; refine (ref_may a _ ha).mono ?_; rintro e w' ⟨rfl, rfl⟩)
  go_loopw [10] (fun iv wr => ∃ i : Nat, i ≤ 512 ∧ iv = .int .i64 i ∧ Buf wr w.heap.size (turnL a.data.toList lo i turn) 5 ∧ Upd none' w wr) (fun iv _ => 512 - (intOf iv).toNat)
  case atStart => exact ⟨0, by omega, rfl, by rw [turnL_zero]; exact Buf.of_bytes w _ a, upd_bytes w _ a⟩
  case round =>
    clear kc hmu hmu2
    obtain ⟨i, hi, rfl, hB, hU⟩ := hrel
    have hlen := turnL_len a.data.toList lo i turn
    rw [HA.out] at hlen
    by_cases hlt : i < 512
    · have hstep := turnL_step a.data.toList lo i turn (by rw [HA.out]; omega)
      have hat := turnL_at a.data.toList lo i turn (by rw [HA.out]; omega)
      have hc := hB.cell (j := lo + i) (by rw [hlen]; omega)
      have hf := hB.frozen (j := lo + i) (by rw [hlen]; omega)
      rw [hat] at hc
      obtain ⟨c, hcv⟩ : ∃ c, a.data.toList.getD (lo + i) 0 = c := ⟨_, rfl⟩
      rw [hcv] at hc hstep
      have hti : turn i c = c ||| maskAt mask i := by rw [HT.out]
      have hor := u8_orb c (maskAt mask i)
      rw [← hti] at hor
      have hset := hB.set (j := lo + i) (by rw [hlen]; omega) (turn i c)
      rw [hstep] at hset
      have HS := Lib.hid hset
      have HU := Lib.hid (hU.setCell ⟨w.heap.size, lo + i, none⟩ (.int .u8 (turn i c).toNat) (fun hk => absurd hk (Nat.lt_irrefl _)))
      have hsum : IntKind.i64.wrap ((lo : Int) + (i : Int)) = (lo : Int) + (i : Int) := IntWalk.i64_in _ (by omega)
      have hsn : ((lo : Int) + (i : Int)).toNat = lo + i := by omega
      clear hset hstep hat hcv hti hB hU
      have hbit := fun W => ref_bit mask i W (by omega) hs
      generalize maskAt mask i = mi at *
      have HBIT := Lib.hid hbit
      clear hbit
      go_upto_region 8 with fail
      go_region_with (go_at_call 166; refine (HBIT.out _).mono ?_; rintro e w' ⟨rfl, rfl⟩)
      all_goals
        go_wp2
        refine ⟨?rel, ?measure⟩
        case rel => exact ⟨i + 1, by omega, by go_num, HS.out, HU.out.drew⟩
        case measure => simp [intOf]; omega
    · obtain rfl : i = 512 := by omega
      have kd := fun cap => run_string_buf (P := Tryz.prog) hB 23 5 9 Tryz.underlying23 Tryz.underlying5 Tryz.underlying9 4096 cap hlen
      have HU := Lib.hid hU
      clear hB hU hlen
      go_wp2
      go_ret2
      exact ⟨by rw [HRE.out]; rfl, HU.out⟩
theorem ref_erase (a : ByteArray) (sector : Nat) (w : World) (ha : a.size = 4096) (hse : sector < 8) :
    Calls Tryz.prog 161 #[.string a, .int .i64 sector] w fun e w' => e = .returned (.tuple #[.string (eraseCut a sector all255), .int .i64 0]) ∧ Upd none' w w' := by
  have H := Lib.hid (ref_erasecut a sector all255 w ha hse (by decide))
  go_enter Tryz.func161, Tryz.ntmps161
  go_wp2_with (go_at_call 108; refine H.out.mono ?_; rintro e w1 ⟨rfl, hU⟩)
  go_ret2
  exact ⟨rfl, hU⟩
end Go.Proofs.YteombggfmeilaaaGreat
namespace Go.Proofs.YteombggfmeilaaaGreat
open Go.RowKit
set_option maxRecDepth 100000 in
theorem prog_bits (c m : UInt8) (data : ByteArray) (i : Nat) (h : i < data.size) : bits .andNot .u8 (c.toNat : Int) (bits .and .u8 (bits .xor .u8 IntKind.u8.max ((data[i]'h).toNat : Int)) (m.toNat : Int)) = ((c &&& ~~~(m &&& ~~~(data.data.toList.getD i 0))).toNat : Int) := by
  rw [str_at data i h]
  generalize data[i]'h = d
  have e1 : bits .xor .u8 IntKind.u8.max (d.toNat : Int) = ((~~~d).toNat : Int) := by
    rw [show IntKind.u8.max = ((255 : Nat) : Int) from rfl, u8_xor_nat _ _ (by decide) d.toNat_lt, UInt8.toNat_not]
    have : ∀ k, k < 256 → (255 ^^^ k : Nat) = 255 - k := by decide
    rw [this _ d.toNat_lt]
    rfl
  have e2 : bits .and .u8 ((~~~d).toNat : Int) (m.toNat : Int) = ((m &&& ~~~d).toNat : Int) := by
    rw [u8_and_nat _ _ (~~~d).toNat_lt m.toNat_lt, UInt8.toNat_and, Nat.and_comm]
  rw [e1, e2, u8_andnb]
set_option maxRecDepth 100000 in
set_option maxHeartbeats 2000000 in
theorem ref_programcut (a : ByteArray) (lo : Nat) (data mask : ByteArray) (w : World) (ha : a.size = 4096) (hlo : lo + data.size ≤ 4096) (hs : mask.size ≤ 9223372036854775807) :
    Calls Tryz.prog 107 #[.string a, .int .i64 lo, .string data, .string mask] w fun e w' => e = .returned (.tuple #[.string (progCut a lo data mask), .int .i64 0]) ∧ Upd none' w w' := by
  have kc := Lib.run_convert_string_bytes (P := Tryz.prog) w 9 23 5 a Tryz.underlying9 Tryz.underlying23 Tryz.underlying5
  have hasz : a.data.toList.length = 4096 := ha
  have HA := Lib.hid hasz
  clear hasz
  obtain ⟨turn, hturn⟩ : ∃ turn : Nat → UInt8 → UInt8, turn = fun i old => old &&& ~~~(maskAt mask i &&& ~~~(data.data.toList.getD i 0)) := ⟨_, rfl⟩
  have HT := Lib.hid hturn
  have hre : progCut a lo data mask = ⟨(turnL a.data.toList lo data.size turn).toArray⟩ := by rw [hturn]; rfl
  have HRE := Lib.hid hre
  clear hturn hre
  obtain ⟨n, hn⟩ : ∃ n, data.size = n := ⟨_, rfl⟩
  rw [hn] at hlo HRE
  have hlo3 : ¬ (lo : Int) > 4096 := by omega
  have hlo4 : IntKind.i64.wrap (4096 - (lo : Int)) = 4096 - (lo : Int) := IntWalk.i64_in _ (by omega)
  have hn2 : ¬ (n : Int) > 4096 - (lo : Int) := by omega
  go_enter Tryz.func107, Tryz.ntmps107
  go_wp2_with (go_at_call 91; refine (ref_may a _ ha).mono ?_; rintro e w' ⟨rfl, rfl⟩)
  go_loopw [11] (fun iv wr => ∃ i : Nat, i ≤ n ∧ iv = .int .i64 i ∧ Buf wr w.heap.size (turnL a.data.toList lo i turn) 5 ∧ Upd none' w wr) (fun iv _ => n - (intOf iv).toNat)
  case atStart => exact ⟨0, by omega, rfl, by rw [turnL_zero]; exact Buf.of_bytes w _ a, upd_bytes w _ a⟩
  case round =>
    clear kc hlo3 hlo4 hn2
    obtain ⟨i, hi, rfl, hB, hU⟩ := hrel
    have hlen := turnL_len a.data.toList lo i turn
    rw [HA.out] at hlen
    by_cases hlt : i < n
    · have hstep := turnL_step a.data.toList lo i turn (by rw [HA.out]; omega)
      have hat := turnL_at a.data.toList lo i turn (by rw [HA.out]; omega)
      have hc := hB.cell (j := lo + i) (by rw [hlen]; omega)
      have hf := hB.frozen (j := lo + i) (by rw [hlen]; omega)
      rw [hat] at hc
      obtain ⟨c, hcv⟩ : ∃ c, a.data.toList.getD (lo + i) 0 = c := ⟨_, rfl⟩
      rw [hcv] at hc hstep
      have hset := hB.set (j := lo + i) (by rw [hlen]; omega) (turn i c)
      rw [hstep] at hset
      have hdi : i < data.size := by omega
      have hval : bits .andNot .u8 (c.toNat : Int) (bits .and .u8 (bits .xor .u8 IntKind.u8.max ((data[i]'hdi).toNat : Int)) ((maskAt mask i).toNat : Int)) = ((turn i c).toNat : Int) := by
        rw [HT.out]
        exact prog_bits c (maskAt mask i) data i hdi
      rw [← hval] at hset
      have HS := Lib.hid hset
      clear hval
      have HU := Lib.hid (hU.setCell ⟨w.heap.size, lo + i, none⟩ (.int .u8 (bits .andNot .u8 (c.toNat : Int) (bits .and .u8 (bits .xor .u8 IntKind.u8.max ((data[i]'hdi).toNat : Int)) ((maskAt mask i).toNat : Int)))) (fun hk => absurd hk (Nat.lt_irrefl _)))
      have hsum : IntKind.i64.wrap ((lo : Int) + (i : Int)) = (lo : Int) + (i : Int) := IntWalk.i64_in _ (by omega)
      have hsn : ((lo : Int) + (i : Int)).toNat = lo + i := by omega
      clear hset hstep hat hcv hB hU
      have hbit := fun W => ref_bit mask i W (by omega) hs
      generalize maskAt mask i = mi at *
      have HBIT := Lib.hid hbit
      clear hbit
      go_upto_region 8 with fail
      go_region_with (go_at_call 166; refine (HBIT.out _).mono ?_; rintro e w' ⟨rfl, rfl⟩)
      all_goals
        go_wp2
        refine ⟨?rel, ?measure⟩
        case rel => exact ⟨i + 1, by omega, by go_num, HS.out, HU.out.drew⟩
        case measure => simp [intOf]; omega
    · obtain rfl : i = n := by omega
      have kd := fun cap => run_string_buf (P := Tryz.prog) hB 23 5 9 Tryz.underlying23 Tryz.underlying5 Tryz.underlying9 4096 cap hlen
      have HU := Lib.hid hU
      clear hB hU hlen
      go_wp2
      go_ret2
      exact ⟨by rw [HRE.out]; rfl, HU.out⟩
end Go.Proofs.YteombggfmeilaaaGreat
/- RefSfdp. -/
namespace Go.Proofs.YteombggfmeilaaaGreat
open Go.RowKit
theorem make_bytes12 (u : World) : (Instr.makeSlice 23 (.int .i64 12) (.int .i64 12)).run Tryz.prog u = .ok (.slice (some ⟨u.heap.size, 0, none⟩) 12 12) (u.alloc (.cells (bytesV (List.replicate 12 0)).toArray 5)) := by
  have := run_make (P := Tryz.prog) u 23 5 Tryz.t5 (.int .u8 0) Tryz.underlying23 (by kernel_rfl) (by kernel_rfl) .i64 .i64 12 12 (by decide) (by decide) (by show ((1 : Nat) : Int) * 12 ≤ _; decide) (by decide)
  rw [this, show madeCells (Value.int .u8 0).cells (Int.toNat 12 * Tryz.t5.size) = (bytesV (List.replicate 12 0)).toArray from by kernel_rfl]
  rfl
set_option maxRecDepth 100000 in
set_option maxHeartbeats 1000000 in
theorem ref_full12 (w : World) : Calls Tryz.prog 89 #[.int .i64 12] w fun e w' => e = .returned (.string ⟨#[255, 255, 255, 255, 255, 255, 255, 255, 255, 255, 255, 255]⟩) ∧ Upd none' w w' := by
  have hmk := make_bytes12
  go_enter Tryz.func89, Tryz.ntmps89
  go_wp2_with fail
  clear hmk
  obtain ⟨Z, hZ⟩ : ∃ Z, List.replicate 12 (0 : UInt8) = Z := ⟨_, rfl⟩
  first | rw [hZ] | rw [show [(0 : UInt8), 0, 0, 0, 0, 0, 0, 0, 0, 0, 0, 0] = Z from hZ]
  have hBz : Buf (w.alloc (.cells (bytesV Z).toArray 5)) w.heap.size Z 5 := ⟨[], (0, 0), by rw [List.append_nil]; exact heap_alloc_new w _, .inl rfl⟩
  have hUz := (Upd.refl none' w).alloc (.cells (bytesV Z).toArray 5)
  generalize w.alloc (.cells (bytesV Z).toArray 5) = W at *
  go_loopw [4] (fun iv wr => ∃ (i : Nat) (l : List UInt8), i ≤ 12 ∧ iv = .int .i64 i ∧ Upd none' w wr ∧ Buf wr w.heap.size l 5 ∧ Hid (l = List.replicate i 255 ++ List.replicate (12 - i) 0)) (fun iv _ => 12 - (intOf iv).toNat)
  case atStart => exact ⟨0, Z, by omega, rfl, hUz, hBz, Lib.hid (by rw [← hZ, List.replicate_zero, List.nil_append])⟩
  case round =>
    clear hBz hUz
    obtain ⟨i, l, hi, rfl, hU, hB, hl⟩ := hrel
    have hll : l.length = 12 := by rw [hl.out]; simp; omega
    by_cases hlt : i < 12
    · have hc := hB.cell (j := i) (by omega)
      have hf := hB.frozen (j := i) (by omega)
      have HB := Lib.hid (hB.set (j := i) (by omega) 255)
      have HU := Lib.hid (hU.setCell ⟨w.heap.size, i, none⟩ (.int .u8 255) (fun h => absurd h (by dsimp only; omega)))
      clear hB hU hZ
      go_wp2
      exact ⟨⟨i + 1, _, by omega, by go_num, HU.out, HB.out, Lib.hid (by rw [hl.out, fillN 12 i hlt])⟩, by simp [intOf]; omega⟩
    · have hieq : i = 12 := by omega
      subst hieq
      have hle : l = [255, 255, 255, 255, 255, 255, 255, 255, 255, 255, 255, 255] := by rw [hl.out]; rfl
      clear hZ
      subst hle
      have hst := fun cap => run_string_buf hB 23 5 9 Tryz.underlying23 Tryz.underlying5 Tryz.underlying9 12 cap hll
      have HU := Lib.hid hU
      clear hB hU hl
      go_wp2
      go_ret
      exact ⟨rfl, HU.out⟩
theorem ref_power (x : Int) (hx : x = 4096 ∨ x = 512 ∨ x = 32) (w : World) :
    Calls Tryz.prog 206 #[.int .i64 x] w fun e w' => e = .returned (.bool true) ∧ w = w' := by
  rcases hx with rfl | rfl | rfl
  all_goals
    go_enter Tryz.func206, Tryz.ntmps206
    go_wp2
    go_ret
    exact ⟨rfl, rfl⟩
def Four (x : Int) (b0 b1 b2 b3 : UInt8) : Prop := x = 4096 ∧ b0 = 0 ∧ b1 = 16 ∧ b2 = 0 ∧ b3 = 0 ∨ x = 512 ∧ b0 = 0 ∧ b1 = 2 ∧ b2 = 0 ∧ b3 = 0 ∨ x = 32 ∧ b0 = 32 ∧ b1 = 0 ∧ b2 = 0 ∧ b3 = 0
set_option maxRecDepth 100000 in
theorem ref_four {w0 w : World} (hU : Upd none' w0 w) (x : Int) (b0 b1 b2 b3 : UInt8) (hb : Four x b0 b1 b2 b3) :
    Calls Tryz.prog 207 #[.int .i64 x] w fun e w' => e = .returned (.string ⟨#[b0, b1, b2, b3]⟩) ∧ Upd none' w0 w' := by
  have hB : Buf (w.alloc (.cells (bytesV [b0, b1, b2, b3]).toArray 5)) w.heap.size [b0, b1, b2, b3] 5 := ⟨[], (0, 0), by rw [List.append_nil]; exact heap_alloc_new w _, .inl rfl⟩
  have hst := run_string_buf hB 23 5 9 Tryz.underlying23 Tryz.underlying5 Tryz.underlying9 4 4 rfl
  clear hB
  have HU := Lib.hid hU
  have e0 : ((UInt8.toNat 0 : Nat) : Int) = 0 := rfl
  have e2 : ((UInt8.toNat 2 : Nat) : Int) = 2 := rfl
  have e16 : ((UInt8.toNat 16 : Nat) : Int) = 16 := rfl
  have e32 : ((UInt8.toNat 32 : Nat) : Int) = 32 := rfl
  clear hU
  rcases hb with ⟨rfl, rfl, rfl, rfl, rfl⟩ | ⟨rfl, rfl, rfl, rfl, rfl⟩ | ⟨rfl, rfl, rfl, rfl, rfl⟩
  all_goals
    simp only [bytesV, List.map_cons, List.map_nil, e0, e2, e16, e32] at hst
    go_enter Tryz.func207, Tryz.ntmps207
    clear e0 e2 e16 e32
    go_wp2
    go_ret
    exact ⟨rfl, HU.out.alloc _⟩
set_option maxRecDepth 100000 in
set_option maxHeartbeats 1000000 in
theorem ref_sfdp (w : World) :
    Calls Tryz.prog 187 #[.int .i64 4096, .int .i64 512, .int .i64 32] w fun e w' => e = .returned (.tuple #[.string sfdpTab, .int .i64 0]) ∧ Upd none' w w' := by
  have hU : Upd none' w w := Upd.refl _ _
  go_enter Tryz.func187, Tryz.ntmps187
  go_upto_region 4 with (first | (go_at_call 206; refine (ref_power _ (by omega) _).mono ?_; rintro e w' ⟨rfl, rfl⟩) | (go_at_call 207; refine (ref_four hU _ _ _ _ _ (by unfold Four; first | exact .inl ⟨rfl, rfl, rfl, rfl, rfl⟩ | exact .inr (.inl ⟨rfl, rfl, rfl, rfl, rfl⟩) | exact .inr (.inr ⟨rfl, rfl, rfl, rfl, rfl⟩))).mono ?_; rintro e w1 ⟨rfl, hU⟩))
  rw [show ({ data := #[83, 70, 68, 80, 6, 1, 0, 255] } ++ { data := #[0, 16, 0, 0] } ++ { data := #[0, 2, 0, 0] } ++ { data := #[32, 0, 0, 0] } : ByteArray) = outB 3 from by kernel_rfl]
  have hts : (outB 3).size = 20 := rfl
  have HT : Hid (outB 3 ++ ⟨#[255, 255, 255, 255, 255, 255, 255, 255, 255, 255, 255, 255]⟩ = sfdpTab) := by
    show outB 3 ++ ⟨#[255, 255, 255, 255, 255, 255, 255, 255, 255, 255, 255, 255]⟩ = sfdpTab
    kernel_rfl
  generalize outB 3 = T at *
  go_wp2_with (go_at_call 89; refine (ref_full12 _).mono ?_; rintro e w4 ⟨rfl, hU4⟩)
  go_ret2
  exact ⟨by rw [HT.out]; rfl, hU.trans hU4 (fun _ _ f => f)⟩
end Go.Proofs.YteombggfmeilaaaGreat
