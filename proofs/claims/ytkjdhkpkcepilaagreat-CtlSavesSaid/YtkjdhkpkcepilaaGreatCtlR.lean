/- A controller with its registers and queues. -/
import Derived.Test.YtkjdhkpkcepilaaGreatCtlL
import Derived.Test.YtkjdhkpkcepilaaGreatReads
import Derived.Test.YtkjdhkpkcepilaaGreatFifo
import Derived.Test.YtkjdhkpkcepilaaGreatWireK
namespace Go.Proofs.YtkjdhkpkcepilaaGreat
open Go.RowKit
set_option maxHeartbeats 2000000 in
/-- A command that is none has no phases. -/
theorem command_none (at_ read : Int) (v : Value) (w : World) :
    Calls Tryz.prog 65 #[.agg #[.int .i64 0, .int .i64 0, .bool false, .int .i64 0, .int .i64 0, .bool false], .int .i64 at_, v, .int .i64 read] w fun e w' => e = .returned (.tuple #[.slice none 0 0, .int .i64 900]) ∧ Upd none' w w' := by
  have hof := op_of_no 0 (by decide)
  have hcells : op0.cells = #[.int .i64 0, .int .i64 0, .bool false, .int .i64 0, .int .i64 0, .bool false] := rfl
  rw [hcells] at hof
  clear hcells
  go_enter Tryz.func65, Tryz.ntmps65
  go_wp2_with (go_at_call 98; refine (hof _).mono ?_; rintro e w1 ⟨rfl, hU1⟩)
  go_ret2
  exact ⟨rfl, (((Upd.refl none' w).alloc _).trans hU1 (fun _ _ f => f)).alloc _⟩
set_option maxHeartbeats 2000000 in
theorem c_run_none {P Q : Own} {w0 w : World} {rows : List (Value × List Value)} {k b fo fi : Nat} {K : KS} (h : Ctx P ((CtlC k b fo fi K).star Q) w0 w rows) (hlost : K.lost = false) (c at_ read : Int) (hc : opIs c = false) (v : Value) :
    Calls Tryz.prog 36 #[.pointer (some ⟨k, 0, none⟩), .int .i64 c, .int .i64 at_, v, .int .i64 read] w fun e w' => e = .returned (.tuple #[.slice none 0 0, .int .i64 1100]) ∧ Upd none' w w' := by
  have hst := k_state h
  rw [hlost] at hst
  have hfi := tab_find_no c hc
  have hcells : op0.cells = #[.int .i64 0, .int .i64 0, .bool false, .int .i64 0, .int .i64 0, .bool false] := rfl
  rw [hcells] at hfi
  clear h hc hlost hcells
  go_enter Tryz.func36, Tryz.ntmps36
  go_wp2_with (first | (go_at_call 63; refine hst.mono ?_; rintro e w1 ⟨rfl, rfl⟩) | (go_at_call 64; refine (hfi _).mono ?_; rintro e w2 ⟨rfl, hU2⟩) | (go_at_call 65; refine (command_none _ _ _ _).mono ?_; rintro e w3 ⟨rfl, hU3⟩))
  go_ret2
  exact ⟨rfl, (hU2.alloc _).trans hU3 (fun _ _ f => f)⟩
/-- A ring of numbers, as an object. -/
def FifoP (g : Nat) (xs : List Int) : Own := fun w S => FifoAt w g xs ∧ ∀ j, S j ↔ j = g
theorem fifoP_ok (g : Nat) (xs : List Int) : (FifoP g xs).Ok := ⟨fun h u hT => ⟨h.1.upd u (hT g ((h.2 g).2 rfl)), h.2⟩, fun h j hj => by rw [(h.2 j).1 hj]; exact h.1.lt⟩
/-- Both queues: what goes, what came. -/
def QQ (fo fi : Nat) (xs ys : List Int) : Own := (FifoP fo xs).star (FifoP fi ys)
theorem qq_ok (fo fi : Nat) (xs ys : List Int) : (QQ fo fi xs ys).Ok := (fifoP_ok fo xs).star (fifoP_ok fi ys)
theorem Ctx.stepQ {P Q Q' : Own} {w0 w w' : World} {rows : List (Value × List Value)} (hC : Ctx P Q w0 w rows) (hQ' : Q'.Ok) (h : ∀ S, Q w S → ∃ S', Q' w' S' ∧ (∀ k, S' k → S k ∨ w.heap.size ≤ k) ∧ Upd S w w') : Ctx P Q' w0 w' rows := (hC.commQ.step hQ' h).commQ
theorem star_stepR {A B B' : Own} (hA : A.Ok) {w w' : World} (h : ∀ S, B w S → ∃ S', B' w' S' ∧ (∀ k, S' k → S k ∨ w.heap.size ≤ k) ∧ Upd S w w') (S : Nat → Prop) (hS : (A.star B) w S) : ∃ S', (A.star B') w' S' ∧ (∀ k, S' k → S k ∨ w.heap.size ≤ k) ∧ Upd S w w' := by
  obtain ⟨SA, SB, hA1, hB1, hd, e⟩ := hS
  obtain ⟨SB', hB', hs, hu⟩ := h SB hB1
  refine ⟨fun k => SA k ∨ SB' k, ⟨SA, SB', hA.frame hA1 hu (fun k ha hb => hd k ha hb), hB', fun k ha hb => ?_, fun _ => Iff.rfl⟩, fun k hk => ?_, hu.mono (fun k _ hk => (e k).2 (.inr hk))⟩
  · rcases hs k hb with h1 | h1
    · exact hd k ha h1
    · have := hA.lt hA1 k ha; omega
  · rcases hk with hk | hk
    · exact .inl ((e k).2 (.inl hk))
    · exact (hs k hk).imp (fun h => (e k).2 (.inr h)) id
theorem star_stepL {A A' B : Own} (hB : B.Ok) {w w' : World} (h : ∀ S, A w S → ∃ S', A' w' S' ∧ (∀ k, S' k → S k ∨ w.heap.size ≤ k) ∧ Upd S w w') (S : Nat → Prop) (hS : (A.star B) w S) : ∃ S', (A'.star B) w' S' ∧ (∀ k, S' k → S k ∨ w.heap.size ≤ k) ∧ Upd S w w' := by
  obtain ⟨SA, SB, hA1, hB1, hd, e⟩ := hS
  obtain ⟨SA', hA', hs, hu⟩ := h SA hA1
  refine ⟨fun k => SA' k ∨ SB k, ⟨SA', SB, hA', hB.frame hB1 hu (fun k hb ha => hd k ha hb), fun k ha hb => ?_, fun _ => Iff.rfl⟩, fun k hk => ?_, hu.mono (fun k _ hk => (e k).2 (.inl hk))⟩
  · rcases hs k ha with h1 | h1
    · exact hd k h1 hb
    · have := hB.lt hB1 k hb; omega
  · rcases hk with hk | hk
    · exact (hs k hk).imp (fun h => (e k).2 (.inl h)) id
    · exact .inl ((e k).2 (.inr hk))
theorem q_out {P : Own} {w0 w : World} {rows : List (Value × List Value)} {k b fo fi : Nat} {K : KS} {xs ys : List Int} (h : Ctx P ((CtlC k b fo fi K).star (QQ fo fi xs ys)) w0 w rows) : FifoAt w fo xs := by
  obtain ⟨S, ⟨A, B, hA, ⟨C, D, hC, ⟨E, F, hE, hF, -, -⟩, -, -⟩, -, -⟩, -, -⟩ := h.all
  exact hE.1
theorem q_in {P : Own} {w0 w : World} {rows : List (Value × List Value)} {k b fo fi : Nat} {K : KS} {xs ys : List Int} (h : Ctx P ((CtlC k b fo fi K).star (QQ fo fi xs ys)) w0 w rows) : FifoAt w fi ys := by
  obtain ⟨S, ⟨A, B, hA, ⟨C, D, hC, ⟨E, F, hE, hF, -, -⟩, -, -⟩, -, -⟩, -, -⟩ := h.all
  exact hF.1
/-- The queue that goes has turned. -/
theorem q_out' {P : Own} {w0 w w' : World} {rows : List (Value × List Value)} {k b fo fi : Nat} {K : KS} {xs xs' ys : List Int} (h : Ctx P ((CtlC k b fo fi K).star (QQ fo fi xs ys)) w0 w rows) (hf : FifoAt w' fo xs') (hu : Upd (fun j => j = fo) w w') : Ctx P ((CtlC k b fo fi K).star (QQ fo fi xs' ys)) w0 w' rows := by
  refine h.stepQ ((ctlC_ok _ _ _ _ _).star (qq_ok _ _ _ _)) (star_stepR (ctlC_ok _ _ _ _ _) (star_stepL (fifoP_ok _ _) ?_))
  rintro S ⟨h1, h2⟩
  exact ⟨S, ⟨hf, h2⟩, fun j hj => .inl hj, hu.mono (fun j _ hj => (h2 j).2 hj)⟩
theorem q_in' {P : Own} {w0 w w' : World} {rows : List (Value × List Value)} {k b fo fi : Nat} {K : KS} {xs ys ys' : List Int} (h : Ctx P ((CtlC k b fo fi K).star (QQ fo fi xs ys)) w0 w rows) (hf : FifoAt w' fi ys') (hu : Upd (fun j => j = fi) w w') : Ctx P ((CtlC k b fo fi K).star (QQ fo fi xs ys')) w0 w' rows := by
  refine h.stepQ ((ctlC_ok _ _ _ _ _).star (qq_ok _ _ _ _)) (star_stepR (ctlC_ok _ _ _ _ _) (star_stepR (fifoP_ok _ _) ?_))
  rintro S ⟨h1, h2⟩
  exact ⟨S, ⟨hf, h2⟩, fun j hj => .inl hj, hu.mono (fun j _ hj => (h2 j).2 hj)⟩
/-- A new queue in the place of the one that goes. -/
theorem q_fresh {P : Own} {w0 w w' : World} {rows : List (Value × List Value)} {k b fo fo2 fi : Nat} {K : KS} {xs ys : List Int} (h : Ctx P ((CtlC k b fo fi K).star (QQ fo fi xs ys)) w0 w rows) (hu : Upd none' w w') (hf : FifoAt w' fo2 []) (hn : w.heap.size ≤ fo2) : Ctx P ((CtlC k b fo2 fi K).star (QQ fo2 fi [] ys)) w0 (w'.setCell ⟨k, 4, none⟩ (.pointer (some ⟨fo2, 0, none⟩))) rows := by
  refine h.stepQ ((ctlC_ok _ _ _ _ _).star (qq_ok _ _ _ _)) ?_
  rintro S ⟨A, B, ⟨h1, h2⟩, ⟨C, D, hC, hD, hd2, e2⟩, hd, e⟩
  have hk : k < w.heap.size := h1.lt
  have hu2 : Upd (fun j => j = k) w (w'.setCell ⟨k, 4, none⟩ (.pointer (some ⟨fo2, 0, none⟩))) := (hu.mono (fun _ _ f => f.elim)).setCell _ _ (fun _ => rfl)
  have hu3 : Upd (fun j => j = k) w' (w'.setCell ⟨k, 4, none⟩ (.pointer (some ⟨fo2, 0, none⟩))) := (Upd.refl _ _).setCell _ _ (fun _ => rfl)
  have hsz := hu.size
  refine ⟨fun j => j = k ∨ j = fo2 ∨ D j, ⟨fun j => j = k, fun j => j = fo2 ∨ D j, ⟨(h1.upd hu (fun f => f)).set 4 _, fun _ => Iff.rfl⟩, ⟨fun j => j = fo2, D, ⟨hf.upd hu3 (by omega), fun _ => Iff.rfl⟩, (fifoP_ok _ _).frame hD hu2 (fun j hj he => hd k ((h2 k).2 rfl) (by subst he; exact (e2 j).2 (.inr hj))), ?_, fun _ => Iff.rfl⟩, ?_, fun _ => Iff.rfl⟩, ?_, hu2.mono (fun j _ hj => (e j).2 (.inl ((h2 j).2 hj)))⟩
  · rintro j rfl hj
    have := (fifoP_ok fi ys).lt hD _ hj
    omega
  · rintro j rfl hj
    rcases hj with rfl | hj
    · omega
    · exact hd _ ((h2 _).2 rfl) ((e2 _).2 (.inr hj))
  · rintro j (rfl | rfl | hj)
    · exact .inl ((e _).2 (.inl ((h2 _).2 rfl)))
    · exact .inr hn
    · exact .inl ((e _).2 (.inr ((e2 _).2 (.inr hj))))
set_option maxHeartbeats 2000000 in
/-- A new controller, with its queues. -/
theorem q_new {w0 w : World} {b : Nat} {s : St} {N : Int} {rows : List (Value × List Value)} (hC : Ctx (ChipP b s N) .emp w0 w rows) :
    Calls Tryz.prog 28 #[.pointer (some ⟨b, 0, none⟩)] w fun e w' => ∃ k fo fi, e = .returned (.tuple #[.pointer (some ⟨k, 0, none⟩), .int .i64 0]) ∧ Ctx (ChipP b s N) ((CtlC k b fo fi KS.new).star (QQ fo fi [] [])) w0 w' rows := by
  have HC := Lib.hid hC
  clear hC
  go_enter Tryz.func28, Tryz.ntmps28
  go_wp2_with (first | (go_at_call 58; refine (fifo_new_ok _).mono ?_; rintro e w2 ⟨fi, rfl, hs2, hF2, hU2⟩; have hF := Lib.hid hU1) | (go_at_call 58; refine (fifo_new_ok _).mono ?_; rintro e w1 ⟨fo, rfl, hs1, hF1, hU1⟩))
  go_ret2
  have h1 := (HC.out.commQ.step (P' := FifoP fo []) (fifoP_ok _ _) (w' := w1) (fun S hS => ⟨fun j => j = fo, ⟨hF1, fun _ => Iff.rfl⟩, fun j hj => by subst hj; exact .inr hs1, hU1.mono (fun _ _ f => f.elim)⟩)).commQ
  have h2 := h1.add2 (fifoP_ok fi []) hU2 (B := fun j => j = fi) ⟨hF2, fun _ => Iff.rfl⟩ (fun j hj => by omega)
  have h3 := h2.add2 (ctlC_ok _ _ _ _ _) ((Upd.refl none' w2).alloc _) (B := fun j => j = w2.heap.size) ⟨Blk.new w2 (KS.new.cells b fo fi) _, fun _ => Iff.rfl⟩ (fun j hj => by omega)
  refine ⟨w2.heap.size, fo, fi, rfl, h3.mapQ ((ctlC_ok _ _ _ _ _).star (qq_ok _ _ _ _)) ?_⟩
  rintro S ⟨A, B, hA, ⟨C, D, hC, hD, hd2, e2⟩, hd, e⟩
  exact ⟨A, B, hA, ⟨D, C, hD, hC, fun j h1 h2 => hd2 j h2 h1, fun j => (e2 j).trans Or.comm⟩, hd, e⟩
theorem run_in (xs : List Int) : ∀ d : Drv, d.clocks + (xs.length : Int) ≤ d.most → d.run xs = ({ d with s := (runC d.s xs).1, clocks := d.clocks + (xs.length : Int) }, (runC d.s xs).2, true) := by
  induction xs with
  | nil =>
    intro d _
    show (d, [], true) = ({ d with s := d.s, clocks := d.clocks + 0 }, [], true)
    rw [Int.add_zero]
  | cons x xs ih =>
    intro d h
    rw [List.length_cons] at h
    have hf : d.full = false := decide_eq_false (by omega)
    simp only [Drv.run, hf, Bool.false_eq_true, if_false]
    rw [ih (d.clk x) (by show d.clocks + 1 + (xs.length : Int) ≤ d.most; omega), runC_cons, List.length_cons]
    show ((⟨_, _, d.clocks + 1 + _, _⟩ : Drv), _, _) = _
    rw [show d.clocks + 1 + (xs.length : Int) = d.clocks + ((xs.length + 1 : Nat) : Int) by omega]
    rfl
theorem gets_in (l : Int) (n : Nat) : ∀ d : Drv, d.clocks + (((8 / l).toNat * n : Nat) : Int) ≤ d.most → d.gets l n = ({ d with s := (runC d.s (List.replicate ((8 / l).toNat * n) 15)).1, out := d.out ++ groups l n (runC d.s (List.replicate ((8 / l).toNat * n) 15)).2, clocks := d.clocks + (((8 / l).toNat * n : Nat) : Int) }, true) := by
  induction n with
  | zero =>
    intro d _
    show (d, true) = ({ d with s := (runC d.s (List.replicate 0 15)).1, out := d.out ++ [], clocks := d.clocks + 0 }, true)
    rw [Int.add_zero, List.append_nil]
    rfl
  | succ n ih =>
    intro d h
    rw [Nat.mul_succ] at h
    have hg : d.get l = ({ d with s := (runC d.s (List.replicate (8 / l).toNat 15)).1, out := d.out ++ [inL l (runC d.s (List.replicate (8 / l).toNat 15)).2], clocks := d.clocks + (((8 / l).toNat : Nat) : Int) }, true) := by
      unfold Drv.get
      rw [run_in _ d (by rw [List.length_replicate]; omega), List.length_replicate]
      rfl
    rw [Drv.gets, hg]
    simp only [if_true]
    rw [ih _ (by dsimp only; omega)]
    dsimp only
    have hsp : List.replicate ((8 / l).toNat * (n + 1)) (15 : Int) = List.replicate (8 / l).toNat 15 ++ List.replicate ((8 / l).toNat * n) 15 := by
      rw [List.replicate_append_replicate]; congr 1; rw [Nat.mul_succ]; omega
    have hlen : (runC d.s (List.replicate (8 / l).toNat 15)).2.length = (8 / l).toNat := by rw [runC_len, List.length_replicate]
    rw [hsp, runC_app, groups]
    dsimp only
    rw [List.take_append_of_le_length (by omega), List.take_of_length_le (by omega), List.drop_append_of_le_length (by omega), List.drop_of_length_le (by omega), List.nil_append, List.append_assoc]
    have e : d.clocks + (((8 / l).toNat : Nat) : Int) + (((8 / l).toNat * n : Nat) : Int) = d.clocks + (((8 / l).toNat * (n + 1) : Nat) : Int) := by rw [Nat.mul_succ]; omega
    rw [e]
    rfl
theorem phase_in (d : Drv) (p : Ph) (h : d.clocks + (p.ins.length : Int) ≤ d.most) : d.phase p = ({ d with s := (runC d.s p.ins).1, out := d.out ++ groups p.lanes p.read.toNat ((runC d.s p.ins).2.drop p.says.length), clocks := d.clocks + (p.ins.length : Int) }, true) := by
  have hil : p.ins.length = p.says.length + (8 / p.lanes).toNat * p.read.toNat := by unfold Ph.ins; rw [List.length_append, List.length_replicate]
  rw [hil] at h
  unfold Drv.phase
  rw [run_in _ d (by omega)]
  simp only [if_true]
  rw [gets_in _ _ _ (by dsimp only; omega)]
  unfold Ph.ins
  dsimp only
  rw [runC_app]
  dsimp only
  rw [List.drop_append_of_le_length (by rw [runC_len]; exact Nat.le_refl _), List.drop_of_length_le (by rw [runC_len]; exact Nat.le_refl _), List.nil_append, List.length_append, List.length_replicate]
  rw [show d.clocks + (p.says.length : Int) + (((8 / p.lanes).toNat * p.read.toNat : Nat) : Int) = d.clocks + ((p.says.length + (8 / p.lanes).toNat * p.read.toNat : Nat) : Int) by omega]
theorem phases_in (ps : List Ph) : ∀ d : Drv, d.clocks + ((phsIns ps).length : Int) ≤ d.most → d.phases ps = ({ d with s := (runC d.s (phsIns ps)).1, out := d.out ++ phsOuts ps (runC d.s (phsIns ps)).2, clocks := d.clocks + ((phsIns ps).length : Int) }, true) := by
  induction ps with
  | nil =>
    intro d _
    show (d, true) = ({ d with s := d.s, out := d.out ++ [], clocks := d.clocks + 0 }, true)
    rw [Int.add_zero, List.append_nil]
  | cons p ps ih =>
    intro d h
    have hl : (runC d.s p.ins).2.length = p.ins.length := runC_len _ _
    have hil : p.ins.length = p.says.length + (8 / p.lanes).toNat * p.read.toNat := by unfold Ph.ins; rw [List.length_append, List.length_replicate]
    have h' : d.clocks + (p.ins.length : Int) + ((phsIns ps).length : Int) ≤ d.most := by
      unfold phsIns at h ⊢
      rw [List.flatMap_cons, List.length_append] at h
      omega
    rw [Drv.phases, phase_in d p (by omega)]
    simp only [if_true]
    rw [ih _ (by dsimp only; omega), phsOuts]
    unfold phsIns
    rw [List.flatMap_cons, runC_app]
    dsimp only
    rw [List.drop_append_of_le_length (by omega), List.drop_append_of_le_length (by omega), List.drop_of_length_le (by omega : (runC d.s p.ins).2.length ≤ p.ins.length), List.nil_append, groups_take _ _ _ _ (by rw [List.length_drop]; omega), List.append_assoc, List.length_append]
    rw [show d.clocks + (p.ins.length : Int) + ((List.flatMap Ph.ins ps).length : Int) = d.clocks + ((p.ins.length + (List.flatMap Ph.ins ps).length : Nat) : Int) by omega]
/-- A bound that is wide enough changes nothing. -/
theorem phases_lift {s : St} {ps : List Ph} {d : Drv} (h : Drv.phases ⟨s, [], 0, -1⟩ ps = (d, true)) (L : Int) (hL : d.clocks ≤ L) : Drv.phases ⟨s, [], 0, L⟩ ps = ({ d with most := L }, true) := by
  rw [phases_free ps ⟨s, [], 0, -1⟩ (show (-1 : Int) < 0 by decide)] at h
  have hd := congrArg Prod.fst h
  dsimp only at hd
  subst hd
  dsimp only at hL
  rw [phases_in ps ⟨s, [], 0, L⟩ (by dsimp only; omega)]
theorem phases_lift' {s : St} {ps : List Ph} {d : Drv} (h : Drv.phases ⟨s, [], 0, -1⟩ ps = (d, true)) : Drv.phases ⟨s, [], 0, -1⟩ ps = ({ d with most := -1 }, true) := by
  rw [phases_free ps ⟨s, [], 0, -1⟩ (show (-1 : Int) < 0 by decide)] at h
  have hd := congrArg Prod.fst h
  dsimp only at hd
  subst hd
  rw [phases_free ps ⟨s, [], 0, -1⟩ (show (-1 : Int) < 0 by decide)]
end Go.Proofs.YtkjdhkpkcepilaaGreat
