/- A controller with its registers and queues. · A controller at rest, with its registers and queues: its calls. · Registers that are read; what is run by registers; a controller that is none. -/
import Derived.Test.YtepnljeojlbliaaGreatCtlL
import Derived.Test.YtepnljeojlbliaaGreatReads
import Derived.Test.YtepnljeojlbliaaGreatFifo
import Derived.Test.YtepnljeojlbliaaGreatWireK
namespace Go.Proofs.YtepnljeojlbliaaGreat
open Go.RowKit
set_option maxHeartbeats 2000000 in
/-- A command that is none has no phases. -/
theorem command_none (at_ read : Int) (v : Value) (w : World) :
    Calls Tryz.prog 126 #[.agg #[.int .i64 0, .int .i64 0, .bool false, .int .i64 0, .int .i64 0, .bool false], .int .i64 at_, v, .int .i64 read] w fun e w' => e = .returned (.tuple #[.slice none 0 0, .int .i64 900]) ∧ Upd none' w w' := by
  have hof := op_of_no 0 (by decide)
  have hcells : op0.cells = #[.int .i64 0, .int .i64 0, .bool false, .int .i64 0, .int .i64 0, .bool false] := rfl
  rw [hcells] at hof
  clear hcells
  go_enter Tryz.func126, Tryz.ntmps126
  go_wp2_with (go_at_call 179; refine (hof _).mono ?_; rintro e w1 ⟨rfl, hU1⟩)
  go_ret2
  exact ⟨rfl, (((Upd.refl none' w).alloc _).trans hU1 (fun _ _ f => f)).alloc _⟩
set_option maxHeartbeats 2000000 in
theorem c_run_none {P Q : Own} {w0 w : World} {rows : List (Value × List Value)} {k b fo fi : Nat} {K : KS} (h : Ctx P ((CtlC k b fo fi K).star Q) w0 w rows) (hlost : K.lost = false) (c at_ read : Int) (hc : opIs c = false) (v : Value) :
    Calls Tryz.prog 50 #[.pointer (some ⟨k, 0, none⟩), .int .i64 c, .int .i64 at_, v, .int .i64 read] w fun e w' => e = .returned (.tuple #[.slice none 0 0, .int .i64 1100]) ∧ Upd none' w w' := by
  have hst := k_state h
  rw [hlost] at hst
  have hfi := tab_find_no c hc
  have hcells : op0.cells = #[.int .i64 0, .int .i64 0, .bool false, .int .i64 0, .int .i64 0, .bool false] := rfl
  rw [hcells] at hfi
  clear h hc hlost hcells
  go_enter Tryz.func50, Tryz.ntmps50
  go_wp2_with (first | (go_at_call 124; refine hst.mono ?_; rintro e w1 ⟨rfl, rfl⟩) | (go_at_call 125; refine (hfi _).mono ?_; rintro e w2 ⟨rfl, hU2⟩) | (go_at_call 126; refine (command_none _ _ _ _).mono ?_; rintro e w3 ⟨rfl, hU3⟩))
  go_ret2
  exact ⟨rfl, (hU2.alloc _).trans hU3 (fun _ _ f => f)⟩
/-- A ring of numbers, as an object. -/
def FifoP (g : Nat) (xs : List Int) : Own := fun w S => FifoAt w g xs ∧ ∀ j, S j ↔ j = g
theorem fifoP_ok (g : Nat) (xs : List Int) : (FifoP g xs).Ok := ⟨fun h u hT => ⟨h.1.upd u (hT g ((h.2 g).2 rfl)), h.2⟩, fun h j hj => by rw [(h.2 j).1 hj]; exact h.1.lt⟩
/-- Both queues: what goes, what came. -/
def QQ (fo fi : Nat) (xs ys : List Int) : Own := (FifoP fo xs).star (FifoP fi ys)
theorem qq_ok (fo fi : Nat) (xs ys : List Int) : (QQ fo fi xs ys).Ok := (fifoP_ok fo xs).star (fifoP_ok fi ys)
theorem Ctx.stepQ {P Q Q' : Own} {w0 w w' : World} {rows : List (Value × List Value)} (hC : Ctx P Q w0 w rows) (hQ' : Q'.Ok) (h : ∀ S, Q w S → ∃ S', Q' w' S' ∧ (∀ k, S' k → S k ∨ w.heap.size ≤ k) ∧ Upd S w w') : Ctx P Q' w0 w' rows := (hC.commQ.step hQ' h).commQ
theorem star_stepR {A B B' : Own} (hA : A.Ok) {w w' : World} (h : ∀ S, B w S → ∃ S', B' w' S' ∧ (∀ k, S' k → S k ∨ w.heap.size ≤ k) ∧ Upd S w w') (S : Nat → Prop) (hS : (A.star B) w S) : ∃ S', (A.star B') w' S' ∧ (∀ k, S' k → S k ∨ w.heap.size ≤ k) ∧ Upd S w w' := by
  obtain ⟨SA, SB, hA1, hB1, hd, e⟩ := hS
  obtain ⟨SB', hB', hs, hu⟩ := h SB hB1
  refine ⟨fun k => SA k ∨ SB' k, ⟨SA, SB', hA.frame hA1 hu (fun k ha hb => hd k ha hb), hB', fun k ha hb => ?_, fun _ => Iff.rfl⟩, fun k hk => ?_, hu.mono (fun k _ hk => (e k).2 (.inr hk))⟩
  · rcases hs k hb with h1 | h1
    · exact hd k ha h1
    · have := hA.lt hA1 k ha; omega
  · rcases hk with hk | hk
    · exact .inl ((e k).2 (.inl hk))
    · exact (hs k hk).imp (fun h => (e k).2 (.inr h)) id
theorem star_stepL {A A' B : Own} (hB : B.Ok) {w w' : World} (h : ∀ S, A w S → ∃ S', A' w' S' ∧ (∀ k, S' k → S k ∨ w.heap.size ≤ k) ∧ Upd S w w') (S : Nat → Prop) (hS : (A.star B) w S) : ∃ S', (A'.star B) w' S' ∧ (∀ k, S' k → S k ∨ w.heap.size ≤ k) ∧ Upd S w w' := by
  obtain ⟨SA, SB, hA1, hB1, hd, e⟩ := hS
  obtain ⟨SA', hA', hs, hu⟩ := h SA hA1
  refine ⟨fun k => SA' k ∨ SB k, ⟨SA', SB, hA', hB.frame hB1 hu (fun k hb ha => hd k ha hb), fun k ha hb => ?_, fun _ => Iff.rfl⟩, fun k hk => ?_, hu.mono (fun k _ hk => (e k).2 (.inl hk))⟩
  · rcases hs k ha with h1 | h1
    · exact hd k h1 hb
    · have := hB.lt hB1 k hb; omega
  · rcases hk with hk | hk
    · exact (hs k hk).imp (fun h => (e k).2 (.inl h)) id
    · exact .inl ((e k).2 (.inr hk))
theorem q_out {P : Own} {w0 w : World} {rows : List (Value × List Value)} {k b fo fi : Nat} {K : KS} {xs ys : List Int} (h : Ctx P ((CtlC k b fo fi K).star (QQ fo fi xs ys)) w0 w rows) : FifoAt w fo xs := by
  obtain ⟨S, ⟨A, B, hA, ⟨C, D, hC, ⟨E, F, hE, hF, -, -⟩, -, -⟩, -, -⟩, -, -⟩ := h.all
  exact hE.1
theorem q_in {P : Own} {w0 w : World} {rows : List (Value × List Value)} {k b fo fi : Nat} {K : KS} {xs ys : List Int} (h : Ctx P ((CtlC k b fo fi K).star (QQ fo fi xs ys)) w0 w rows) : FifoAt w fi ys := by
  obtain ⟨S, ⟨A, B, hA, ⟨C, D, hC, ⟨E, F, hE, hF, -, -⟩, -, -⟩, -, -⟩, -, -⟩ := h.all
  exact hF.1
/-- The queue that goes has turned. -/
theorem q_out' {P : Own} {w0 w w' : World} {rows : List (Value × List Value)} {k b fo fi : Nat} {K : KS} {xs xs' ys : List Int} (h : Ctx P ((CtlC k b fo fi K).star (QQ fo fi xs ys)) w0 w rows) (hf : FifoAt w' fo xs') (hu : Upd (fun j => j = fo) w w') : Ctx P ((CtlC k b fo fi K).star (QQ fo fi xs' ys)) w0 w' rows := by
  refine h.stepQ ((ctlC_ok _ _ _ _ _).star (qq_ok _ _ _ _)) (star_stepR (ctlC_ok _ _ _ _ _) (star_stepL (fifoP_ok _ _) ?_))
  rintro S ⟨h1, h2⟩
  exact ⟨S, ⟨hf, h2⟩, fun j hj => .inl hj, hu.mono (fun j _ hj => (h2 j).2 hj)⟩
theorem q_in' {P : Own} {w0 w w' : World} {rows : List (Value × List Value)} {k b fo fi : Nat} {K : KS} {xs ys ys' : List Int} (h : Ctx P ((CtlC k b fo fi K).star (QQ fo fi xs ys)) w0 w rows) (hf : FifoAt w' fi ys') (hu : Upd (fun j => j = fi) w w') : Ctx P ((CtlC k b fo fi K).star (QQ fo fi xs ys')) w0 w' rows := by
  refine h.stepQ ((ctlC_ok _ _ _ _ _).star (qq_ok _ _ _ _)) (star_stepR (ctlC_ok _ _ _ _ _) (star_stepR (fifoP_ok _ _) ?_))
  rintro S ⟨h1, h2⟩
  exact ⟨S, ⟨hf, h2⟩, fun j hj => .inl hj, hu.mono (fun j _ hj => (h2 j).2 hj)⟩
/-- A new queue in the place of the one that goes. -/
theorem q_fresh {P : Own} {w0 w w' : World} {rows : List (Value × List Value)} {k b fo fo2 fi : Nat} {K : KS} {xs ys : List Int} (h : Ctx P ((CtlC k b fo fi K).star (QQ fo fi xs ys)) w0 w rows) (hu : Upd none' w w') (hf : FifoAt w' fo2 []) (hn : w.heap.size ≤ fo2) : Ctx P ((CtlC k b fo2 fi K).star (QQ fo2 fi [] ys)) w0 (w'.setCell ⟨k, 4, none⟩ (.pointer (some ⟨fo2, 0, none⟩))) rows := by
  refine h.stepQ ((ctlC_ok _ _ _ _ _).star (qq_ok _ _ _ _)) ?_
  rintro S ⟨A, B, ⟨h1, h2⟩, ⟨C, D, hC, hD, hd2, e2⟩, hd, e⟩
  have hk : k < w.heap.size := h1.lt
  have hu2 : Upd (fun j => j = k) w (w'.setCell ⟨k, 4, none⟩ (.pointer (some ⟨fo2, 0, none⟩))) := (hu.mono (fun _ _ f => f.elim)).setCell _ _ (fun _ => rfl)
  have hu3 : Upd (fun j => j = k) w' (w'.setCell ⟨k, 4, none⟩ (.pointer (some ⟨fo2, 0, none⟩))) := (Upd.refl _ _).setCell _ _ (fun _ => rfl)
  have hsz := hu.size
  refine ⟨fun j => j = k ∨ j = fo2 ∨ D j, ⟨fun j => j = k, fun j => j = fo2 ∨ D j, ⟨(h1.upd hu (fun f => f)).set 4 _, fun _ => Iff.rfl⟩, ⟨fun j => j = fo2, D, ⟨hf.upd hu3 (by omega), fun _ => Iff.rfl⟩, (fifoP_ok _ _).frame hD hu2 (fun j hj he => hd k ((h2 k).2 rfl) (by subst he; exact (e2 j).2 (.inr hj))), ?_, fun _ => Iff.rfl⟩, ?_, fun _ => Iff.rfl⟩, ?_, hu2.mono (fun j _ hj => (e j).2 (.inl ((h2 j).2 hj)))⟩
  · rintro j rfl hj
    have := (fifoP_ok fi ys).lt hD _ hj
    omega
  · rintro j rfl hj
    rcases hj with rfl | hj
    · omega
    · exact hd _ ((h2 _).2 rfl) ((e2 _).2 (.inr hj))
  · rintro j (rfl | rfl | hj)
    · exact .inl ((e _).2 (.inl ((h2 _).2 rfl)))
    · exact .inr hn
    · exact .inl ((e _).2 (.inr ((e2 _).2 (.inr hj))))
set_option maxHeartbeats 2000000 in
/-- A new controller, with its queues. -/
theorem q_new {w0 w : World} {b : Nat} {s : St} {N : Int} {rows : List (Value × List Value)} (hC : Ctx (ChipP b s N) .emp w0 w rows) :
    Calls Tryz.prog 49 #[.pointer (some ⟨b, 0, none⟩)] w fun e w' => ∃ k fo fi, e = .returned (.tuple #[.pointer (some ⟨k, 0, none⟩), .int .i64 0]) ∧ Ctx (ChipP b s N) ((CtlC k b fo fi KS.new).star (QQ fo fi [] [])) w0 w' rows := by
  have HC := Lib.hid hC
  clear hC
  go_enter Tryz.func49, Tryz.ntmps49
  go_wp2_with (first | (go_at_call 123; refine (fifo_new_ok _).mono ?_; rintro e w2 ⟨fi, rfl, hs2, hF2, hU2⟩; have hF := Lib.hid hU1) | (go_at_call 123; refine (fifo_new_ok _).mono ?_; rintro e w1 ⟨fo, rfl, hs1, hF1, hU1⟩))
  go_ret2
  have h1 := (HC.out.commQ.step (P' := FifoP fo []) (fifoP_ok _ _) (w' := w1) (fun S hS => ⟨fun j => j = fo, ⟨hF1, fun _ => Iff.rfl⟩, fun j hj => by subst hj; exact .inr hs1, hU1.mono (fun _ _ f => f.elim)⟩)).commQ
  have h2 := h1.add2 (fifoP_ok fi []) hU2 (B := fun j => j = fi) ⟨hF2, fun _ => Iff.rfl⟩ (fun j hj => by omega)
  have h3 := h2.add2 (ctlC_ok _ _ _ _ _) ((Upd.refl none' w2).alloc _) (B := fun j => j = w2.heap.size) ⟨Blk.new w2 (KS.new.cells b fo fi) _, fun _ => Iff.rfl⟩ (fun j hj => by omega)
  refine ⟨w2.heap.size, fo, fi, rfl, h3.mapQ ((ctlC_ok _ _ _ _ _).star (qq_ok _ _ _ _)) ?_⟩
  rintro S ⟨A, B, hA, ⟨C, D, hC, hD, hd2, e2⟩, hd, e⟩
  exact ⟨A, B, hA, ⟨D, C, hD, hC, fun j h1 h2 => hd2 j h2 h1, fun j => (e2 j).trans Or.comm⟩, hd, e⟩
theorem run_in (xs : List Int) : ∀ d : Drv, d.clocks + (xs.length : Int) ≤ d.most → d.run xs = ({ d with s := (runC d.s xs).1, clocks := d.clocks + (xs.length : Int) }, (runC d.s xs).2, true) := by
  induction xs with
  | nil =>
    intro d _
    show (d, [], true) = ({ d with s := d.s, clocks := d.clocks + 0 }, [], true)
    rw [Int.add_zero]
  | cons x xs ih =>
    intro d h
    rw [List.length_cons] at h
    have hf : d.full = false := decide_eq_false (by omega)
    simp only [Drv.run, hf, Bool.false_eq_true, if_false]
    rw [ih (d.clk x) (by show d.clocks + 1 + (xs.length : Int) ≤ d.most; omega), runC_cons, List.length_cons]
    show ((⟨_, _, d.clocks + 1 + _, _⟩ : Drv), _, _) = _
    rw [show d.clocks + 1 + (xs.length : Int) = d.clocks + ((xs.length + 1 : Nat) : Int) by omega]
    rfl
theorem gets_in (l : Int) (n : Nat) : ∀ d : Drv, d.clocks + (((8 / l).toNat * n : Nat) : Int) ≤ d.most → d.gets l n = ({ d with s := (runC d.s (List.replicate ((8 / l).toNat * n) 15)).1, out := d.out ++ groups l n (runC d.s (List.replicate ((8 / l).toNat * n) 15)).2, clocks := d.clocks + (((8 / l).toNat * n : Nat) : Int) }, true) := by
  induction n with
  | zero =>
    intro d _
    show (d, true) = ({ d with s := (runC d.s (List.replicate 0 15)).1, out := d.out ++ [], clocks := d.clocks + 0 }, true)
    rw [Int.add_zero, List.append_nil]
    rfl
  | succ n ih =>
    intro d h
    rw [Nat.mul_succ] at h
    have hg : d.get l = ({ d with s := (runC d.s (List.replicate (8 / l).toNat 15)).1, out := d.out ++ [inL l (runC d.s (List.replicate (8 / l).toNat 15)).2], clocks := d.clocks + (((8 / l).toNat : Nat) : Int) }, true) := by
      unfold Drv.get
      rw [run_in _ d (by rw [List.length_replicate]; omega), List.length_replicate]
      rfl
    rw [Drv.gets, hg]
    simp only [if_true]
    rw [ih _ (by dsimp only; omega)]
    dsimp only
    have hsp : List.replicate ((8 / l).toNat * (n + 1)) (15 : Int) = List.replicate (8 / l).toNat 15 ++ List.replicate ((8 / l).toNat * n) 15 := by
      rw [List.replicate_append_replicate]; congr 1; rw [Nat.mul_succ]; omega
    have hlen : (runC d.s (List.replicate (8 / l).toNat 15)).2.length = (8 / l).toNat := by rw [runC_len, List.length_replicate]
    rw [hsp, runC_app, groups]
    dsimp only
    rw [List.take_append_of_le_length (by omega), List.take_of_length_le (by omega), List.drop_append_of_le_length (by omega), List.drop_of_length_le (by omega), List.nil_append, List.append_assoc]
    have e : d.clocks + (((8 / l).toNat : Nat) : Int) + (((8 / l).toNat * n : Nat) : Int) = d.clocks + (((8 / l).toNat * (n + 1) : Nat) : Int) := by rw [Nat.mul_succ]; omega
    rw [e]
    rfl
theorem phase_in (d : Drv) (p : Ph) (h : d.clocks + (p.ins.length : Int) ≤ d.most) : d.phase p = ({ d with s := (runC d.s p.ins).1, out := d.out ++ groups p.lanes p.read.toNat ((runC d.s p.ins).2.drop p.says.length), clocks := d.clocks + (p.ins.length : Int) }, true) := by
  have hil : p.ins.length = p.says.length + (8 / p.lanes).toNat * p.read.toNat := by unfold Ph.ins; rw [List.length_append, List.length_replicate]
  rw [hil] at h
  unfold Drv.phase
  rw [run_in _ d (by omega)]
  simp only [if_true]
  rw [gets_in _ _ _ (by dsimp only; omega)]
  unfold Ph.ins
  dsimp only
  rw [runC_app]
  dsimp only
  rw [List.drop_append_of_le_length (by rw [runC_len]; exact Nat.le_refl _), List.drop_of_length_le (by rw [runC_len]; exact Nat.le_refl _), List.nil_append, List.length_append, List.length_replicate]
  rw [show d.clocks + (p.says.length : Int) + (((8 / p.lanes).toNat * p.read.toNat : Nat) : Int) = d.clocks + ((p.says.length + (8 / p.lanes).toNat * p.read.toNat : Nat) : Int) by omega]
theorem phases_in (ps : List Ph) : ∀ d : Drv, d.clocks + ((phsIns ps).length : Int) ≤ d.most → d.phases ps = ({ d with s := (runC d.s (phsIns ps)).1, out := d.out ++ phsOuts ps (runC d.s (phsIns ps)).2, clocks := d.clocks + ((phsIns ps).length : Int) }, true) := by
  induction ps with
  | nil =>
    intro d _
    show (d, true) = ({ d with s := d.s, out := d.out ++ [], clocks := d.clocks + 0 }, true)
    rw [Int.add_zero, List.append_nil]
  | cons p ps ih =>
    intro d h
    have hl : (runC d.s p.ins).2.length = p.ins.length := runC_len _ _
    have hil : p.ins.length = p.says.length + (8 / p.lanes).toNat * p.read.toNat := by unfold Ph.ins; rw [List.length_append, List.length_replicate]
    have h' : d.clocks + (p.ins.length : Int) + ((phsIns ps).length : Int) ≤ d.most := by
      unfold phsIns at h ⊢
      rw [List.flatMap_cons, List.length_append] at h
      omega
    rw [Drv.phases, phase_in d p (by omega)]
    simp only [if_true]
    rw [ih _ (by dsimp only; omega), phsOuts]
    unfold phsIns
    rw [List.flatMap_cons, runC_app]
    dsimp only
    rw [List.drop_append_of_le_length (by omega), List.drop_append_of_le_length (by omega), List.drop_of_length_le (by omega : (runC d.s p.ins).2.length ≤ p.ins.length), List.nil_append, groups_take _ _ _ _ (by rw [List.length_drop]; omega), List.append_assoc, List.length_append]
    rw [show d.clocks + (p.ins.length : Int) + ((List.flatMap Ph.ins ps).length : Int) = d.clocks + ((p.ins.length + (List.flatMap Ph.ins ps).length : Nat) : Int) by omega]
/-- A bound that is wide enough changes nothing. -/
theorem phases_lift {s : St} {ps : List Ph} {d : Drv} (h : Drv.phases ⟨s, [], 0, -1⟩ ps = (d, true)) (L : Int) (hL : d.clocks ≤ L) : Drv.phases ⟨s, [], 0, L⟩ ps = ({ d with most := L }, true) := by
  rw [phases_free ps ⟨s, [], 0, -1⟩ (show (-1 : Int) < 0 by decide)] at h
  have hd := congrArg Prod.fst h
  dsimp only at hd
  subst hd
  dsimp only at hL
  rw [phases_in ps ⟨s, [], 0, L⟩ (by dsimp only; omega)]
theorem phases_lift' {s : St} {ps : List Ph} {d : Drv} (h : Drv.phases ⟨s, [], 0, -1⟩ ps = (d, true)) : Drv.phases ⟨s, [], 0, -1⟩ ps = ({ d with most := -1 }, true) := by
  rw [phases_free ps ⟨s, [], 0, -1⟩ (show (-1 : Int) < 0 by decide)] at h
  have hd := congrArg Prod.fst h
  dsimp only at hd
  subst hd
  rw [phases_free ps ⟨s, [], 0, -1⟩ (show (-1 : Int) < 0 by decide)]
end Go.Proofs.YtepnljeojlbliaaGreat
namespace Go.Proofs.YtepnljeojlbliaaGreat
open Go.RowKit
/-- Registers r0, r1, r2; a bound L (-1: none); queues xs, ys; so many clocks at most on the chip (n), just so many driven (q). -/
def Reg (c : Cor) (b k : Nat) (r0 r1 r2 L : Int) (xs ys : List Int) (n q : Int) (w0 w : World) (rows : List (Value × List Value)) : Prop :=
  ∃ (s : St) (N : Int) (fo fi : Nat), At c s ∧ Ctx (ChipP b s N) ((CtlC k b fo fi ⟨r0, r1, r2, q, false, L, false⟩).star (QQ fo fi xs ys)) w0 w rows ∧ 0 ≤ N ∧ N ≤ n ∧ 0 ≤ q ∧ q ≤ n ∧ n ≤ 1048575 ∧ -1 ≤ L ∧ L ≤ 1048576
theorem Reg.rowsub {c : Cor} {b k : Nat} {r0 r1 r2 L n q : Int} {xs ys : List Int} {w0 w : World} {rows rows' : List (Value × List Value)} (h : Reg c b k r0 r1 r2 L xs ys n q w0 w rows) (hs : ∀ r ∈ rows', r ∈ rows) : Reg c b k r0 r1 r2 L xs ys n q w0 w rows' := by
  obtain ⟨s, N, fo, fi, h1, h2, h3⟩ := h
  exact ⟨s, N, fo, fi, h1, h2.sub hs, h3⟩
theorem Reg.fr {c : Cor} {b k : Nat} {r0 r1 r2 L n q : Int} {xs ys : List Int} {w0 w w' : World} {rows : List (Value × List Value)} (h : Reg c b k r0 r1 r2 L xs ys n q w0 w rows) (u : Upd none' w w') : Reg c b k r0 r1 r2 L xs ys n q w0 w' rows := by
  obtain ⟨s, N, fo, fi, h1, h2, h3⟩ := h
  exact ⟨s, N, fo, fi, h1, h2.frame u, h3⟩
theorem Reg.up {c : Cor} {b k : Nat} {r0 r1 r2 L n q : Int} {xs ys : List Int} {w0 w : World} {rows : List (Value × List Value)} (h : Reg c b k r0 r1 r2 L xs ys n q w0 w rows) : Upd none' w0 w := by
  obtain ⟨s, N, fo, fi, h1, h2, h3⟩ := h
  exact h2.upd
theorem Reg.nil {c : Cor} {b k : Nat} {r0 r1 r2 L n q : Int} {xs ys : List Int} {w0 w : World} {rows : List (Value × List Value)} (h : Reg c b k r0 r1 r2 L xs ys n q w0 w rows) : Reg c b k r0 r1 r2 L xs ys n q w0 w ((.slice none 0 0, ints []) :: rows) := by
  obtain ⟨s, N, fo, fi, h1, h2, h3⟩ := h
  exact ⟨s, N, fo, fi, h1, h2.nilrow, h3⟩
theorem Reg.rs {c : Cor} {b k : Nat} {r0 r1 r2 L n q : Int} {xs ys : List Int} {w0 w : World} {rows : List (Value × List Value)} (h : Reg c b k r0 r1 r2 L xs ys n q w0 w rows) {r : Value × List Value} (hr : r ∈ rows) : RS w r.1 r.2 := by
  obtain ⟨s, N, fo, fi, h1, h2, h3⟩ := h
  exact h2.rs_mem hr
theorem Reg.most {c : Cor} {b k : Nat} {r0 r1 r2 L n m q : Int} {xs ys : List Int} {w0 w : World} {rows : List (Value × List Value)} (h : Reg c b k r0 r1 r2 L xs ys n q w0 w rows) (hm : n ≤ m) (hm2 : m ≤ 1048575) : Reg c b k r0 r1 r2 L xs ys m q w0 w rows := by
  obtain ⟨s, N, fo, fi, h1, h2, h3, h4, h5, h6, h7, h8⟩ := h
  exact ⟨s, N, fo, fi, h1, h2, h3, by omega, h5, by omega, hm2, h8⟩
theorem reg_new {w0 w : World} {b : Nat} {s : St} {c : Cor} {N : Int} {rows : List (Value × List Value)} (hA : At c s) (hC : Ctx (ChipP b s N) .emp w0 w rows) (h0 : 0 ≤ N) (hN : N ≤ 1048575) :
    Calls Tryz.prog 49 #[.pointer (some ⟨b, 0, none⟩)] w fun e w' => ∃ k, e = .returned (.tuple #[.pointer (some ⟨k, 0, none⟩), .int .i64 0]) ∧ Reg c b k 0 0 0 (-1) [] [] N 0 w0 w' rows := by
  refine (q_new hC).mono ?_
  rintro e w' ⟨k, fo, fi, rfl, hC2⟩
  exact ⟨k, rfl, s, N, fo, fi, hA, hC2, h0, Int.le_refl _, Int.le_refl _, h0, hN, by decide, by decide⟩
theorem reg_run {c : Cor} {b k : Nat} {r0 r1 r2 L n q : Int} {xs ys : List Int} {w0 w : World} {rows : List (Value × List Value)} (h : Reg c b k r0 r1 r2 L xs ys n q w0 w rows) (o : Int) (ho : opIs o = true) (ho2 : o ≠ 235) (at_ : Int) (a : Option Addr) (cp : Nat) (data : List Int) (hdd : (.slice a data.length cp, ints data) ∈ rows) (read : Int) (hmay : cmdMay (opOf o) at_ data read = true)
    (c' : Cor) (out : List Int) (clk : Int) (hclk : phsMany (cmdPhs (opOf o) at_ data read) = clk) (hroom : n + clk + 1 ≤ 1048575) (L' : Int) (hL : L = -1 ∧ L' = -1 ∨ clk ≤ L ∧ L' = L - clk) (hd : ∀ t, At c t → ∃ d : Drv, Drv.phases ⟨t.select, [], 0, -1⟩ (cmdPhs (opOf o) at_ data read) = (d, true) ∧ d.clocks = clk ∧ d.out = out ∧ At c' d.s.deselect) :
    Calls Tryz.prog 50 #[.pointer (some ⟨k, 0, none⟩), .int .i64 o, .int .i64 at_, .slice a data.length cp, .int .i64 read] w fun e w' => ∃ oa oc, e = .returned (.tuple #[.slice oa out.length oc, .int .i64 0]) ∧ Reg c' b k r0 r1 r2 L' xs ys (n + clk + 1) (q + clk) w0 w' ((.slice oa out.length oc, ints out) :: rows) := by
  obtain ⟨s, N, fo, fi, hA, hC, hN0, hN, hq0, hqn, hn, hl1, hl2⟩ := h
  obtain ⟨d, e1, e2, e3, e4⟩ := hd s hA
  have hk := phases_kept (cmdPhs (opOf o) at_ data read) ⟨s.select, [], 0, -1⟩ (cmd_all o ho at_ data read hmay)
  rw [e1] at hk
  have hc0 := hk.up
  dsimp only at hc0
  have e1' : Drv.phases ⟨s.select, [], 0, L⟩ (cmdPhs (opOf o) at_ data read) = ({ d with most := L }, true) := by
    rcases hL with ⟨rfl, -⟩ | ⟨hL, -⟩
    · exact phases_lift' e1
    · exact phases_lift e1 L (by omega)
  refine (c_run (K := ⟨r0, r1, r2, q, false, L, false⟩) (qq_ok _ _ _ _) hC hN0 hA.sel (by dsimp only; omega) (by dsimp only; omega) rfl rfl o ho ho2 at_ a cp data hdd read hmay (by omega) { d with most := L } e1').mono ?_
  rintro e w' ⟨oa, oc, rfl, hC2⟩
  dsimp only at hC2 ⊢
  rw [e3] at hC2 ⊢
  refine ⟨oa, oc, rfl, d.s.deselect, N + d.clocks + 1, fo, fi, e4, ?_, ?_⟩
  · have hKK : KS.driven ⟨r0, r1, r2, q, false, L, false⟩ ⟨d.s, out, d.clocks, L⟩ = ⟨r0, r1, r2, q + clk, false, L', false⟩ := by
      unfold KS.driven
      dsimp only
      rw [e2]
      rcases hL with ⟨rfl, rfl⟩ | ⟨hL, rfl⟩
      · rw [if_neg (by decide)]
      · rw [if_pos (by omega)]
    rw [hKK] at hC2
    exact hC2
  · rcases hL with ⟨rfl, rfl⟩ | ⟨hL, rfl⟩ <;> omega
theorem reg_cut {c : Cor} {b k : Nat} {r0 r1 r2 L n q : Int} {xs ys : List Int} {w0 w : World} {rows : List (Value × List Value)} (h : Reg c b k r0 r1 r2 L xs ys n q w0 w rows) (x : Int) (hx : 0 ≤ x) (hx2 : x ≤ 1048576) :
    Calls Tryz.prog 54 #[.pointer (some ⟨k, 0, none⟩), .int .i64 x] w fun e w' => e = .returned (.int .i64 0) ∧ Reg c b k r0 r1 r2 x xs ys n q w0 w' rows := by
  obtain ⟨s, N, fo, fi, hA, hC, hN0, hN, hq0, hqn, hn, hl1, hl2⟩ := h
  refine (c_cut (qq_ok _ _ _ _) hC x hx).mono ?_
  rintro e w' ⟨rfl, hC2⟩
  exact ⟨rfl, s, N, fo, fi, hA, hC2, hN0, hN, hq0, hqn, hn, by omega, hx2⟩
theorem reg_none {c : Cor} {b k : Nat} {r0 r1 r2 L n q : Int} {xs ys : List Int} {w0 w : World} {rows : List (Value × List Value)} (h : Reg c b k r0 r1 r2 L xs ys n q w0 w rows) (o at_ read : Int) (ho : opIs o = false) (v : Value) :
    Calls Tryz.prog 50 #[.pointer (some ⟨k, 0, none⟩), .int .i64 o, .int .i64 at_, v, .int .i64 read] w fun e w' => e = .returned (.tuple #[.slice none 0 0, .int .i64 1100]) ∧ Upd none' w w' := by
  obtain ⟨s, N, fo, fi, hA, hC, -⟩ := h
  exact c_run_none hC rfl o at_ read ho v
theorem reg_clocks {c : Cor} {b k : Nat} {r0 r1 r2 L n q : Int} {xs ys : List Int} {w0 w : World} {rows : List (Value × List Value)} (h : Reg c b k r0 r1 r2 L xs ys n q w0 w rows) :
    Calls Tryz.prog 57 #[.pointer (some ⟨k, 0, none⟩)] w fun e w' => e = .returned (.int .i64 q) ∧ w = w' := by
  obtain ⟨s, N, fo, fi, hA, hC, -⟩ := h
  exact k_clocks hC
theorem reg_lost {c : Cor} {b k : Nat} {r0 r1 r2 L n q : Int} {xs ys : List Int} {w0 w : World} {rows : List (Value × List Value)} (h : Reg c b k r0 r1 r2 L xs ys n q w0 w rows) :
    Calls Tryz.prog 58 #[.pointer (some ⟨k, 0, none⟩)] w fun e w' => e = .returned (.bool false) ∧ w = w' := by
  obtain ⟨s, N, fo, fi, hA, hC, -⟩ := h
  exact c_lost hC false rfl
/-- A controller whose power went. -/
def Gone (b k : Nat) (q : Int) (w0 w : World) (rows : List (Value × List Value)) : Prop := ∃ (s : St) (N : Int) (fo fi : Nat) (xs ys : List Int) (K : KS), Ctx (ChipP b s N) ((CtlC k b fo fi K).star (QQ fo fi xs ys)) w0 w rows ∧ K.lost = true ∧ K.clocks = q
theorem Gone.fr {b k : Nat} {q : Int} {w0 w w' : World} {rows : List (Value × List Value)} (h : Gone b k q w0 w rows) (u : Upd none' w w') : Gone b k q w0 w' rows := by
  obtain ⟨s, N, fo, fi, xs, ys, K, h1, h2⟩ := h
  exact ⟨s, N, fo, fi, xs, ys, K, h1.frame u, h2⟩
theorem Gone.up {b k : Nat} {q : Int} {w0 w : World} {rows : List (Value × List Value)} (h : Gone b k q w0 w rows) : Upd none' w0 w := by
  obtain ⟨s, N, fo, fi, xs, ys, K, h1, h2⟩ := h
  exact h1.upd
theorem Gone.rs {b k : Nat} {q : Int} {w0 w : World} {rows : List (Value × List Value)} (h : Gone b k q w0 w rows) {r : Value × List Value} (hr : r ∈ rows) : RS w r.1 r.2 := by
  obtain ⟨s, N, fo, fi, xs, ys, K, h1, h2⟩ := h
  exact h1.rs_mem hr
theorem gone_run {b k : Nat} {q : Int} {w0 w : World} {rows : List (Value × List Value)} (h : Gone b k q w0 w rows) (o at_ read : Int) (v : Value) :
    Calls Tryz.prog 50 #[.pointer (some ⟨k, 0, none⟩), .int .i64 o, .int .i64 at_, v, .int .i64 read] w fun e w' => e = .returned (.tuple #[.slice none 0 0, .int .i64 1101]) ∧ w = w' := by
  obtain ⟨s, N, fo, fi, xs, ys, K, h1, h2, -⟩ := h
  exact c_run_lost h1 h2 o at_ read v
theorem gone_clocks {b k : Nat} {q : Int} {w0 w : World} {rows : List (Value × List Value)} (h : Gone b k q w0 w rows) :
    Calls Tryz.prog 57 #[.pointer (some ⟨k, 0, none⟩)] w fun e w' => e = .returned (.int .i64 q) ∧ w = w' := by
  obtain ⟨s, N, fo, fi, xs, ys, K, h1, h2, rfl⟩ := h
  exact k_clocks h1
theorem gone_lost {b k : Nat} {q : Int} {w0 w : World} {rows : List (Value × List Value)} (h : Gone b k q w0 w rows) :
    Calls Tryz.prog 58 #[.pointer (some ⟨k, 0, none⟩)] w fun e w' => e = .returned (.bool true) ∧ w = w' := by
  obtain ⟨s, N, fo, fi, xs, ys, K, h1, h2, -⟩ := h
  exact c_lost h1 true h2
theorem gone_write {b k : Nat} {q : Int} {w0 w : World} {rows : List (Value × List Value)} (h : Gone b k q w0 w rows) (r x : Int) :
    Calls Tryz.prog 81 #[.pointer (some ⟨k, 0, none⟩), .int .i64 r, .int .i64 x] w fun e w' => e = .returned (.int .i64 1101) ∧ w = w' := by
  obtain ⟨s, N, fo, fi, xs, ys, K, h1, h2, -⟩ := h
  have hst := k_state h1
  rw [h2] at hst
  clear h1 h2
  go_enter Tryz.func81, Tryz.ntmps81
  go_wp2_with (go_at_call 124; refine hst.mono ?_; rintro e w1 ⟨rfl, rfl⟩)
  go_ret
  exact ⟨rfl, rfl⟩
/-- A command that is cut: just so many clocks as the bound tells are driven. -/
theorem reg_gone {c : Cor} {b k : Nat} {r0 r1 r2 L n q : Int} {xs ys : List Int} {w0 w : World} {rows : List (Value × List Value)} (h : Reg c b k r0 r1 r2 L xs ys n q w0 w rows) (o : Int) (ho : opIs o = true) (ho2 : o ≠ 235) (at_ : Int) (a : Option Addr) (cp : Nat) (data : List Int) (hdd : (.slice a data.length cp, ints data) ∈ rows) (read : Int) (hmay : cmdMay (opOf o) at_ data read = true)
    (hL : 0 ≤ L) (hclk : L < phsMany (cmdPhs (opOf o) at_ data read)) (hroom : n + phsMany (cmdPhs (opOf o) at_ data read) ≤ 1048575) :
    Calls Tryz.prog 50 #[.pointer (some ⟨k, 0, none⟩), .int .i64 o, .int .i64 at_, .slice a data.length cp, .int .i64 read] w fun e w' => e = .returned (.tuple #[.slice none 0 0, .int .i64 1101]) ∧ Gone b k (q + L) w0 w' rows := by
  obtain ⟨s, N, fo, fi, hA, hC, hN0, hN, hq0, hqn, hn, hl1, hl2⟩ := h
  have hcnt := phases_cnt (cmdPhs (opOf o) at_ data read) ⟨s.select, [], 0, L⟩ (cmd_all o ho at_ data read hmay) hL hL
  obtain ⟨d, hd⟩ : ∃ d, Drv.phases ⟨s.select, [], 0, L⟩ (cmdPhs (opOf o) at_ data read) = d := ⟨_, rfl⟩
  rw [hd] at hcnt
  obtain ⟨d1, d2⟩ := d
  obtain ⟨m1, m2, m3⟩ := hcnt
  dsimp only at m1 m2 m3
  rw [decide_eq_false (by omega)] at m3
  subst m3
  have hdc : d1.clocks = L := by rw [m2]; omega
  refine (c_run_cut (K := ⟨r0, r1, r2, q, false, L, false⟩) (qq_ok _ _ _ _) hC hN0 hA.sel (by dsimp only; omega) (by dsimp only; omega) rfl rfl o ho ho2 at_ a cp data hdd read hmay (by omega) d1 hd).mono ?_
  rintro e w' ⟨rfl, hC2⟩
  exact ⟨rfl, d1.s, _, fo, fi, xs, ys, _, hC2, rfl, by show q + d1.clocks = _; rw [hdc]⟩
/-- May a register have a number? -/
def regB (r x : Int) : Bool := decide ((r = 0 ∨ r = 1) ∧ 0 ≤ x ∧ x < 4096 ∨ r = 2 ∧ 0 ≤ x ∧ x ≤ 16 ∨ r = 4 ∧ 0 ≤ x ∧ x < 256)
set_option maxHeartbeats 2000000 in
theorem ctl_reg (r x : Int) (w : World) : Calls Tryz.prog 143 #[.int .i64 r, .int .i64 x] w fun e w' => e = .returned (.bool (regB r x)) ∧ w = w' := by
  rcases (show r = 0 ∨ r = 1 ∨ r = 2 ∨ r = 4 ∨ (r ≠ 0 ∧ r ≠ 1 ∧ r ≠ 2 ∧ r ≠ 4) by omega) with h0 | h1 | h2 | h4 | ⟨n0, n1, n2, n4⟩
  · subst h0
    by_cases hb : 0 ≤ x ∧ x < 4096
    · rw [show regB 0 x = true from decide_eq_true (by omega)]
      obtain ⟨p1, p2⟩ := hb
      go_enter Tryz.func143, Tryz.ntmps143
      go_wp2
      go_ret
      exact ⟨rfl, rfl⟩
    · rw [show regB 0 x = false from decide_eq_false (by omega)]
      rcases (show ¬ 0 ≤ x ∨ 0 ≤ x ∧ ¬ x < 4096 by omega) with p1 | ⟨p1, p2⟩
      all_goals
        go_enter Tryz.func143, Tryz.ntmps143
        go_wp2
        go_ret
        exact ⟨rfl, rfl⟩
  · subst h1
    by_cases hb : 0 ≤ x ∧ x < 4096
    · rw [show regB 1 x = true from decide_eq_true (by omega)]
      obtain ⟨p1, p2⟩ := hb
      go_enter Tryz.func143, Tryz.ntmps143
      go_wp2
      go_ret
      exact ⟨rfl, rfl⟩
    · rw [show regB 1 x = false from decide_eq_false (by omega)]
      rcases (show ¬ 0 ≤ x ∨ 0 ≤ x ∧ ¬ x < 4096 by omega) with p1 | ⟨p1, p2⟩
      all_goals
        go_enter Tryz.func143, Tryz.ntmps143
        go_wp2
        go_ret
        exact ⟨rfl, rfl⟩
  · subst h2
    by_cases hb : 0 ≤ x ∧ x ≤ 16
    · rw [show regB 2 x = true from decide_eq_true (by omega)]
      obtain ⟨p1, p2⟩ := hb
      go_enter Tryz.func143, Tryz.ntmps143
      go_wp2
      go_ret
      exact ⟨rfl, rfl⟩
    · rw [show regB 2 x = false from decide_eq_false (by omega)]
      rcases (show ¬ 0 ≤ x ∨ 0 ≤ x ∧ ¬ x ≤ 16 by omega) with p1 | ⟨p1, p2⟩
      all_goals
        go_enter Tryz.func143, Tryz.ntmps143
        go_wp2
        go_ret
        exact ⟨rfl, rfl⟩
  · subst h4
    have hb := lane_byte x
    cases hv : byteB x
    all_goals
      rw [hv] at hb
      simp only [byteB, decide_eq_true_eq, decide_eq_false_iff_not] at hv
      first
        | rw [show regB 4 x = true from decide_eq_true (by omega)]
        | rw [show regB 4 x = false from decide_eq_false (by omega)]
      go_enter Tryz.func143, Tryz.ntmps143
      go_wp2_with (go_at_call 175; refine (hb _).mono ?_; rintro e w1 ⟨rfl, rfl⟩)
      go_ret
      exact ⟨rfl, rfl⟩
  · rw [show regB r x = false from decide_eq_false (by omega)]
    have m0 : (r == 0) = false := by simp; omega
    have m1 : (r == 1) = false := by simp; omega
    have m2 : (r == 2) = false := by simp; omega
    have m4 : (r == 4) = false := by simp; omega
    go_enter Tryz.func143, Tryz.ntmps143
    go_wp2
    go_ret
    exact ⟨rfl, rfl⟩
theorem q_cells {P Q : Own} {w0 w : World} {rows : List (Value × List Value)} {k b fo fi : Nat} {K : KS} (h : Ctx P ((CtlC k b fo fi K).star Q) w0 w rows) :
    w.cell? ⟨k, 1, none⟩ = some (.int .i64 K.r0) ∧ w.cell? ⟨k, 2, none⟩ = some (.int .i64 K.r1) ∧ w.cell? ⟨k, 3, none⟩ = some (.int .i64 K.r2) ∧ w.cell? ⟨k, 4, none⟩ = some (.pointer (some ⟨fo, 0, none⟩)) ∧ w.cell? ⟨k, 5, none⟩ = some (.pointer (some ⟨fi, 0, none⟩)) ∧ (∀ j, w.frozen? ⟨k, j, none⟩ = false) := by
  obtain ⟨S, ⟨h1, h2⟩, h3⟩ := h.get2
  have c1 := h1.cell 1
  have c2 := h1.cell 2
  have c3 := h1.cell 3
  have c4 := h1.cell 4
  have c5 := h1.cell 5
  simp only [KS.cells, List.getElem?_cons_succ, List.getElem?_cons_zero] at c1 c2 c3 c4 c5
  exact ⟨c1, c2, c3, c4, c5, fun j => h1.frozen j⟩
/-- A register is written. -/
theorem reg_w {c : Cor} {b k : Nat} {r0 r1 r2 L n q : Int} {xs ys : List Int} {w0 w : World} {rows : List (Value × List Value)} (h : Reg c b k r0 r1 r2 L xs ys n q w0 w rows) (r x : Int) (hr : r = 0 ∨ r = 1 ∨ r = 2) (hx : regB r x = true) :
    Calls Tryz.prog 81 #[.pointer (some ⟨k, 0, none⟩), .int .i64 r, .int .i64 x] w fun e w' => e = .returned (.int .i64 0) ∧ Reg c b k (if r = 0 then x else r0) (if r = 1 then x else r1) (if r = 2 then x else r2) L xs ys n q w0 w' rows := by
  obtain ⟨s, N, fo, fi, hA, hC, hrest⟩ := h
  obtain ⟨c1, c2, c3, c4, c5, hf⟩ := q_cells hC
  have hst := k_state hC
  have hrg := ctl_reg r x
  rw [hx] at hrg
  have f1 := hf 1
  have f2 := hf 2
  have f3 := hf 3
  rcases hr with rfl | rfl | rfl
  · have HS := Lib.hid (ctl_set (K' := ⟨x, r1, r2, q, false, L, false⟩) (qq_ok _ _ _ _) hC 1 (.int .i64 x) rfl)
    have HR := Lib.hid (And.intro hA hrest)
    clear hC hx hA hrest hf
    go_enter Tryz.func81, Tryz.ntmps81
    go_wp2_with (first | (go_at_call 124; refine hst.mono ?_; rintro e w1 ⟨rfl, rfl⟩) | (go_at_call 143; refine (hrg _).mono ?_; rintro e w1 ⟨rfl, rfl⟩))
    go_ret
    exact ⟨rfl, s, N, fo, fi, HR.out.1, HS.out, HR.out.2⟩
  · have HS := Lib.hid (ctl_set (K' := ⟨r0, x, r2, q, false, L, false⟩) (qq_ok _ _ _ _) hC 2 (.int .i64 x) rfl)
    have HR := Lib.hid (And.intro hA hrest)
    clear hC hx hA hrest hf
    go_enter Tryz.func81, Tryz.ntmps81
    go_wp2_with (first | (go_at_call 124; refine hst.mono ?_; rintro e w1 ⟨rfl, rfl⟩) | (go_at_call 143; refine (hrg _).mono ?_; rintro e w1 ⟨rfl, rfl⟩))
    go_ret
    exact ⟨rfl, s, N, fo, fi, HR.out.1, HS.out, HR.out.2⟩
  · have HS := Lib.hid (ctl_set (K' := ⟨r0, r1, x, q, false, L, false⟩) (qq_ok _ _ _ _) hC 3 (.int .i64 x) rfl)
    have HR := Lib.hid (And.intro hA hrest)
    clear hC hx hA hrest hf
    go_enter Tryz.func81, Tryz.ntmps81
    go_wp2_with (first | (go_at_call 124; refine hst.mono ?_; rintro e w1 ⟨rfl, rfl⟩) | (go_at_call 143; refine (hrg _).mono ?_; rintro e w1 ⟨rfl, rfl⟩))
    go_ret
    exact ⟨rfl, s, N, fo, fi, HR.out.1, HS.out, HR.out.2⟩
/-- What may not be written. -/
theorem reg_wno {c : Cor} {b k : Nat} {r0 r1 r2 L n q : Int} {xs ys : List Int} {w0 w : World} {rows : List (Value × List Value)} (h : Reg c b k r0 r1 r2 L xs ys n q w0 w rows) (r x : Int) (hx : regB r x = false) :
    Calls Tryz.prog 81 #[.pointer (some ⟨k, 0, none⟩), .int .i64 r, .int .i64 x] w fun e w' => e = .returned (.int .i64 1100) ∧ w = w' := by
  obtain ⟨s, N, fo, fi, hA, hC, -⟩ := h
  have hst := k_state hC
  have hrg := ctl_reg r x
  rw [hx] at hrg
  clear hC hA hx
  go_enter Tryz.func81, Tryz.ntmps81
  go_wp2_with (first | (go_at_call 124; refine hst.mono ?_; rintro e w1 ⟨rfl, rfl⟩) | (go_at_call 143; refine (hrg _).mono ?_; rintro e w1 ⟨rfl, rfl⟩))
  go_ret
  exact ⟨rfl, rfl⟩
/-- A byte is queued. -/
theorem reg_wd {c : Cor} {b k : Nat} {r0 r1 r2 L n q : Int} {xs ys : List Int} {w0 w : World} {rows : List (Value × List Value)} (h : Reg c b k r0 r1 r2 L xs ys n q w0 w rows) (x : Int) (hx : regB 4 x = true) (hl : xs.length < 16) :
    Calls Tryz.prog 81 #[.pointer (some ⟨k, 0, none⟩), .int .i64 4, .int .i64 x] w fun e w' => e = .returned (.int .i64 0) ∧ Reg c b k r0 r1 r2 L (xs ++ [x]) ys n q w0 w' rows := by
  obtain ⟨s, N, fo, fi, hA, hC, hrest⟩ := h
  obtain ⟨c1, c2, c3, c4, c5, hf⟩ := q_cells hC
  have hst := k_state hC
  have hrg := ctl_reg 4 x
  rw [hx] at hrg
  have hpush := fifo_push_ok fo x xs w (q_out hC) hl
  have HP := Lib.hid hpush
  have HR := Lib.hid (And.intro hA (And.intro hC hrest))
  clear hC hx hA hrest hf hpush
  go_enter Tryz.func81, Tryz.ntmps81
  go_wp2_with (first | (go_at_call 124; refine hst.mono ?_; rintro e w1 ⟨rfl, rfl⟩) | (go_at_call 143; refine (hrg _).mono ?_; rintro e w1 ⟨rfl, rfl⟩) | (go_at_call 144; refine HP.out.mono ?_; rintro e w1 ⟨rfl, hF, hU⟩))
  go_ret
  exact ⟨rfl, s, N, fo, fi, HR.out.1, q_out' HR.out.2.1 hF hU, HR.out.2.2⟩
theorem reg_wfull {c : Cor} {b k : Nat} {r0 r1 r2 L n q : Int} {xs ys : List Int} {w0 w : World} {rows : List (Value × List Value)} (h : Reg c b k r0 r1 r2 L xs ys n q w0 w rows) (x : Int) (hx : regB 4 x = true) (hl : 16 ≤ xs.length) :
    Calls Tryz.prog 81 #[.pointer (some ⟨k, 0, none⟩), .int .i64 4, .int .i64 x] w fun e w' => e = .returned (.int .i64 801) ∧ Reg c b k r0 r1 r2 L xs ys n q w0 w' rows := by
  obtain ⟨s, N, fo, fi, hA, hC, hrest⟩ := h
  obtain ⟨c1, c2, c3, c4, c5, hf⟩ := q_cells hC
  have hst := k_state hC
  have hrg := ctl_reg 4 x
  rw [hx] at hrg
  have hpush := fifo_push_no fo x xs w (q_out hC) hl
  have HP := Lib.hid hpush
  have HR := Lib.hid (And.intro hA (And.intro hC hrest))
  clear hC hx hA hrest hf hpush
  go_enter Tryz.func81, Tryz.ntmps81
  go_wp2_with (first | (go_at_call 124; refine hst.mono ?_; rintro e w1 ⟨rfl, rfl⟩) | (go_at_call 143; refine (hrg _).mono ?_; rintro e w1 ⟨rfl, rfl⟩) | (go_at_call 144; refine HP.out.mono ?_; rintro e w1 ⟨rfl, hF, hU⟩))
  go_ret
  exact ⟨rfl, s, N, fo, fi, HR.out.1, q_out' HR.out.2.1 hF hU, HR.out.2.2⟩
end Go.Proofs.YtepnljeojlbliaaGreat
namespace Go.Proofs.YtepnljeojlbliaaGreat
open Go.RowKit
theorem reg_r0 {c : Cor} {b k : Nat} {r0 r1 r2 L n q : Int} {xs ys : List Int} {w0 w : World} {rows : List (Value × List Value)} (h : Reg c b k r0 r1 r2 L xs ys n q w0 w rows) :
    Calls Tryz.prog 83 #[.pointer (some ⟨k, 0, none⟩), .int .i64 0] w fun e w' => e = .returned (.tuple #[.int .i64 r0, .int .i64 0]) ∧ w = w' := by
  obtain ⟨s, N, fo, fi, hA, hC, hrest⟩ := h
  obtain ⟨c1, c2, c3, c4, c5, hf⟩ := q_cells hC
  have hst := k_state hC
  clear hC hA hrest hf
  go_enter Tryz.func83, Tryz.ntmps83
  go_wp2_with (go_at_call 124; refine hst.mono ?_; rintro e w1 ⟨rfl, rfl⟩)
  go_ret2
  exact ⟨rfl, rfl⟩
theorem reg_r1 {c : Cor} {b k : Nat} {r0 r1 r2 L n q : Int} {xs ys : List Int} {w0 w : World} {rows : List (Value × List Value)} (h : Reg c b k r0 r1 r2 L xs ys n q w0 w rows) :
    Calls Tryz.prog 83 #[.pointer (some ⟨k, 0, none⟩), .int .i64 1] w fun e w' => e = .returned (.tuple #[.int .i64 r1, .int .i64 0]) ∧ w = w' := by
  obtain ⟨s, N, fo, fi, hA, hC, hrest⟩ := h
  obtain ⟨c1, c2, c3, c4, c5, hf⟩ := q_cells hC
  have hst := k_state hC
  clear hC hA hrest hf
  go_enter Tryz.func83, Tryz.ntmps83
  go_wp2_with (go_at_call 124; refine hst.mono ?_; rintro e w1 ⟨rfl, rfl⟩)
  go_ret2
  exact ⟨rfl, rfl⟩
theorem reg_r2 {c : Cor} {b k : Nat} {r0 r1 r2 L n q : Int} {xs ys : List Int} {w0 w : World} {rows : List (Value × List Value)} (h : Reg c b k r0 r1 r2 L xs ys n q w0 w rows) :
    Calls Tryz.prog 83 #[.pointer (some ⟨k, 0, none⟩), .int .i64 2] w fun e w' => e = .returned (.tuple #[.int .i64 r2, .int .i64 0]) ∧ w = w' := by
  obtain ⟨s, N, fo, fi, hA, hC, hrest⟩ := h
  obtain ⟨c1, c2, c3, c4, c5, hf⟩ := q_cells hC
  have hst := k_state hC
  clear hC hA hrest hf
  go_enter Tryz.func83, Tryz.ntmps83
  go_wp2_with (go_at_call 124; refine hst.mono ?_; rintro e w1 ⟨rfl, rfl⟩)
  go_ret2
  exact ⟨rfl, rfl⟩
/-- How many came. -/
theorem reg_rs {c : Cor} {b k : Nat} {r0 r1 r2 L n q : Int} {xs ys : List Int} {w0 w : World} {rows : List (Value × List Value)} (h : Reg c b k r0 r1 r2 L xs ys n q w0 w rows) :
    Calls Tryz.prog 83 #[.pointer (some ⟨k, 0, none⟩), .int .i64 3] w fun e w' => e = .returned (.tuple #[.int .i64 (ys.length : Int), .int .i64 0]) ∧ Reg c b k r0 r1 r2 L xs ys n q w0 w' rows := by
  have HR := Lib.hid h
  obtain ⟨s, N, fo, fi, hA, hC, hrest⟩ := h
  obtain ⟨c1, c2, c3, c4, c5, hf⟩ := q_cells hC
  have hst := k_state hC
  have hl := fifo_len fi ys w (q_in hC)
  clear hC hA hrest hf
  go_enter Tryz.func83, Tryz.ntmps83
  go_wp2_with (first | (go_at_call 124; refine hst.mono ?_; rintro e w1 ⟨rfl, rfl⟩) | (go_at_call 146; refine hl.mono ?_; rintro e w1 ⟨rfl, hF, hU⟩))
  go_ret2
  exact ⟨rfl, HR.out.fr hU⟩
/-- The first one that came is taken. -/
theorem reg_rd {c : Cor} {b k : Nat} {r0 r1 r2 L n q y : Int} {xs ys : List Int} {w0 w : World} {rows : List (Value × List Value)} (h : Reg c b k r0 r1 r2 L xs (y :: ys) n q w0 w rows) :
    Calls Tryz.prog 83 #[.pointer (some ⟨k, 0, none⟩), .int .i64 4] w fun e w' => e = .returned (.tuple #[.int .i64 y, .int .i64 0]) ∧ Reg c b k r0 r1 r2 L xs ys n q w0 w' rows := by
  obtain ⟨s, N, fo, fi, hA, hC, hrest⟩ := h
  obtain ⟨c1, c2, c3, c4, c5, hf⟩ := q_cells hC
  have hst := k_state hC
  have hl := fifo_pop_ok fi y ys w (q_in hC)
  have HR := Lib.hid (And.intro hA (And.intro hC hrest))
  clear hC hA hrest hf
  go_enter Tryz.func83, Tryz.ntmps83
  go_wp2_with (first | (go_at_call 124; refine hst.mono ?_; rintro e w1 ⟨rfl, rfl⟩) | (go_at_call 147; refine hl.mono ?_; rintro e w1 ⟨rfl, hF, hU⟩))
  go_ret2
  exact ⟨rfl, s, N, fo, fi, HR.out.1, q_in' HR.out.2.1 hF hU, HR.out.2.2⟩
theorem reg_rempty {c : Cor} {b k : Nat} {r0 r1 r2 L n q : Int} {xs : List Int} {w0 w : World} {rows : List (Value × List Value)} (h : Reg c b k r0 r1 r2 L xs [] n q w0 w rows) :
    Calls Tryz.prog 83 #[.pointer (some ⟨k, 0, none⟩), .int .i64 4] w fun e w' => e = .returned (.tuple #[.int .i64 0, .int .i64 800]) ∧ Reg c b k r0 r1 r2 L xs [] n q w0 w' rows := by
  obtain ⟨s, N, fo, fi, hA, hC, hrest⟩ := h
  obtain ⟨c1, c2, c3, c4, c5, hf⟩ := q_cells hC
  have hst := k_state hC
  have hl := fifo_pop_no fi w (q_in hC)
  have HR := Lib.hid (And.intro hA (And.intro hC hrest))
  clear hC hA hrest hf
  go_enter Tryz.func83, Tryz.ntmps83
  go_wp2_with (first | (go_at_call 124; refine hst.mono ?_; rintro e w1 ⟨rfl, rfl⟩) | (go_at_call 147; refine hl.mono ?_; rintro e w1 ⟨rfl, hF, hU⟩))
  go_ret2
  exact ⟨rfl, s, N, fo, fi, HR.out.1, q_in' HR.out.2.1 hF hU, HR.out.2.2⟩
theorem reg_rno {c : Cor} {b k : Nat} {r0 r1 r2 L n q : Int} {xs ys : List Int} {w0 w : World} {rows : List (Value × List Value)} (h : Reg c b k r0 r1 r2 L xs ys n q w0 w rows) (r : Int) (hr : r < 0 ∨ 4 < r) :
    Calls Tryz.prog 83 #[.pointer (some ⟨k, 0, none⟩), .int .i64 r] w fun e w' => e = .returned (.tuple #[.int .i64 0, .int .i64 1100]) ∧ w = w' := by
  obtain ⟨s, N, fo, fi, hA, hC, -⟩ := h
  have hst := k_state hC
  have m0 : (r == 0) = false := by simp; omega
  have m1 : (r == 1) = false := by simp; omega
  have m2 : (r == 2) = false := by simp; omega
  have m3 : (r == 3) = false := by simp; omega
  have m4 : (r == 4) = false := by simp; omega
  clear hC hA
  go_enter Tryz.func83, Tryz.ntmps83
  go_wp2_with (go_at_call 124; refine hst.mono ?_; rintro e w1 ⟨rfl, rfl⟩)
  go_ret2
  exact ⟨rfl, rfl⟩
set_option maxHeartbeats 2000000 in
/-- Nothing is queued. -/
theorem queued_none {c : Cor} {b k : Nat} {r0 r1 r2 L n q : Int} {ys : List Int} {w0 w : World} {rows : List (Value × List Value)} (h : Reg c b k r0 r1 r2 L [] ys n q w0 w rows) :
    Calls Tryz.prog 149 #[.pointer (some ⟨k, 0, none⟩)] w fun e w' => e = .returned (.slice none 0 0) ∧ Upd none' w w' := by
  obtain ⟨s, N, fo, fi, hA, hC, hrest⟩ := h
  obtain ⟨c1, c2, c3, c4, c5, hf⟩ := q_cells hC
  have hl := fifo_len fo [] w (q_out hC)
  clear hC hA hrest hf
  go_enter Tryz.func149, Tryz.ntmps149
  go_wp2_with (go_at_call 146; refine hl.mono ?_; rintro e w1 ⟨rfl, hF, hU⟩)
  clear hl hF
  go_loopw [3, 11] (fun ov iv wr => ov = .slice none 0 0 ∧ iv = .int .i64 0 ∧ Upd none' w wr) (fun _ _ _ => 0)
  case atStart => exact ⟨rfl, rfl, hU⟩
  case round =>
    obtain ⟨rfl, rfl, hU2⟩ := hrel
    go_wp2
    go_ret
    exact ⟨rfl, hU2⟩
theorem Reg.cells {c : Cor} {b k : Nat} {r0 r1 r2 L n q : Int} {xs ys : List Int} {w0 w : World} {rows : List (Value × List Value)} (h : Reg c b k r0 r1 r2 L xs ys n q w0 w rows) :
    ∃ fo fi, w.cell? ⟨k, 1, none⟩ = some (.int .i64 r0) ∧ w.cell? ⟨k, 2, none⟩ = some (.int .i64 r1) ∧ w.cell? ⟨k, 3, none⟩ = some (.int .i64 r2) ∧ w.cell? ⟨k, 4, none⟩ = some (.pointer (some ⟨fo, 0, none⟩)) ∧ w.cell? ⟨k, 5, none⟩ = some (.pointer (some ⟨fi, 0, none⟩)) ∧ (∀ j, w.frozen? ⟨k, j, none⟩ = false) ∧ FifoAt w fi ys ∧ k < w.heap.size := by
  obtain ⟨s, N, fo, fi, hA, hC, -⟩ := h
  obtain ⟨c1, c2, c3, c4, c5, hf⟩ := q_cells hC
  obtain ⟨-, -, -, -, -, -, hk⟩ := ctl_cells hC
  exact ⟨fo, fi, c1, c2, c3, c4, c5, hf, q_in hC, hk⟩
theorem Reg.fresh {c : Cor} {b k : Nat} {r0 r1 r2 L n q : Int} {xs ys : List Int} {w0 w w' : World} {rows : List (Value × List Value)} (h : Reg c b k r0 r1 r2 L xs ys n q w0 w rows) (hu : Upd none' w w') {fo2 : Nat} (hf : FifoAt w' fo2 []) (hn : w.heap.size ≤ fo2) : Reg c b k r0 r1 r2 L [] ys n q w0 (w'.setCell ⟨k, 4, none⟩ (.pointer (some ⟨fo2, 0, none⟩))) rows := by
  obtain ⟨s, N, fo, fi, hA, hC, h3⟩ := h
  exact ⟨s, N, fo2, fi, hA, q_fresh hC hu hf hn, h3⟩
/-- One more has come. -/
theorem Reg.came {c : Cor} {b k : Nat} {r0 r1 r2 L n q : Int} {xs ys : List Int} {w0 w : World} {rows : List (Value × List Value)} (h : Reg c b k r0 r1 r2 L xs ys n q w0 w rows) (y : Int) (hl : ys.length < 16) : ∃ fi, w.cell? ⟨k, 5, none⟩ = some (.pointer (some ⟨fi, 0, none⟩)) ∧ Calls Tryz.prog 144 #[.pointer (some ⟨fi, 0, none⟩), .int .i64 y] w fun e w' => e = .returned (.int .i64 0) ∧ Reg c b k r0 r1 r2 L xs (ys ++ [y]) n q w0 w' rows := by
  obtain ⟨s, N, fo, fi, hA, hC, h3⟩ := h
  obtain ⟨c1, c2, c3, c4, c5, hf⟩ := q_cells hC
  refine ⟨fi, c5, (fifo_push_ok fi y ys w (q_in hC) hl).mono ?_⟩
  rintro e w' ⟨rfl, hF, hU⟩
  exact ⟨rfl, s, N, fo, fi, hA, q_in' hC hF hU, h3⟩
/-- There is no room for what would come. -/
theorem go_full {c : Cor} {b k : Nat} {r0 r1 r2 L n q : Int} {xs ys : List Int} {w0 w : World} {rows : List (Value × List Value)} (h : Reg c b k r0 r1 r2 L xs ys n q w0 w rows) (hl : ys.length ≤ 16) (hr : 16 < r2 + (ys.length : Int)) :
    Calls Tryz.prog 85 #[.pointer (some ⟨k, 0, none⟩)] w fun e w' => e = .returned (.int .i64 801) ∧ Upd none' w w' := by
  obtain ⟨fo, fi, c1, c2, c3, c4, c5, hf, hF, -⟩ := h.cells
  obtain ⟨s, N, fo2, fi2, hA, hC, hrest⟩ := h
  have hst := k_state hC
  have hlen := fifo_len fi ys w hF
  have hw : IntKind.i64.wrap (16 - (ys.length : Int)) = 16 - (ys.length : Int) := IntWalk.i64_in _ (by omega)
  have hgt : 16 - (ys.length : Int) < r2 := by omega
  clear hC hA hrest hf hF
  go_enter Tryz.func85, Tryz.ntmps85
  go_wp2_with (first | (go_at_call 124; refine hst.mono ?_; rintro e w1 ⟨rfl, rfl⟩) | (go_at_call 146; refine hlen.mono ?_; rintro e w1 ⟨rfl, hF, hU⟩))
  go_ret
  exact ⟨rfl, hU⟩
set_option maxRecDepth 100000 in
set_option maxHeartbeats 4000000 in
/-- What the registers tell is run; what came is queued. -/
theorem go_ok {c c' : Cor} {b k : Nat} {r0 r1 r2 L L' n n' q q' : Int} {ys out : List Int} {w0 w : World} {rows : List (Value × List Value)} (h : Reg c b k r0 r1 r2 L [] ys n q w0 w rows) (hl : ys.length ≤ 16) (hr : r2 + (ys.length : Int) ≤ 16) (hol : out.length + ys.length ≤ 16) (m : Nat) (hm : out.length = m) (e1 : Int) (he1 : e1 ≠ 1101)
    (hrun : ∀ w1, Upd none' w w1 → Calls Tryz.prog 50 #[.pointer (some ⟨k, 0, none⟩), .int .i64 r0, .int .i64 r1, .slice none 0 0, .int .i64 r2] w1 fun e w' => ∃ oa oc, e = .returned (.tuple #[.slice oa m oc, .int .i64 e1]) ∧ Reg c' b k r0 r1 r2 L' [] ys n' q' w0 w' ((.slice oa m oc, ints out) :: rows)) :
    Calls Tryz.prog 85 #[.pointer (some ⟨k, 0, none⟩)] w fun e w' => e = .returned (.int .i64 e1) ∧ Reg c' b k r0 r1 r2 L' [] (ys ++ out) n' q' w0 w' rows := by
  obtain ⟨fo, fi, c1, c2, c3, c4, c5, hf, hF, -⟩ := h.cells
  have hst : Calls Tryz.prog 124 #[.pointer (some ⟨k, 0, none⟩)] w fun e w' => e = .returned (.int .i64 0) ∧ w = w' := by
    obtain ⟨s, N, fo2, fi2, hA, hC, hrest⟩ := h
    exact k_state hC
  have hlen := fifo_len fi ys w hF
  have hw : IntKind.i64.wrap (16 - (ys.length : Int)) = 16 - (ys.length : Int) := IntWalk.i64_in _ (by omega)
  have hgt : ¬ 16 - (ys.length : Int) < r2 := by omega
  have HR := Lib.hid h
  have HRUN := Lib.hid hrun
  have HOL := Lib.hid (And.intro hol hm)
  clear h hrun hf hF hol hm
  go_enter Tryz.func85, Tryz.ntmps85
  go_upto_region 7 with (first | (go_at_call 124; refine hst.mono ?_; rintro e w1 ⟨rfl, rfl⟩) | (go_at_call 146; refine hlen.mono ?_; rintro e w1 ⟨rfl, hF, hU⟩))
  have hR1 := (HR.out.fr hU).fr (Upd.refl none' w1).drew
  obtain ⟨fo1, fi1, d1, d2, -, -, -, -, -, -⟩ := (HR.out.fr hU).cells
  have HQ := Lib.hid (queued_none hR1)
  have HR1 := Lib.hid hR1
  have HU := Lib.hid ((hU.trans (Upd.refl none' w1).drew (fun _ _ f => f)))
  clear hlen hst hF hU hR1 c1 c2 c3 c4 c5 HR
  go_region_held3 (fun w' => w'.cell? ⟨k, 1, none⟩ = some (.int .i64 r0) ∧ w'.cell? ⟨k, 2, none⟩ = some (.int .i64 r1)) (first | exact ⟨d1, d2⟩ | exact ⟨x1, x2⟩ | exact ⟨y1, y2⟩) (first | (go_at_call 149; refine HQ.out.mono ?_; rintro e w2 ⟨rfl, hU2⟩; obtain ⟨fo2, fi2, x1, x2, -, -, -, -, -, -⟩ := (HR1.out.fr hU2).cells; have HR2 := Lib.hid (HRUN.out _ (HU.out.trans hU2 (fun _ _ f => f)))) | (go_at_call 50; refine HR2.out.mono ?_; rintro e w3 ⟨oa, oc, rfl, hR3⟩; obtain ⟨fo3, fi3, y1, y2, -, y4, -, -, -, hk3⟩ := hR3.cells))
  have hne : (e1 == 1101) = false := by simpa using he1
  have HR3 := Lib.hid hR3
  have HF4 : Hid (∀ w', Upd none' w3 w' → w'.frozen? ⟨k, 4, none⟩ = false ∧ w'.cell? ⟨k, 4, none⟩ = some (.pointer (some ⟨fo3, 0, none⟩))) := Lib.hid (fun w' u => by
    obtain ⟨fo5, fi5, -, -, -, c5, -, hf5, -, hk5⟩ := (hR3.fr u).cells
    exact ⟨hf5 4, (u.cell (p := ⟨k, 4, none⟩) hk3 (fun f => f)).trans y4⟩)
  clear hR3 HR2 HR1 HQ HRUN HU d1 d2 x1 x2 y1 y2 y4 hk3 he1 hgt hw
  go_wp2_with (go_at_call 123; refine (fifo_new_ok _).mono ?_; rintro e w4 ⟨fo4, rfl, hs4, hF4, hU4⟩; obtain ⟨hz4, hz5⟩ := HF4.out _ hU4)
  have HR5 := Lib.hid (HR3.out.fresh hU4 hF4 hs4)
  clear hF4 hs4 hU4 hz4 hz5 HR3 HF4
  have hm16 : m ≤ 16 := by have := HOL.out; omega
  go_loopw [53] (fun iv wr => ∃ i : Nat, i ≤ m ∧ iv = .int .i64 (i : Int) ∧ Hid (Reg c' b k r0 r1 r2 L' [] (ys ++ out.take i) n' q' w0 wr ((.slice oa m oc, ints out) :: rows))) (fun iv _ => m - (intOf iv).toNat)
  case atStart => exact ⟨0, Nat.zero_le _, rfl, Lib.hid (by rw [List.take_zero, List.append_nil]; exact HR5.out)⟩
  case round =>
    clear HR5
    rename World => W2
    obtain ⟨i, hi, rfl, hR⟩ := hrel
    by_cases hlt : i < m
    · obtain ⟨gx, ox, rfl, hgx, hcc⟩ := (hR.out.rs List.mem_cons_self).cells (by omega)
      have hcell := hcc i hlt
      rw [ints_at _ _ (by rw [HOL.out.2]; exact hlt)] at hcell
      obtain ⟨y, hy⟩ : ∃ y, out.getD i 0 = y := ⟨_, rfl⟩
      rw [hy] at hcell
      obtain ⟨fi6, z5, hpush⟩ := hR.out.came y (by rw [List.length_append, List.length_take]; have := HOL.out; omega)
      have htk : ys ++ out.take i ++ [y] = ys ++ out.take (i + 1) := by
        rw [List.append_assoc, List.take_add_one, ← hy]
        congr 1
        simp [List.getD_eq_getElem?_getD, List.getElem?_eq_getElem (show i < out.length by rw [HOL.out.2]; exact hlt)]
      rw [htk] at hpush
      have HP := Lib.hid hpush
      clear hpush hR hcc hgx hy htk
      go_wp2_with (go_at_call 144; refine HP.out.mono ?_; rintro e w6 ⟨rfl, hR6⟩)
      refine ⟨?rel, ?measure⟩
      case rel => exact ⟨i + 1, by omega, by go_num, Lib.hid hR6⟩
      case measure => simp [intOf]; omega
    · obtain rfl : i = m := by omega
      have hfin := hR.out
      rw [List.take_of_length_le (by rw [HOL.out.2]; exact Nat.le_refl _)] at hfin
      have HFIN := Lib.hid hfin
      clear hfin hR
      go_wp2
      go_ret
      exact ⟨rfl, HFIN.out.rowsub fun r hr => List.mem_cons_of_mem _ hr⟩
theorem ctlnew_nil (w : World) : Calls Tryz.prog 49 #[.pointer none] w fun e w' => e = .returned (.tuple #[.pointer none, .int .i64 1]) ∧ w = w' := by
  go_enter Tryz.func49, Tryz.ntmps49
  go_wp2
  go_ret2
  exact ⟨rfl, rfl⟩
theorem state_nil (w : World) : Calls Tryz.prog 124 #[.pointer none] w fun e w' => e = .returned (.int .i64 1) ∧ w = w' := by
  go_enter Tryz.func124, Tryz.ntmps124
  go_wp2
  go_ret
  exact ⟨rfl, rfl⟩
theorem go_nil (w : World) : Calls Tryz.prog 85 #[.pointer none] w fun e w' => e = .returned (.int .i64 1) ∧ w = w' := by
  go_enter Tryz.func85, Tryz.ntmps85
  go_wp2_with (go_at_call 124; refine (state_nil _).mono ?_; rintro e w1 ⟨rfl, rfl⟩)
  go_ret
  exact ⟨rfl, rfl⟩
/-- A read on one lane. -/
theorem rd3_may (at_ : Int) (hk : 0 ≤ at_ ∧ at_ < 4096) (m : Nat) (hm : m ≤ 512) : cmdMay (opOf 3) at_ [] (m : Int) = true := by
  have e1 : opOf 3 = ⟨3, 1, false, 0, 1, false⟩ := by kernel_rfl
  rw [e1]
  unfold cmdMay fitsB
  simp
  omega
theorem rd3_many (at_ : Int) (m : Nat) : phsMany (cmdPhs (opOf 3) at_ [] (m : Int)) = 32 + 8 * (m : Int) := by
  have e1 : opOf 3 = ⟨3, 1, false, 0, 1, false⟩ := by kernel_rfl
  have e : cmdPhs (opOf 3) at_ [] m = [⟨1, [3], 0, 0⟩, ⟨1, [at_ / 65536, at_ / 256 % 256, at_ % 256], 0, 0⟩] ++ if 0 < (m : Int) then [⟨1, [], 0, (m : Int)⟩] else [] := by
    rw [e1]
    unfold cmdPhs
    dsimp only
    rw [if_pos (by decide), if_neg (by decide), if_neg (by decide), if_neg (by simp)]
    rfl
  rw [e]
  by_cases h0 : 0 < (m : Int)
  · rw [if_pos h0]
    show 0 + ((0 : Int) + ((1 : Int) + 0) * 8) + ((0 : Int) + ((3 : Int) + 0) * 8) + ((0 : Int) + ((0 : Int) + m) * 8) = _
    omega
  · rw [if_neg h0, show m = 0 by omega]
    rfl
theorem id_may (m : Nat) (hm : m ≤ 512) : cmdMay (opOf 159) 0 [] (m : Int) = true := by
  have e1 : opOf 159 = ⟨159, 0, false, 0, 1, false⟩ := by kernel_rfl
  rw [e1]
  unfold cmdMay fitsB
  simp
  omega
theorem id_many (m : Nat) : phsMany (cmdPhs (opOf 159) 0 [] (m : Int)) = 8 + 8 * (m : Int) := by
  have e1 : opOf 159 = ⟨159, 0, false, 0, 1, false⟩ := by kernel_rfl
  have e : cmdPhs (opOf 159) 0 [] m = [⟨1, [159], 0, 0⟩] ++ if 0 < (m : Int) then [⟨1, [], 0, (m : Int)⟩] else [] := by rw [e1]; rfl
  rw [e]
  by_cases h0 : 0 < (m : Int)
  · rw [if_pos h0]
    show 0 + ((0 : Int) + ((1 : Int) + 0) * 8) + ((0 : Int) + ((0 : Int) + m) * 8) = _
    omega
  · rw [if_neg h0, show m = 0 by omega]
    rfl
theorem idL_len (m : Nat) : (idL m).length = m := by unfold idL; rw [List.length_map, List.length_range]
theorem reg_read3 {c : Cor} {b k : Nat} {r0 r1 r2 L n q : Int} {xs ys : List Int} {w0 w : World} {rows : List (Value × List Value)} (h : Reg c b k r0 r1 r2 L xs ys n q w0 w rows) (hg : c.goes = false) (hj : c.job = none) (at_ : Int) (hk : 0 ≤ at_ ∧ at_ < 4096) (m : Nat) (hm : m ≤ 512) (hn : n + (33 + 8 * (m : Int)) ≤ 1048575) (L' : Int) (hL : L = -1 ∧ L' = -1 ∨ 32 + 8 * (m : Int) ≤ L ∧ L' = L - (32 + 8 * (m : Int))) :
    Calls Tryz.prog 50 #[.pointer (some ⟨k, 0, none⟩), .int .i64 3, .int .i64 at_, .slice none 0 0, .int .i64 (m : Int)] w fun e w' => ∃ oa oc, e = .returned (.tuple #[.slice oa m oc, .int .i64 0]) ∧ Reg c b k r0 r1 r2 L' xs ys (n + (33 + 8 * (m : Int))) (q + (32 + 8 * (m : Int))) w0 w' ((.slice oa m oc, ints (intsOf (fetched c.a at_ m))) :: rows) := by
  have hr := reg_run h.nil 3 (by decide) (by decide) at_ none 0 [] List.mem_cons_self (m : Int) (rd3_may at_ hk m hm) c (intsOf (fetched c.a at_ m)) (32 + 8 * (m : Int)) (rd3_many at_ m) (by omega) L' hL (fun t ht => by
    obtain ⟨d, h1, h2, h3, h4⟩ := rd3_all ht hg hj at_ hk m
    refine ⟨d, h1, h2, ?_, h4⟩
    rw [h3]
    unfold intsOf fetched byteOf
    rw [List.map_map]
    rfl)
  rw [show (intsOf (fetched c.a at_ m)).length = m from by unfold intsOf; rw [List.length_map, fetched_len]] at hr
  refine hr.mono ?_
  rintro e w' ⟨oa, oc, rfl, h2⟩
  refine ⟨oa, oc, rfl, ?_⟩
  rw [show n + (33 + 8 * (m : Int)) = n + (32 + 8 * (m : Int)) + 1 by omega]
  refine h2.rowsub fun r hr => ?_
  rcases List.mem_cons.1 hr with h | h
  · exact List.mem_cons.2 (.inl h)
  · exact List.mem_cons.2 (.inr (List.mem_cons_of_mem _ h))
theorem reg_id {c : Cor} {b k : Nat} {r0 r1 r2 L n q : Int} {xs ys : List Int} {w0 w : World} {rows : List (Value × List Value)} (h : Reg c b k r0 r1 r2 L xs ys n q w0 w rows) (hg : c.goes = false) (hj : c.job = none) (m : Nat) (hm : m ≤ 512) (hn : n + (9 + 8 * (m : Int)) ≤ 1048575) (L' : Int) (hL : L = -1 ∧ L' = -1 ∨ 8 + 8 * (m : Int) ≤ L ∧ L' = L - (8 + 8 * (m : Int))) :
    Calls Tryz.prog 50 #[.pointer (some ⟨k, 0, none⟩), .int .i64 159, .int .i64 0, .slice none 0 0, .int .i64 (m : Int)] w fun e w' => ∃ oa oc, e = .returned (.tuple #[.slice oa m oc, .int .i64 0]) ∧ Reg c b k r0 r1 r2 L' xs ys (n + (9 + 8 * (m : Int))) (q + (8 + 8 * (m : Int))) w0 w' ((.slice oa m oc, ints (idL m)) :: rows) := by
  have hr := reg_run h.nil 159 (by decide) (by decide) 0 none 0 [] List.mem_cons_self (m : Int) (id_may m hm) c (idL m) (8 + 8 * (m : Int)) (id_many m) (by omega) L' hL (fun t ht => id_all ht hg hj m)
  rw [idL_len] at hr
  refine hr.mono ?_
  rintro e w' ⟨oa, oc, rfl, h2⟩
  refine ⟨oa, oc, rfl, ?_⟩
  rw [show n + (9 + 8 * (m : Int)) = n + (8 + 8 * (m : Int)) + 1 by omega]
  refine h2.rowsub fun r hr => ?_
  rcases List.mem_cons.1 hr with h | h
  · exact List.mem_cons.2 (.inl h)
  · exact List.mem_cons.2 (.inr (List.mem_cons_of_mem _ h))
end Go.Proofs.YtepnljeojlbliaaGreat
