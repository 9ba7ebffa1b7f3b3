/- The way by which a read goes on no more, made once. · A controller whose way to leave was made: its calls (printed by gen_ctln.py, out of XCtlB). · The command that leaves first. -/
import Derived.Test.YtkjdhkpkcepilaaGreatCtlR
import Derived.Test.YtkjdhkpkcepilaaGreatReadG
namespace Go.Proofs.YtkjdhkpkcepilaaGreat
open Go.RowKit
/-- A controller whose way to leave was made: the phases lie in block g. -/
def KS.cellsM (K : KS) (b fo fi g : Nat) : List Value :=
  [.pointer (some ⟨b, 0, none⟩), .int .i64 K.r0, .int .i64 K.r1, .int .i64 K.r2, .pointer (some ⟨fo, 0, none⟩), .pointer (some ⟨fi, 0, none⟩), .int .i64 K.clocks, .bool K.goes, .int .i64 K.left, .bool K.lost,
   .int .u32 1, .int .i32 0, .int .u32 0, .slice (some ⟨g, 0, none⟩) 1 1]
def zeros4 : List Int := List.replicate 4 0
theorem made_ints4 : madeCells (Value.int .i64 0).cells (Int.toNat 4 * Tryz.t3.size) = (ints zeros4).toArray := by
  rw [show Tryz.t3.size = 1 from by kernel_rfl, show (Value.int .i64 0).cells = #[Value.int .i64 0] from rfl, made_gen, Nat.mul_one]
  rfl
theorem make_ints4 (u : World) : (Instr.makeSlice 34 (.int .i64 4) (.int .i64 4)).run Tryz.prog u = .ok (.slice (some ⟨u.heap.size, 0, none⟩) 4 4) (u.alloc (.cells (ints zeros4).toArray 3)) := by
  have := run_make (P := Tryz.prog) u 34 3 Tryz.t3 (.int .i64 0) Tryz.underlying34 (by kernel_rfl) (by kernel_rfl) .i64 .i64 4 4 (by decide) (by decide) (by show ((4 : Nat) : Int) * 8 ≤ _; decide) (by decide)
  rw [this, made_ints4]
  rfl
def leavePh : Ph := ⟨4, zeros4, 0, 0⟩
set_option maxHeartbeats 1000000 in
theorem leave1 (k : Nat) (pl : Addr) (w : World) (hp : w.cell? pl = some (.pointer (some ⟨k, 0, none⟩))) (_ : pl.block ≠ k) (hpl : pl.block < w.heap.size) (x : Value) (h13 : w.cell? ⟨k, 13, none⟩ = some x) (f13 : w.frozen? ⟨k, 13, none⟩ = false) (hbl : k < w.heap.size) :
    Calls Tryz.prog 103 #[.pointer (some pl)] w fun e w' => e = .returned (.tuple #[]) ∧ (∀ cs T, Blk w k cs T → Blk w' k (cs.set 13 (.slice (some ⟨w.heap.size + 1, 0, none⟩) 1 1)) T) ∧ Upd (fun j => j = k) w w' ∧ Blk w' w.heap.size (ints zeros4) 3 ∧ Blk w' (w.heap.size + 1) (phCells (leavePh, .slice (some ⟨w.heap.size, 0, none⟩) 4 4)) 75 := by
  have hmk := make_ints4
  go_enter Tryz.func103, Tryz.ntmps103
  have hpd : w.drew.cell? pl = some (.pointer (some ⟨k, 0, none⟩)) := ((Upd.refl none' w).drew.cell (p := pl) hpl (fun f => f)).trans hp
  go_region
  all_goals
    go_end0
    have hu := (Upd.refl (fun j => j = k) w).setCell ⟨k, 13, none⟩ (.slice (some ⟨w.heap.size + 1, 0, none⟩) 1 1) (fun _ => rfl)
    have hs0 : (w.setCell ⟨k, 13, none⟩ (.slice (some ⟨w.heap.size + 1, 0, none⟩) 1 1)).heap.size = w.heap.size := by simp
    refine ⟨rfl, fun cs T hb => (((hb.set 13 _).alloc _).alloc _).drew, ((hu.alloc _).alloc _).drew, ?_, ?_⟩
    · have := ((Blk.new (w.setCell ⟨k, 13, none⟩ (.slice (some ⟨w.heap.size + 1, 0, none⟩) 1 1)) (ints zeros4) 3).alloc (.cells (phCells (leavePh, .slice (some ⟨w.heap.size, 0, none⟩) 4 4)).toArray 75)).drew
      rw [hs0] at this
      exact this
    · have := (Blk.new ((w.setCell ⟨k, 13, none⟩ (.slice (some ⟨w.heap.size + 1, 0, none⟩) 1 1)).alloc (.cells (ints zeros4).toArray 3)) (phCells (leavePh, .slice (some ⟨w.heap.size, 0, none⟩) 4 4)) 75).drew
      have hs : ((w.setCell ⟨k, 13, none⟩ (.slice (some ⟨w.heap.size + 1, 0, none⟩) 1 1)).alloc (.cells (ints zeros4).toArray 3)).heap.size = w.heap.size + 1 := by simp
      rw [hs] at this
      exact this
set_option maxRecDepth 100000 in
set_option maxHeartbeats 1600000 in
/-- The doSlow of the controller's once, not yet done. -/
theorem leave_slow (k : Nat) (pl : Addr) (b fo fi : Nat) (K : KS) (w : World) (h : Blk w k (K.cells b fo fi) 112) (hp : w.cell? pl = some (.pointer (some ⟨k, 0, none⟩))) (hpb : pl.block ≠ k) (hpl : pl.block < w.heap.size) :
    Calls Tryz.prog 126 #[.pointer (some ⟨k, 10, none⟩), .func (.func 103) #[] #[.pointer (some pl)]] w fun e w' => e = .returned (.tuple #[]) ∧ Blk w' k (K.cellsM b fo fi (w.heap.size + 1)) 112 ∧ Upd (fun j => j = k) w w' ∧ Blk w' w.heap.size (ints zeros4) 3 ∧ Blk w' (w.heap.size + 1) (phCells (leavePh, .slice (some ⟨w.heap.size, 0, none⟩) 4 4)) 75 := by
  have h0 := h.cell 10
  have h1 := h.cell 11
  have f0 := h.frozen 10
  have f1 := h.frozen 11
  have hlt := h.lt
  simp only [KS.cells, List.getElem?_cons_succ, List.getElem?_cons_zero] at h0 h1
  have HH := Lib.hid h
  have hW := h.set 11 (.int .i32 1)
  have hl := run_call_load (P := Tryz.prog) Tryz.func135 (by kernel_rfl) (by kernel_rfl) (by kernel_rfl) .u32 (by kernel_rfl) (w := w.setCell ⟨k, 11, none⟩ (.int .i32 1)) (a := ⟨k, 10, none⟩) (x := 0) ((World.cell?_setCell_other _ ⟨k, 11, none⟩ ⟨k, 10, none⟩ _ (by simp)).trans h0)
  have hp1 : (w.setCell ⟨k, 11, none⟩ (.int .i32 1)).cell? pl = some (.pointer (some ⟨k, 0, none⟩)) := (World.cell?_setCell_other _ ⟨k, 11, none⟩ pl _ (fun h => hpb (by rw [← h]))).trans hp
  have h13 := hW.cell 13
  have f13 := hW.frozen 13
  have hT := leave1 k pl _ hp1 hpb (by simpa using hpl) _ h13 f13 hW.lt
  have hs1 : (w.setCell ⟨k, 11, none⟩ (.int .i32 1)).heap.size = w.heap.size := by simp
  rw [hs1] at hT
  have HT := Lib.hid hT
  have hnot : ∀ (x : Bool) (w : World), (Op.unary .not (.bool x)).run Tryz.prog w = .ok (.bool (!x)) w := fun _ _ => rfl
  clear h hW h13 f13 hp1 hT hs1
  go_enter_defers Tryz.func126, Tryz.ntmps126
  go_wp2_with (first | (go_at_call 136; refine (lock_free ⟨k, 11, none⟩ _ (by go_simp) (by go_simp)).mono ?_; rintro e w' ⟨rfl, rfl⟩) | (go_at_call 125; go_in) | (go_at_call 103; refine HT.out.mono ?_; rintro e w33 ⟨rfl, hB33, hU33, hh33, hg33⟩))
  have hX := hB33 _ _ (HH.out.set 11 (.int .i32 1))
  have x10 := hX.cell 10
  have y10 := hX.frozen 10
  have hY := hX.drew.set 10 (.int .u32 1)
  have x11 := hY.cell 11
  have y11 := hY.frozen 11
  have hUb : Upd (fun j => j = k) w ((w33.drew.setCell ⟨k, 10, none⟩ (.int .u32 1)).setCell ⟨k, 11, none⟩ (.int .i32 0)) := (((((Upd.refl (fun j => j = k) w).setCell ⟨k, 11, none⟩ (.int .i32 1) (fun _ => rfl)).trans hU33 (fun _ _ e => e)).drew).setCell ⟨k, 10, none⟩ _ (fun _ => rfl)).setCell ⟨k, 11, none⟩ _ (fun _ => rfl)
  have hUc : Upd (fun j => j = k) w33 ((w33.drew.setCell ⟨k, 10, none⟩ (.int .u32 1)).setCell ⟨k, 11, none⟩ (.int .i32 0)) := (((Upd.refl (fun j => j = k) w33).drew).setCell ⟨k, 10, none⟩ _ (fun _ => rfl)).setCell ⟨k, 11, none⟩ _ (fun _ => rfl)
  have hfin : Blk ((w33.drew.setCell ⟨k, 10, none⟩ (.int .u32 1)).setCell ⟨k, 11, none⟩ (.int .i32 0)) k (K.cellsM b fo fi (w.heap.size + 1)) 112 := hY.set 11 (.int .i32 0)
  have hh44 := hh33.upd hUc (by omega)
  have hg44 := hg33.upd hUc (by omega)
  refine leaves_cons (f := 138) (args := #[.pointer (some ⟨k, 10, none⟩), .bool true]) (by simp) (by simp [go_sem]) ?_
  refine (store_deferred ⟨k, 10, none⟩ _ .returning _ x10 y10).mono ?_
  rintro e u' w'' ⟨rfl, rfl, rfl⟩
  refine leaves_cons (f := 137) (args := #[.pointer (some ⟨k, 11, none⟩)]) (by simp [settle]) (by simp [go_sem]) ?_
  refine (unlock_deferred ⟨k, 11, none⟩ _ _ x11 y11).mono ?_
  rintro e u' w'' ⟨rfl, rfl, rfl⟩
  simp only [Leaves, settle]
  exact ⟨.tuple #[], results_none rfl _ _ _, rfl, hfin, hUb, hh44, hg44⟩
set_option maxRecDepth 100000 in
set_option maxHeartbeats 1600000 in
theorem leave_first (k : Nat) (pl : Addr) (b fo fi : Nat) (K : KS) (w : World) (h : Blk w k (K.cells b fo fi) 112) (hp : w.cell? pl = some (.pointer (some ⟨k, 0, none⟩))) (hpb : pl.block ≠ k) (hpl : pl.block < w.heap.size) :
    Calls Tryz.prog 102 #[.pointer (some ⟨k, 10, none⟩), .func (.func 103) #[] #[.pointer (some pl)]] w fun e w' => e = .returned (.tuple #[]) ∧ Blk w' k (K.cellsM b fo fi (w.heap.size + 1)) 112 ∧ Upd (fun j => j = k) w w' ∧ Blk w' w.heap.size (ints zeros4) 3 ∧ Blk w' (w.heap.size + 1) (phCells (leavePh, .slice (some ⟨w.heap.size, 0, none⟩) 4 4)) 75 := by
  have h0 := h.cell 10
  simp only [KS.cells, List.getElem?_cons_succ, List.getElem?_cons_zero] at h0
  have hl := run_call_load (P := Tryz.prog) Tryz.func135 (by kernel_rfl) (by kernel_rfl) (by kernel_rfl) .u32 (by kernel_rfl) (x := 0) h0
  have hnot : ∀ (x : Bool) (w : World), (Op.unary .not (.bool x)).run Tryz.prog w = .ok (.bool (!x)) w := fun _ _ => rfl
  have HS := Lib.hid (leave_slow k pl b fo fi K w h hp hpb hpl)
  clear h
  go_enter Tryz.func102, Tryz.ntmps102
  go_wp2_with (first | (go_at_call 126; refine HS.out.mono ?_; rintro e w' ⟨rfl, hB⟩) | (go_at_call 125; go_in))
  go_end0
  exact ⟨rfl, hB⟩
/-- A controller whose way to leave was made: its own block alone (the phases are read). -/
def CtlM (g k b fo fi : Nat) (K : KS) : Own := fun w S => Blk w k (K.cellsM b fo fi g) 112 ∧ ∀ j, S j ↔ j = k
theorem ctlM_ok (g k b fo fi : Nat) (K : KS) : (CtlM g k b fo fi K).Ok := ⟨fun h u hT => ⟨h.1.upd u (hT k ((h.2 k).2 rfl)), h.2⟩, fun h j hj => by rw [(h.2 j).1 hj]; exact h.1.lt⟩
/-- The rows that are read of the way to leave. -/
def leaveRows (h g : Nat) : List (Value × List Value) := [(.slice (some ⟨g, 0, none⟩) 4 4, phCells (leavePh, .slice (some ⟨h, 0, none⟩) 4 4)), (.slice (some ⟨h, 0, none⟩) 4 4, ints zeros4)]
set_option maxHeartbeats 1000000 in
/-- The way to leave, made. -/
theorem c_leaving {P Q : Own} {w0 w : World} {rows : List (Value × List Value)} {k b fo fi : Nat} {K : KS} (hQ : Q.Ok) (hC : Ctx P ((CtlC k b fo fi K).star Q) w0 w rows) :
    Calls Tryz.prog 67 #[.pointer (some ⟨k, 0, none⟩)] w fun e w' => ∃ h g, e = .returned (.slice (some ⟨g, 0, none⟩) 1 1) ∧ Ctx P ((CtlM g k b fo fi K).star Q) w0 w' (leaveRows h g ++ rows) := by
  have hcall : ∀ S, CtlC k b fo fi K w S → Calls Tryz.prog 67 #[.pointer (some ⟨k, 0, none⟩)] w fun e w' => ∃ S' news, (e = .returned (.slice (some ⟨w.heap.size + 2, 0, none⟩) 1 1) ∧ news = leaveRows (w.heap.size + 1) (w.heap.size + 2)) ∧ (∀ r ∈ news, RowNew w w' S' r) ∧ CtlM (w.heap.size + 2) k b fo fi K w' S' ∧ (∀ j, S' j → S j ∨ w.heap.size ≤ j) ∧ Upd S w w' := by
    rintro S ⟨h1, h2⟩
    have hmf : ∀ (fn : Fn) (first cap : Array Value) (w : World), (Instr.makeFunc fn first cap).run Tryz.prog w = .ok (.func fn first cap) w := fun _ _ _ _ => rfl
    have hk := h1.lt
    have hA := h1.alloc (.cells #[.pointer (some ⟨k, 0, none⟩)] 44)
    have hp := (Blk.new w [.pointer (some ⟨k, 0, none⟩)] 44).cell 0
    simp only [List.getElem?_cons_zero] at hp
    have hf := leave_first k ⟨w.heap.size, 0, none⟩ b fo fi K _ hA hp (by dsimp only; omega) (by simp)
    have hs : (w.alloc (.cells #[.pointer (some ⟨k, 0, none⟩)] 44)).heap.size = w.heap.size + 1 := by simp
    rw [hs] at hf
    have HF := Lib.hid hf
    have H2 := Lib.hid h2
    clear hA hp hf h1 h2
    go_enter Tryz.func67, Tryz.ntmps67
    go_wp2_with (go_at_call 102; refine HF.out.mono ?_; rintro e w' ⟨rfl, hB, hU, hh, hg⟩; have k0 := (hU.cell (p := ⟨w.heap.size, 0, none⟩) (by simp) (by dsimp only; omega)).trans ((Blk.new w [.pointer (some ⟨k, 0, none⟩)] 44).cell 0); have k13 := hB.cell 13; simp only [KS.cellsM, List.getElem?_cons_succ, List.getElem?_cons_zero] at k0 k13)
    go_ret
    have hUw : Upd (fun j => j = k) w w' := ((Upd.refl (fun j => j = k) w).alloc _).trans hU (fun _ _ e => e)
    refine ⟨S, _, ⟨rfl, rfl⟩, fun r hr => ?_, ⟨hB, H2.out⟩, fun j hj => .inl hj, hUw.mono (fun j _ hj => (H2.out j).2 hj)⟩
    have hgl := hg.lt
    have hhl := hh.lt
    simp only [leaveRows, List.mem_cons, List.not_mem_nil, or_false] at hr
    rcases hr with rfl | rfl
    · refine ⟨⟨(show 4 * 8 ≤ 140737488351232 by decide), some ⟨w.heap.size + 2, 0, none⟩, 4, rfl, (show 4 ≤ 4 by decide), fun _ => ⟨_, 0, rfl, hgl, fun j _ => ?_⟩⟩, fun j hj => ?_⟩
      · rw [Nat.zero_add]
        exact hg.cell j
      · simp only [Value.ownBlock, Option.some.injEq] at hj
        subst hj
        exact ⟨by omega, hgl, fun hs => by have := (H2.out _).1 hs; omega⟩
    · refine ⟨⟨(show 4 * 8 ≤ 140737488351232 by decide), some ⟨w.heap.size + 1, 0, none⟩, 4, rfl, (show 4 ≤ 4 by decide), fun _ => ⟨_, 0, rfl, hhl, fun j _ => ?_⟩⟩, fun j hj => ?_⟩
      · rw [Nat.zero_add]
        exact hh.cell j
      · simp only [Value.ownBlock, Option.some.injEq] at hj
        subst hj
        exact ⟨by omega, hhl, fun hs => by have := (H2.out _).1 hs; omega⟩
  have hrun := (hC.swap (ctlC_ok k b fo fi K) hQ).run (P' := CtlM (w.heap.size + 2) k b fo fi K) (ctlM_ok _ _ _ _ _ _) (X := fun e news => e = .returned (.slice (some ⟨w.heap.size + 2, 0, none⟩) 1 1) ∧ news = leaveRows (w.heap.size + 1) (w.heap.size + 2)) (fun S hS _ _ => hcall S hS)
  refine hrun.mono ?_
  rintro e w' ⟨news, ⟨rfl, rfl⟩, hC2⟩
  exact ⟨_, _, rfl, hC2.swap hC.okP hQ⟩
end Go.Proofs.YtkjdhkpkcepilaaGreat
namespace Go.Proofs.YtkjdhkpkcepilaaGreat
open Go.RowKit
theorem ctlM_cells {P Q : Own} {w0 w : World} {rows : List (Value × List Value)} {gl k b fo fi : Nat} {K : KS} (h : Ctx P ((CtlM gl k b fo fi K).star Q) w0 w rows) :
    w.cell? ⟨k, 0, none⟩ = some (.pointer (some ⟨b, 0, none⟩)) ∧ w.cell? ⟨k, 6, none⟩ = some (.int .i64 K.clocks) ∧ w.cell? ⟨k, 7, none⟩ = some (.bool K.goes) ∧ w.cell? ⟨k, 8, none⟩ = some (.int .i64 K.left) ∧ w.cell? ⟨k, 9, none⟩ = some (.bool K.lost) ∧ (∀ j, w.frozen? ⟨k, j, none⟩ = false) ∧ k < w.heap.size := by
  obtain ⟨S, ⟨h1, h2⟩, h3⟩ := h.get2
  have c0 := h1.cell 0
  have c6 := h1.cell 6
  have c7 := h1.cell 7
  have c8 := h1.cell 8
  have c9 := h1.cell 9
  simp only [KS.cellsM, List.getElem?_cons_succ, List.getElem?_cons_zero] at c0 c6 c7 c8 c9
  exact ⟨c0, c6, c7, c8, c9, fun j => h1.frozen j, h1.lt⟩
/-- A field of a controller is stored. -/
theorem ctlM_set {P Q : Own} {w0 w : World} {rows : List (Value × List Value)} {gl k b fo fi : Nat} {K K' : KS} (hQ : Q.Ok) (h : Ctx P ((CtlM gl k b fo fi K).star Q) w0 w rows) (i : Nat) (v : Value) (hs : (K.cellsM b fo fi gl).set i v = K'.cellsM b fo fi gl) : Ctx P ((CtlM gl k b fo fi K').star Q) w0 (w.setCell ⟨k, i, none⟩ v) rows := by
  refine h.step2 (ctlM_ok _ _ _ _ _ _) hQ (ctlM_ok _ _ _ _ _ _) ?_
  rintro S ⟨h1, h2⟩
  exact ⟨S, ⟨hs ▸ h1.set i v, h2⟩, fun j hj => .inl hj, (Upd.refl _ _).setCell _ _ (fun _ => (h2 k).2 rfl)⟩
theorem kM_state {P Q : Own} {w0 w : World} {rows : List (Value × List Value)} {gl k b fo fi : Nat} {K : KS} (h : Ctx P ((CtlM gl k b fo fi K).star Q) w0 w rows) :
    Calls Tryz.prog 63 #[.pointer (some ⟨k, 0, none⟩)] w fun e w' => e = .returned (.int .i64 (if K.lost then 1101 else 0)) ∧ w = w' := by
  obtain ⟨-, -, -, -, c9, -⟩ := ctlM_cells h
  clear h
  cases hl : K.lost
  all_goals
    rw [hl] at c9
    go_enter Tryz.func63, Tryz.ntmps63
    go_wp2
    go_ret
    exact ⟨rfl, rfl⟩
theorem kM_clocks {P Q : Own} {w0 w : World} {rows : List (Value × List Value)} {gl k b fo fi : Nat} {K : KS} (h : Ctx P ((CtlM gl k b fo fi K).star Q) w0 w rows) :
    Calls Tryz.prog 31 #[.pointer (some ⟨k, 0, none⟩)] w fun e w' => e = .returned (.int .i64 K.clocks) ∧ w = w' := by
  obtain ⟨-, c6, -⟩ := ctlM_cells h
  clear h
  go_enter Tryz.func31, Tryz.ntmps31
  go_wp2
  go_ret
  exact ⟨rfl, rfl⟩
set_option maxRecDepth 100000 in
set_option maxHeartbeats 4000000 in
theorem kM_drive {Q : Own} {w0 w : World} {b : Nat} {s : St} {N : Int} {rows : List (Value × List Value)} {gl k fo fi : Nat} {K : KS} (hQ : Q.Ok) (hC : Ctx (ChipP b s N) ((CtlM gl k b fo fi K).star Q) w0 w rows) (hN : 0 ≤ N) (hsel : s.sel = false) (a : Option Addr) (n cap : Nat) (L : List (Ph × Value)) (hP : PhsV rows (.slice a n cap) L) (hkl : -9223372036854775808 ≤ K.left ∧ K.left ≤ 9223372036854775807) (hkc : 0 ≤ K.clocks ∧ K.clocks ≤ 1048576)
    (hlost : K.lost = false) (hall : L.all (fun x => x.1.may) = true) (hroom : N + phsMany (L.map Prod.fst) ≤ 1048575) (d : Drv) (hd : Drv.phases ⟨s.select, [], 0, K.left⟩ (L.map Prod.fst) = (d, true)) :
    Calls Tryz.prog 66 #[.pointer (some ⟨k, 0, none⟩), .slice a n cap] w fun e w' => ∃ oa oc, e = .returned (.tuple #[.slice oa d.out.length oc, .int .i64 0]) ∧ Ctx (ChipP b d.s.deselect (N + d.clocks + 1)) ((CtlM gl k b fo fi (K.driven d)).star Q) w0 w' ((.slice oa d.out.length oc, ints d.out) :: rows) := by
  obtain ⟨c0, -, -, c8, -⟩ := ctlM_cells hC
  have hkept := phases_kept (L.map Prod.fst) ⟨s.select, [], 0, K.left⟩ (by rw [map_all]; exact hall)
  rw [hd] at hkept
  have hdc0 := hkept.up
  have hdc1 := hkept.many
  dsimp only at hdc0 hdc1
  have hdr2 := c_drive ((ctlM_ok gl k b fo fi K).star hQ) hC.drew hN hsel a n cap L hP K.left hkl hall (.inl hroom) d true hd
  have HDR := Lib.hid hdr2
  have hdb : d.clocks ≤ 1048575 := by omega
  have HQ := Lib.hid hQ
  clear hdr2 hkept hC hP hd hroom
  have hwl : 0 ≤ K.left → IntKind.i64.wrap (K.left - d.clocks) = K.left - d.clocks := fun h => IntWalk.i64_in _ (by omega)
  have HWL := Lib.hid hwl
  clear hwl
  have hcl : IntKind.i64.wrap (K.clocks + d.clocks) = K.clocks + d.clocks := IntWalk.i64_in _ (by omega)
  go_enter Tryz.func66, Tryz.ntmps66
  go_upto_region 1 with fail
  go_region_held3 (fun w' => w'.cell? ⟨k, 0, none⟩ = some (.pointer (some ⟨b, 0, none⟩)) ∧ w'.cell? ⟨k, 8, none⟩ = some (.int .i64 K.left)) (first | exact ⟨c0, c8⟩ | exact ⟨e0, e8⟩) (first | (go_at_call 22; refine HDR.out.mono ?_; rintro e w3 ⟨oa, oc, rfl, hC3⟩; obtain ⟨e0, e6, e7, e8, e9, ef, -⟩ := ctlM_cells hC3))
  have HC3 := Lib.hid hC3
  have f6 := ef 6
  have f8 := ef 8
  have f9 := ef 9
  clear hC3 ef c0 c8
  obtain ⟨kr0, kr1, kr2, kcl, kgo, kle, klo⟩ := K
  dsimp only at *
  subst hlost
  have hs1 := ctlM_set (K' := ⟨kr0, kr1, kr2, kcl + d.clocks, kgo, kle, false⟩) HQ.out HC3.out 6 (.int .i64 (kcl + d.clocks)) rfl
  by_cases hl0 : 0 ≤ kle
  · have hEQ : (KS.driven ⟨kr0, kr1, kr2, kcl, kgo, kle, false⟩ d) = ⟨kr0, kr1, kr2, kcl + d.clocks, kgo, kle - d.clocks, false⟩ := by unfold KS.driven; dsimp only; rw [if_pos hl0]
    have HEQ := Lib.hid hEQ
    have hwl := HWL.out hl0
    have hs2 := ctlM_set (K' := ⟨kr0, kr1, kr2, kcl + d.clocks, kgo, kle - d.clocks, false⟩) HQ.out hs1 8 (.int .i64 (kle - d.clocks)) rfl
    have HS := Lib.hid hs2
    clear hs1 hs2 hEQ
    go_wp2
    go_ret2
    exact ⟨oa, oc, rfl, by rw [HEQ.out]; exact HS.out⟩
  · have hEQ : (KS.driven ⟨kr0, kr1, kr2, kcl, kgo, kle, false⟩ d) = ⟨kr0, kr1, kr2, kcl + d.clocks, kgo, kle, false⟩ := by unfold KS.driven; dsimp only; rw [if_neg hl0]
    have HEQ := Lib.hid hEQ
    have HS := Lib.hid hs1
    clear hs1 hEQ
    go_wp2
    go_ret2
    exact ⟨oa, oc, rfl, by rw [HEQ.out]; exact HS.out⟩
set_option maxRecDepth 100000 in
set_option maxHeartbeats 8000000 in
theorem cM_run {Q : Own} {w0 w : World} {b : Nat} {s : St} {N : Int} {rows : List (Value × List Value)} {gl k fo fi : Nat} {K : KS} (hQ : Q.Ok) (hC : Ctx (ChipP b s N) ((CtlM gl k b fo fi K).star Q) w0 w rows) (hN : 0 ≤ N) (hsel : s.sel = false) (hkl : -9223372036854775808 ≤ K.left ∧ K.left ≤ 9223372036854775807) (hkc : 0 ≤ K.clocks ∧ K.clocks ≤ 1048576)
    (hlost : K.lost = false) (hgo : K.goes = false) (c : Int) (hc : opIs c = true) (hc2 : c ≠ 235) (at_ : Int) (a : Option Addr) (cp : Nat) (data : List Int) (hdd : (.slice a data.length cp, ints data) ∈ rows) (read : Int) (hmay : cmdMay (opOf c) at_ data read = true) (hroom : N + phsMany (cmdPhs (opOf c) at_ data read) ≤ 1048575) (d : Drv) (hd : Drv.phases ⟨s.select, [], 0, K.left⟩ (cmdPhs (opOf c) at_ data read) = (d, true)) :
    Calls Tryz.prog 36 #[.pointer (some ⟨k, 0, none⟩), .int .i64 c, .int .i64 at_, .slice a data.length cp, .int .i64 read] w fun e w' => ∃ oa oc, e = .returned (.tuple #[.slice oa d.out.length oc, .int .i64 0]) ∧ Ctx (ChipP b d.s.deselect (N + d.clocks + 1)) ((CtlM gl k b fo fi (K.driven d)).star Q) w0 w' ((.slice oa d.out.length oc, ints d.out) :: rows) := by
  have hcall := cmd_all c hc at_ data read hmay
  have hfind := tab_find c hc
  have hst := kM_state hC
  rw [hlost] at hst
  have hcmd := fun w1 (h : Ctx (ChipP b s N) ((CtlM gl k b fo fi K).star Q) w0 w1 rows) => c_command ((ctlM_ok gl k b fo fi K).star hQ) h c hc at_ a cp data hdd read hmay
  have hdrv := fun w1 rows1 (h : Ctx (ChipP b s N) ((CtlM gl k b fo fi K).star Q) w0 w1 rows1) g m cap L (hP : PhsV rows1 (.slice (some ⟨g, 0, none⟩) m cap) L) (hL : L.map Prod.fst = cmdPhs (opOf c) at_ data read) => kM_drive hQ h hN hsel (some ⟨g, 0, none⟩) m cap L hP hkl hkc hlost (by rw [← map_all, hL]; exact hcall) (by rw [hL]; exact hroom) d (by rw [hL]; exact hd)
  have HSET : Hid (∀ w1 rows1, Ctx (ChipP b d.s.deselect (N + d.clocks + 1)) ((CtlM gl k b fo fi (K.driven d)).star Q) w0 w1 rows1 → Ctx (ChipP b d.s.deselect (N + d.clocks + 1)) ((CtlM gl k b fo fi (K.driven d)).star Q) w0 (w1.setCell ⟨k, 7, none⟩ (.bool false)) rows1) := Lib.hid (fun w1 rows1 h => by
    refine ctlM_set hQ h 7 (.bool false) ?_
    obtain ⟨kr0, kr1, kr2, kcl, kgo, kle, klo⟩ := K
    dsimp only at hgo
    subst hgo
    rfl)
  have HG7 : Hid (∀ w1 rows1, Ctx (ChipP b d.s.deselect (N + d.clocks + 1)) ((CtlM gl k b fo fi (K.driven d)).star Q) w0 w1 rows1 → w1.cell? ⟨k, 7, none⟩ = some (.bool false) ∧ w1.frozen? ⟨k, 7, none⟩ = false) := Lib.hid (fun w1 rows1 h => by
    obtain ⟨-, -, e7, -, -, ef, -⟩ := ctlM_cells h
    refine ⟨?_, ef 7⟩
    rw [e7]
    unfold KS.driven
    rw [hgo])
  have HG0 : Hid (∀ w1 rows1, Ctx (ChipP b s N) ((CtlM gl k b fo fi K).star Q) w0 w1 rows1 → w1.cell? ⟨k, 7, none⟩ = some (.bool false)) := Lib.hid (fun w1 rows1 h => by
    obtain ⟨-, -, e7, -⟩ := ctlM_cells h
    rw [e7, hgo])
  have HC := Lib.hid hC
  obtain ⟨o, ho⟩ : ∃ o, opOf c = o := ⟨_, rfl⟩
  rw [ho] at hfind hcmd hdrv
  obtain ⟨by', ad, mo, du, da, inn⟩ := o
  unfold POp.cells at hfind hcmd
  dsimp only at hfind hcmd
  have HFIND := Lib.hid hfind
  have HCMD := Lib.hid hcmd
  have HDRV := Lib.hid hdrv
  have HST := Lib.hid hst
  have hcb : (c == 235) = false := by simpa using hc2
  clear hcall hfind hst hcmd hdrv hC hc ho hd hmay hroom hdd hlost hgo hkl hkc hsel
  go_enter Tryz.func36, Tryz.ntmps36
  go_upto_region 8 with (first | (go_at_call 63; refine HST.out.mono ?_; rintro e w1 ⟨rfl, rfl⟩) | (go_at_call 64; refine (HFIND.out _).mono ?_; rintro e w2 ⟨rfl, hU2⟩; have HC2 := Lib.hid ((HC.out.frame hU2).alloc (.cells #[.int .i64 by', .int .i64 ad, .bool mo, .int .i64 du, .int .i64 da, .bool inn] 28))) | (go_at_call 65; refine (HCMD.out _ HC2.out).mono ?_; rintro e w3 ⟨g, m, cap, L, rows', rfl, hL, hC3, hP3⟩; have c7 := HG0.out _ _ hC3))
  have HDR := Lib.hid (HDRV.out _ _ hC3 g m cap L hP3 hL)
  clear hC3 hP3 hL HCMD HDRV HFIND HST HC
  go_wp2_with (go_at_call 66; refine HDR.out.mono ?_; rintro e w4 ⟨oa, oc, rfl, hC4⟩; obtain ⟨d7, df7⟩ := HG7.out _ _ hC4)
  have hC5 := HSET.out _ _ hC4
  go_ret2
  refine ⟨oa, oc, rfl, hC5.sub fun r hr => ?_⟩
  rcases List.mem_cons.1 hr with h | h
  · exact List.mem_cons.2 (.inl h)
  · exact List.mem_cons.2 (.inr (List.mem_append.2 (.inr h)))
theorem leave_phs {rows : List (Value × List Value)} (h g : Nat) (hs : ∀ r ∈ leaveRows h g, r ∈ rows) : PhsV rows (.slice (some ⟨g, 0, none⟩) 1 1) [(leavePh, .slice (some ⟨h, 0, none⟩) 4 4)] := by
  refine ⟨some ⟨g, 0, none⟩, 1, rfl, Nat.le_refl _, fun h => (by cases h), (show 1 ≤ 4398046511104 by decide), .inr (hs _ List.mem_cons_self), fun x hx => ?_⟩
  simp only [List.mem_cons, List.not_mem_nil, or_false] at hx
  subst hx
  exact ⟨⟨some ⟨h, 0, none⟩, 4, rfl, Nat.le_refl _⟩, (show 4 * 8 ≤ 140737488351232 by decide), .inr (hs _ (List.mem_cons_of_mem _ List.mem_cons_self))⟩
set_option maxRecDepth 100000 in
set_option maxHeartbeats 8000000 in
/-- A command that is another one: the read goes on no more. -/
theorem c_run_leave {Q : Own} {w0 w : World} {b : Nat} {s : St} {N : Int} {rows : List (Value × List Value)} {k fo fi : Nat} {K : KS} (hQ : Q.Ok) (hC : Ctx (ChipP b s N) ((CtlC k b fo fi K).star Q) w0 w rows) (hN : 0 ≤ N) (hsel : s.sel = false) (hkl : -9223372036854775808 ≤ K.left ∧ K.left ≤ 9223372036854775807) (hkc0 : 0 ≤ K.clocks ∧ K.clocks ≤ 1048560)
    (hlost : K.lost = false) (hgo : K.goes = true) (hleft : K.left = -1) (c : Int) (hc : opIs c = true) (hc2 : c ≠ 235) (at_ : Int) (a : Option Addr) (cp : Nat) (data : List Int) (hdd : (.slice a data.length cp, ints data) ∈ rows) (read : Int) (hmay : cmdMay (opOf c) at_ data read = true) (d1 : Drv) (hd1 : Drv.phases ⟨s.select, [], 0, -1⟩ [leavePh] = (d1, true)) (hdc1 : d1.clocks = 8) (hds1 : d1.s.deselect.sel = false) (hroom : N + 9 + phsMany (cmdPhs (opOf c) at_ data read) ≤ 1048575) (d : Drv) (hd : Drv.phases ⟨d1.s.deselect.select, [], 0, -1⟩ (cmdPhs (opOf c) at_ data read) = (d, true)) :
    Calls Tryz.prog 36 #[.pointer (some ⟨k, 0, none⟩), .int .i64 c, .int .i64 at_, .slice a data.length cp, .int .i64 read] w fun e w' => ∃ gl oa oc, e = .returned (.tuple #[.slice oa d.out.length oc, .int .i64 0]) ∧ Ctx (ChipP b d.s.deselect (N + d1.clocks + 1 + d.clocks + 1)) ((CtlM gl k b fo fi (({ K.driven d1 with goes := false } : KS).driven d)).star Q) w0 w' ((.slice oa d.out.length oc, ints d.out) :: rows) := by
  have hkc : 0 ≤ K.clocks ∧ K.clocks ≤ 1048576 := by omega
  have hcall := cmd_all c hc at_ data read hmay
  have hfind := tab_find c hc
  have hst := k_state hC
  rw [hlost] at hst
  have hcmd := fun w1 (h : Ctx (ChipP b s N) ((CtlC k b fo fi K).star Q) w0 w1 rows) => c_command ((ctlC_ok k b fo fi K).star hQ) h c hc at_ a cp data hdd read hmay
  have HLV : Hid (∀ w1 rows1, Ctx (ChipP b s N) ((CtlC k b fo fi K).star Q) w0 w1 rows1 → _) := Lib.hid (fun w1 rows1 h => c_leaving (k := k) (b := b) (fo := fo) (fi := fi) (K := K) hQ h)
  have HD1 : Hid (∀ w1 rows1 gl h (hC : Ctx (ChipP b s N) ((CtlM gl k b fo fi K).star Q) w0 w1 rows1) (hs : ∀ r ∈ leaveRows h gl, r ∈ rows1), _) := Lib.hid (fun w1 rows1 gl h hC hs => kM_drive hQ hC hN hsel (some ⟨gl, 0, none⟩) 1 1 _ (leave_phs h gl hs) hkl hkc hlost (by kernel_rfl) (by show N + 8 ≤ 1048575; have := phsMany_bd _ hcall; omega) d1 (by rw [hleft]; exact hd1))
  have HD2 : Hid (∀ w1 rows1 gl (h : Ctx (ChipP b d1.s.deselect (N + d1.clocks + 1)) ((CtlM gl k b fo fi { K.driven d1 with goes := false }).star Q) w0 w1 rows1) g m cap L (hP : PhsV rows1 (.slice (some ⟨g, 0, none⟩) m cap) L) (hL : L.map Prod.fst = cmdPhs (opOf c) at_ data read), _) := Lib.hid (fun w1 rows1 gl h g m cap L hP hL => kM_drive hQ h (by omega) hds1 (some ⟨g, 0, none⟩) m cap L hP (by unfold KS.driven; dsimp only; rw [if_neg (by omega)]; exact hkl) (by unfold KS.driven; dsimp only; omega) (by unfold KS.driven; exact hlost) (by rw [← map_all, hL]; exact hcall) (by rw [hL]; omega) d (by rw [hL, show ({ K.driven d1 with goes := false } : KS).left = -1 from by unfold KS.driven; dsimp only; rw [if_neg (by omega)]; exact hleft]; exact hd))
  have HSET1 : Hid (∀ w1 rows1 gl, Ctx (ChipP b d1.s.deselect (N + d1.clocks + 1)) ((CtlM gl k b fo fi (K.driven d1)).star Q) w0 w1 rows1 → Ctx (ChipP b d1.s.deselect (N + d1.clocks + 1)) ((CtlM gl k b fo fi { K.driven d1 with goes := false }).star Q) w0 (w1.setCell ⟨k, 7, none⟩ (.bool false)) rows1) := Lib.hid (fun w1 rows1 gl h => ctlM_set hQ h 7 (.bool false) rfl)
  have HSET2 : Hid (∀ w1 rows1 gl, Ctx (ChipP b d.s.deselect (N + d1.clocks + 1 + d.clocks + 1)) ((CtlM gl k b fo fi (({ K.driven d1 with goes := false } : KS).driven d)).star Q) w0 w1 rows1 → Ctx (ChipP b d.s.deselect (N + d1.clocks + 1 + d.clocks + 1)) ((CtlM gl k b fo fi (({ K.driven d1 with goes := false } : KS).driven d)).star Q) w0 (w1.setCell ⟨k, 7, none⟩ (.bool false)) rows1) := Lib.hid (fun w1 rows1 gl h => ctlM_set hQ h 7 (.bool false) rfl)
  have HG1 : Hid (∀ w1 rows1 gl, Ctx (ChipP b d1.s.deselect (N + d1.clocks + 1)) ((CtlM gl k b fo fi (K.driven d1)).star Q) w0 w1 rows1 → w1.cell? ⟨k, 7, none⟩ = some (.bool true) ∧ w1.frozen? ⟨k, 7, none⟩ = false) := Lib.hid (fun w1 rows1 gl h => by
    obtain ⟨-, -, e7, -, -, ef, -⟩ := ctlM_cells h
    refine ⟨?_, ef 7⟩
    rw [e7]
    unfold KS.driven
    rw [hgo])
  have HG2 : Hid (∀ w1 rows1 gl, Ctx (ChipP b d.s.deselect (N + d1.clocks + 1 + d.clocks + 1)) ((CtlM gl k b fo fi (({ K.driven d1 with goes := false } : KS).driven d)).star Q) w0 w1 rows1 → w1.cell? ⟨k, 7, none⟩ = some (.bool false) ∧ w1.frozen? ⟨k, 7, none⟩ = false) := Lib.hid (fun w1 rows1 gl h => by
    obtain ⟨-, -, e7, -, -, ef, -⟩ := ctlM_cells h
    exact ⟨e7, ef 7⟩)
  have HG0 : Hid (∀ w1 rows1, Ctx (ChipP b s N) ((CtlC k b fo fi K).star Q) w0 w1 rows1 → w1.cell? ⟨k, 7, none⟩ = some (.bool true)) := Lib.hid (fun w1 rows1 h => by
    obtain ⟨-, -, e7, -⟩ := ctl_cells h
    rw [e7, hgo])
  have HC := Lib.hid hC
  obtain ⟨o, ho⟩ : ∃ o, opOf c = o := ⟨_, rfl⟩
  rw [ho] at hfind hcmd HD2
  obtain ⟨by', ad, mo, du, da, inn⟩ := o
  unfold POp.cells at hfind hcmd
  dsimp only at hfind hcmd
  have HFIND := Lib.hid hfind
  have HCMD := Lib.hid hcmd
  have HST := Lib.hid hst
  have hcb : (c == 235) = false := by simpa using hc2
  clear hcall hfind hst hcmd hC hc ho hd hmay hroom hdd hlost hgo hleft hd1 hds1 hkl hkc hsel hN
  go_enter Tryz.func36, Tryz.ntmps36
  go_upto_region 8 with (first | (go_at_call 63; refine HST.out.mono ?_; rintro e w1 ⟨rfl, rfl⟩) | (go_at_call 64; refine (HFIND.out _).mono ?_; rintro e w2 ⟨rfl, hU2⟩; have HC2 := Lib.hid ((HC.out.frame hU2).alloc (.cells #[.int .i64 by', .int .i64 ad, .bool mo, .int .i64 du, .int .i64 da, .bool inn] 28))) | (go_at_call 65; refine (HCMD.out _ HC2.out).mono ?_; rintro e w3 ⟨g, m, cap, L, rows', rfl, hL, hC3, hP3⟩; have c7 := HG0.out _ _ hC3))
  have HLV2 := Lib.hid (HLV.out _ _ hC3)
  have HP3 := Lib.hid (And.intro hP3 hL)
  clear hC3 hP3 hL HCMD HFIND HST HC HLV
  go_upto_region 12 with (first | (go_at_call 67; refine HLV2.out.mono ?_; rintro e w4 ⟨h, gl, rfl, hC4⟩; have HD1a := Lib.hid (HD1.out _ _ gl h hC4 (fun r hr => List.mem_append_left _ hr)); clear hC4) | (go_at_call 66; refine HD1a.out.mono ?_; rintro e w5 ⟨oa5, oc5, rfl, hC5⟩; obtain ⟨d7, df7⟩ := HG1.out _ _ _ hC5))
  have HC5 := Lib.hid (HSET1.out _ _ _ hC5)
  have HD2a := Lib.hid (HD2.out _ _ _ HC5.out g m cap L (HP3.out.1.sub fun r hr => List.mem_cons_of_mem _ (List.mem_append_right _ hr)) HP3.out.2)
  clear hC5 HLV2 HD1 HD1a HSET1 HG1 HD2
  go_wp2_with (go_at_call 66; refine HD2a.out.mono ?_; rintro e w6 ⟨oa, oc, rfl, hC6⟩; obtain ⟨e7, ef7⟩ := HG2.out _ _ _ hC6)
  have hC7 := HSET2.out _ _ _ hC6
  go_ret2
  refine ⟨gl, oa, oc, rfl, hC7.sub fun r hr => ?_⟩
  rcases List.mem_cons.1 hr with h | h
  · exact List.mem_cons.2 (.inl h)
  · exact List.mem_cons_of_mem _ (List.mem_cons_of_mem _ (List.mem_append_right _ (List.mem_append.2 (.inr h))))
end Go.Proofs.YtkjdhkpkcepilaaGreat
