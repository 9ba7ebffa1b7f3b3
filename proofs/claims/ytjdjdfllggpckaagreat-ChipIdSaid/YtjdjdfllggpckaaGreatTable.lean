/- The table that the chip makes once: sync.Once, one goroutine. -/
import Derived.Test.YtjdjdfllggpckaaGreatSfdp
import Derived.Test.YtjdjdfllggpckaaGreatChipW8
import Derived.Defers
import Derived.Laws.Pointers
import Derived.Laws.LoneSync
import Derived.RegionCalls
import Derived.Laws.NewBlocks
import Derived.Deep.RegionHeld3
namespace Go.Proofs.YtjdjdfllggpckaaGreat
open Go.RowKit
theorem o_disable (w : World) : (callFunc 127 #[]).run Tryz.prog w = .ok (.value (.tuple #[])) w := run_call_mark0 Tryz.func127 (by kernel_rfl) (by kernel_rfl) (by kernel_rfl) .disable (by kernel_rfl) w
theorem o_enable (w : World) : (callFunc 129 #[]).run Tryz.prog w = .ok (.value (.tuple #[])) w := run_call_mark0 Tryz.func129 (by kernel_rfl) (by kernel_rfl) (by kernel_rfl) .enable (by kernel_rfl) w
theorem o_acquire (a : Addr) (w : World) : (callFunc 130 #[.pointer (some a)]).run Tryz.prog w = .ok (.value (.tuple #[])) w := run_call_marked Tryz.func130 (by kernel_rfl) (by kernel_rfl) (by kernel_rfl) .acquire (by kernel_rfl) a w
theorem o_releaseMerge (a : Addr) (w : World) : (callFunc 132 #[.pointer (some a)]).run Tryz.prog w = .ok (.value (.tuple #[])) w := run_call_marked Tryz.func132 (by kernel_rfl) (by kernel_rfl) (by kernel_rfl) .releaseMerge (by kernel_rfl) a w
set_option maxRecDepth 100000 in
set_option maxHeartbeats 1600000 in
theorem store_deferred (a : Addr) (x : Value) (u : FrameMode) (w : World) (hc : w.cell? a = some x) (hz : w.frozen? a = false) :
    CallsD Tryz.prog 111 #[.pointer (some a), .bool true] u w fun e u' w' => u' = u ∧ (e = .returned (.tuple #[]) ∧ w' = w.drew.setCell a (.int .u32 1)) := by
  have hc' : w.drew.cell? a = some x := by go_simp
  have hz' : w.drew.frozen? a = false := by go_simp
  have hst := run_call_store (P := Tryz.prog) Tryz.func120 (by kernel_rfl) (by kernel_rfl) (by kernel_rfl) (by kernel_rfl) (k := .u32) (y := 1) hc' hz'
  go_enter_d Tryz.func111, Tryz.ntmps111
  go_wp2
  go_region_calls
  all_goals (go_end0; exact ⟨rfl, rfl⟩)
set_option maxRecDepth 100000 in
set_option maxHeartbeats 1600000 in
theorem unlock_deferred (a : Addr) (u : FrameMode) (w : World) (hc : w.cell? a = some (.int .i32 1)) (hz : w.frozen? a = false) :
    CallsD Tryz.prog 110 #[.pointer (some a)] u w fun e u' w' => u' = u ∧ (e = .returned (.tuple #[]) ∧ w' = w.setCell a (.int .i32 0)) := by
  have hd := o_disable
  have he := o_enable
  have hr := o_releaseMerge
  have hadd := run_call_add (P := Tryz.prog) Tryz.func133 (by kernel_rfl) (by kernel_rfl) (by kernel_rfl) .i32 (by kernel_rfl) (y := -1) (s := 0) hc hz (by simp [go_sem]; rfl)
  have hcv := run_convert_to_unsafe (P := Tryz.prog) (src := 158) (dst := 162) Tryz.underlying158 Tryz.underlying162 (by kernel_rfl) hc
  go_enter_d Tryz.func110, Tryz.ntmps110
  go_wp2
  go_end0
  go_wp2
  go_end0
  exact ⟨rfl, rfl⟩
set_option maxRecDepth 100000 in
set_option maxHeartbeats 1600000 in
theorem lock_free (a : Addr) (w : World) (hc : w.cell? a = some (.int .i32 0)) (hz : w.frozen? a = false) :
    Calls Tryz.prog 109 #[.pointer (some a)] w fun e w' => e = .returned (.tuple #[]) ∧ w' = w.setCell a (.int .i32 1) := by
  have hd := o_disable
  have he := o_enable
  have ha := o_acquire
  have hcas := run_call_cas_hit (P := Tryz.prog) Tryz.func128 (by kernel_rfl) (by kernel_rfl) (by kernel_rfl) .i32 (by kernel_rfl) (y := 1) hc hz
  have hc' : (w.setCell a (.int .i32 1)).cell? a = some (.int .i32 1) := World.cell?_setCell_same w a _ hc
  have hcv := run_convert_to_unsafe (P := Tryz.prog) (src := 158) (dst := 162) Tryz.underlying158 Tryz.underlying162 (by kernel_rfl) hc'
  go_enter Tryz.func109, Tryz.ntmps109
  go_wp2
  first | go_end0 | (simp only [Exit.inBlock, Exit.then]; refine bodyPost_ret (results_none rfl _ _ _) rfl ?_) | refine bodyPost_ret (results_none rfl _ _ _) rfl ?_
  go_wp2
  go_end0
  exact ⟨rfl, rfl⟩
set_option maxHeartbeats 1000000 in
theorem table1 (b : Nat) (pl : Addr) (w : World) (hp : w.cell? pl = some (.pointer (some ⟨b, 0, none⟩))) (hpb : pl.block ≠ b) (hpl : pl.block < w.heap.size) (x : Value) (h14 : w.cell? ⟨b, 14, none⟩ = some x) (f14 : w.frozen? ⟨b, 14, none⟩ = false) (hbl : b < w.heap.size) :
    Calls Tryz.prog 101 #[.pointer (some pl)] w fun e w' => e = .returned (.tuple #[]) ∧ ∃ w1, Upd none' w w1 ∧ w' = w1.setCell ⟨b, 14, none⟩ (.string sfdpTab) := by
  go_enter Tryz.func101, Tryz.ntmps101
  go_region_held3 (fun w' => w'.cell? pl = some (.pointer (some ⟨b, 0, none⟩))) (first | exact hp | exact k1 | exact (World.cell?_setCell_other _ _ _ _ (fun h => hpb (by rw [← h]))).trans k1 | exact (by go_simp)) (first | (go_at_call 102; refine (sfdp_put _).mono ?_; rintro e w1 ⟨rfl, hU1⟩; have hU1' := (Upd.refl none' w).drew.trans hU1 (fun _ _ f => f); have k1 := (hU1'.cell (p := pl) hpl (fun f => f)).trans hp; have k2 := (hU1'.cell (p := ⟨b, 14, none⟩) hbl (fun f => f)).trans h14; have k3 := (hU1'.frozen (p := ⟨b, 14, none⟩) hbl (fun f => f)).trans f14) | fail)
  all_goals
    go_wp2
    go_end0
    exact ⟨rfl, w1, hU1', rfl⟩
/-- '(*sync.Once).doSlow', not yet done, the lock free. -/
theorem once_fin {w w33 : World} {b : Nat} {s : St} {jv bv dv : Value} (h : CB w b s jv bv dv) (hU : Upd none' (w.setCell ⟨b, 12, none⟩ (.int .i32 1)) w33) :
    CB ((((w33.setCell ⟨b, 14, none⟩ (.string sfdpTab)).drew.setCell ⟨b, 11, none⟩ (.int .u32 1)).setCell ⟨b, 12, none⟩ (.int .i32 0))) b { s with tabled := true } jv bv dv ∧
      Upd (fun k => k = b) w ((((w33.setCell ⟨b, 14, none⟩ (.string sfdpTab)).drew.setCell ⟨b, 11, none⟩ (.int .u32 1)).setCell ⟨b, 12, none⟩ (.int .i32 0))) := by
  refine ⟨((((((h.set 12 (.int .i32 1)).upd hU (fun f => f)).set 14 (.string sfdpTab)).drew).set 11 (.int .u32 1)).set 12 (.int .i32 0)), ?_⟩
  exact ((((((Upd.refl (fun k => k = b) w).setCell ⟨b, 12, none⟩ _ (fun _ => rfl)).trans hU (fun _ _ f => f.elim)).setCell ⟨b, 14, none⟩ _ (fun _ => rfl)).drew).setCell ⟨b, 11, none⟩ _ (fun _ => rfl)).setCell ⟨b, 12, none⟩ _ (fun _ => rfl)
set_option maxRecDepth 100000 in
set_option maxHeartbeats 1600000 in
theorem once_slow (b : Nat) (pl : Addr) (s : St) (jv bv dv : Value) (w : World) (h : CB w b s jv bv dv) (hs : s.tabled = false) (hp : w.cell? pl = some (.pointer (some ⟨b, 0, none⟩))) (hpb : pl.block ≠ b) (hpl : pl.block < w.heap.size) :
    Calls Tryz.prog 104 #[.pointer (some ⟨b, 11, none⟩), .func (.func 101) #[] #[.pointer (some pl)]] w fun e w' => e = .returned (.tuple #[]) ∧ CB w' b { s with tabled := true } jv bv dv ∧ Upd (fun k => k = b) w w' := by
  have h0 := h.cell 11
  have h1 := h.cell 12
  have f0 := h.frozen 11
  have f1 := h.frozen 12
  simp only [St.list, List.getElem?_cons_succ, List.getElem?_cons_zero, hs] at h0 h1
  have HH := Lib.hid h
  have hW := h.set 12 (.int .i32 1)
  have hl := run_call_load (P := Tryz.prog) Tryz.func108 (by kernel_rfl) (by kernel_rfl) (by kernel_rfl) .u32 (by kernel_rfl) (w := w.setCell ⟨b, 12, none⟩ (.int .i32 1)) (a := ⟨b, 11, none⟩) (x := 0) ((World.cell?_setCell_other _ ⟨b, 12, none⟩ ⟨b, 11, none⟩ _ (by simp)).trans h0)
  have hp1 : (w.setCell ⟨b, 12, none⟩ (.int .i32 1)).cell? pl = some (.pointer (some ⟨b, 0, none⟩)) := (World.cell?_setCell_other _ ⟨b, 12, none⟩ pl _ (fun h => hpb (by rw [← h]))).trans hp
  have h14 := hW.cell 14
  have f14 := hW.frozen 14
  have HT := Lib.hid (table1 b pl _ hp1 hpb (by simpa using hpl) _ h14 f14 hW.lt)
  have hnot : ∀ (x : Bool) (w : World), (Op.unary .not (.bool x)).run Tryz.prog w = .ok (.bool (!x)) w := fun _ _ => rfl
  clear h hW h14 f14 hp1
  go_enter_defers Tryz.func104, Tryz.ntmps104
  go_wp2_with (first | (go_at_call 109; refine (lock_free ⟨b, 12, none⟩ _ (by go_simp) (by go_simp)).mono ?_; rintro e w' ⟨rfl, rfl⟩) | (go_at_call 103; go_in) | (go_at_call 101; refine HT.out.mono ?_; rintro e w' ⟨rfl, w33, hU33, rfl⟩))
  have hX := ((HH.out.set 12 (.int .i32 1)).upd hU33 (fun f => f)).set 14 (.string sfdpTab)
  have hfin := once_fin HH.out hU33
  have x11 := hX.cell 11
  have y11 := hX.frozen 11
  have hY := hX.drew.set 11 (.int .u32 1)
  have x12 := hY.cell 12
  have y12 := hY.frozen 12
  refine leaves_cons (f := 111) (args := #[.pointer (some ⟨b, 11, none⟩), .bool true]) (by simp) (by simp [go_sem]) ?_
  refine (store_deferred ⟨b, 11, none⟩ _ .returning _ x11 y11).mono ?_
  rintro e u' w'' ⟨rfl, rfl, rfl⟩
  refine leaves_cons (f := 110) (args := #[.pointer (some ⟨b, 12, none⟩)]) (by simp [settle]) (by simp [go_sem]) ?_
  refine (unlock_deferred ⟨b, 12, none⟩ _ _ x12 y12).mono ?_
  rintro e u' w'' ⟨rfl, rfl, rfl⟩
  simp only [Leaves, settle]
  exact ⟨.tuple #[], results_none rfl _ _ _, rfl, hfin.1, hfin.2⟩
set_option maxRecDepth 100000 in
set_option maxHeartbeats 1600000 in
theorem once_first (b : Nat) (pl : Addr) (s : St) (jv bv dv : Value) (w : World) (h : CB w b s jv bv dv) (hs : s.tabled = false) (hp : w.cell? pl = some (.pointer (some ⟨b, 0, none⟩))) (hpb : pl.block ≠ b) (hpl : pl.block < w.heap.size) :
    Calls Tryz.prog 100 #[.pointer (some ⟨b, 11, none⟩), .func (.func 101) #[] #[.pointer (some pl)]] w fun e w' => e = .returned (.tuple #[]) ∧ CB w' b { s with tabled := true } jv bv dv ∧ Upd (fun k => k = b) w w' := by
  have h0 := h.cell 11
  simp only [St.list, List.getElem?_cons_succ, List.getElem?_cons_zero, hs] at h0
  have hl := run_call_load (P := Tryz.prog) Tryz.func108 (by kernel_rfl) (by kernel_rfl) (by kernel_rfl) .u32 (by kernel_rfl) (x := 0) h0
  have hnot : ∀ (x : Bool) (w : World), (Op.unary .not (.bool x)).run Tryz.prog w = .ok (.bool (!x)) w := fun _ _ => rfl
  have HS := Lib.hid (once_slow b pl s jv bv dv w h hs hp hpb hpl)
  clear h
  go_enter Tryz.func100, Tryz.ntmps100
  go_wp2_with (first | (go_at_call 104; refine HS.out.mono ?_; rintro e w' ⟨rfl, hB, hU⟩) | (go_at_call 103; go_in))
  go_end0
  exact ⟨rfl, hB, hU⟩
theorem once_done (a : Addr) (fv : Value) (w : World) (h0 : w.cell? a = some (.int .u32 1)) :
    Calls Tryz.prog 100 #[.pointer (some a), fv] w fun e w' => e = .returned (.tuple #[]) ∧ w = w' := by
  have hl := run_call_load (P := Tryz.prog) Tryz.func108 (by kernel_rfl) (by kernel_rfl) (by kernel_rfl) .u32 (by kernel_rfl) (x := 1) h0
  have hnot : ∀ (x : Bool) (w : World), (Op.unary .not (.bool x)).run Tryz.prog w = .ok (.bool (!x)) w := fun _ _ => rfl
  go_enter Tryz.func100, Tryz.ntmps100
  go_wp2
  go_end0
  exact ⟨rfl, rfl⟩
set_option maxRecDepth 100000 in
set_option maxHeartbeats 1600000 in
theorem table_said : TableSaid := by
  intro b s jv bv dv w h
  have hmf : ∀ (fn : Fn) (first cap : Array Value) (w : World), (Instr.makeFunc fn first cap).run Tryz.prog w = .ok (.func fn first cap) w := fun _ _ _ _ => rfl
  have hb := h.lt
  have hA := h.alloc (.cells #[.pointer (some ⟨b, 0, none⟩)] 23)
  have hp := (Blk.new w [.pointer (some ⟨b, 0, none⟩)] 23).cell 0
  simp only [List.getElem?_cons_zero] at hp
  cases ht : s.tabled with
  | false =>
    have HF := Lib.hid (once_first b ⟨w.heap.size, 0, none⟩ s jv bv dv _ hA ht hp (by dsimp only; omega) (by simp))
    clear hA hp
    go_enter Tryz.func98, Tryz.ntmps98
    go_wp2_with (go_at_call 100; refine HF.out.mono ?_; rintro e w' ⟨rfl, hB, hU⟩; have k0 := (hU.cell (p := ⟨w.heap.size, 0, none⟩) (by simp) (by dsimp only; omega)).trans ((Blk.new w [.pointer (some ⟨b, 0, none⟩)] 23).cell 0); have k14 := hB.cell 14; simp only [St.list, List.getElem?_cons_succ, List.getElem?_cons_zero, if_true] at k0 k14)
    go_ret
    exact ⟨rfl, hB, ((Upd.refl (fun k => k = b) w).alloc _).trans hU (fun _ _ e => e)⟩
  | true =>
    have h11 := hA.cell 11
    have h14 := hA.cell 14
    simp only [St.list, List.getElem?_cons_succ, List.getElem?_cons_zero, ht, if_true] at h11 h14
    have HD := Lib.hid (fun fv => once_done ⟨b, 11, none⟩ fv _ h11)
    go_enter Tryz.func98, Tryz.ntmps98
    go_wp2_with (go_at_call 100; refine (HD.out _).mono ?_; rintro e w' ⟨rfl, rfl⟩)
    go_ret
    refine ⟨rfl, ?_, (Upd.refl (fun k => k = b) w).alloc _⟩
    rw [show ({ s with tabled := true } : St) = s by cases s; simp_all]
    exact hA
end Go.Proofs.YtjdjdfllggpckaaGreat
