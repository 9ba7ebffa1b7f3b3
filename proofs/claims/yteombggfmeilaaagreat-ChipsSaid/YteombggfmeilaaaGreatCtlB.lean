/- A controller in memory; ctl.New, state, drive, Clocks. · (*Ctl).Run, of a command while no read goes on. -/
import Derived.Test.YteombggfmeilaaaGreatTabC
import Derived.Test.YteombggfmeilaaaGreatCmd
namespace Go.Proofs.YteombggfmeilaaaGreat
open Go.RowKit
/-- A controller, but for its chip and its queues. -/
structure KS where
  r0 : Int
  r1 : Int
  r2 : Int
  clocks : Int
  goes : Bool
  left : Int
  lost : Bool
def KS.new : KS := ⟨0, 0, 0, 0, false, -1, false⟩
def KS.cells (K : KS) (b fo fi : Nat) : List Value :=
  [.pointer (some ⟨b, 0, none⟩), .int .i64 K.r0, .int .i64 K.r1, .int .i64 K.r2, .pointer (some ⟨fo, 0, none⟩), .pointer (some ⟨fi, 0, none⟩), .int .i64 K.clocks, .bool K.goes, .int .i64 K.left, .bool K.lost,
   .int .u32 0, .int .i32 0, .int .u32 0, .slice none 0 0]
/-- A controller whose way to leave was not made yet. -/
def CtlC (k b fo fi : Nat) (K : KS) : Own := fun w S => Blk w k (K.cells b fo fi) 171 ∧ ∀ j, S j ↔ j = k
theorem ctlC_ok (k b fo fi : Nat) (K : KS) : (CtlC k b fo fi K).Ok := ⟨fun h u hT => ⟨h.1.upd u (hT k ((h.2 k).2 rfl)), h.2⟩, fun h j hj => by rw [(h.2 j).1 hj]; exact h.1.lt⟩
theorem ctl_cells {P Q : Own} {w0 w : World} {rows : List (Value × List Value)} {k b fo fi : Nat} {K : KS} (h : Ctx P ((CtlC k b fo fi K).star Q) w0 w rows) :
    w.cell? ⟨k, 0, none⟩ = some (.pointer (some ⟨b, 0, none⟩)) ∧ w.cell? ⟨k, 6, none⟩ = some (.int .i64 K.clocks) ∧ w.cell? ⟨k, 7, none⟩ = some (.bool K.goes) ∧ w.cell? ⟨k, 8, none⟩ = some (.int .i64 K.left) ∧ w.cell? ⟨k, 9, none⟩ = some (.bool K.lost) ∧ (∀ j, w.frozen? ⟨k, j, none⟩ = false) ∧ k < w.heap.size := by
  obtain ⟨S, ⟨h1, h2⟩, h3⟩ := h.get2
  have c0 := h1.cell 0
  have c6 := h1.cell 6
  have c7 := h1.cell 7
  have c8 := h1.cell 8
  have c9 := h1.cell 9
  simp only [KS.cells, List.getElem?_cons_succ, List.getElem?_cons_zero] at c0 c6 c7 c8 c9
  exact ⟨c0, c6, c7, c8, c9, fun j => h1.frozen j, h1.lt⟩
/-- A field of a controller is stored. -/
theorem ctl_set {P Q : Own} {w0 w : World} {rows : List (Value × List Value)} {k b fo fi : Nat} {K K' : KS} (hQ : Q.Ok) (h : Ctx P ((CtlC k b fo fi K).star Q) w0 w rows) (i : Nat) (v : Value) (hs : (K.cells b fo fi).set i v = K'.cells b fo fi) : Ctx P ((CtlC k b fo fi K').star Q) w0 (w.setCell ⟨k, i, none⟩ v) rows := by
  refine h.step2 (ctlC_ok _ _ _ _ _) hQ (ctlC_ok _ _ _ _ _) ?_
  rintro S ⟨h1, h2⟩
  exact ⟨S, ⟨hs ▸ h1.set i v, h2⟩, fun j hj => .inl hj, (Upd.refl _ _).setCell _ _ (fun _ => (h2 k).2 rfl)⟩
theorem fifo_made (w : World) : Calls Tryz.prog 123 #[] w fun e w' => e = .returned (.pointer (some ⟨w.heap.size, 0, none⟩)) ∧ Upd none' w w' ∧ w.heap.size < w'.heap.size := by
  go_enter Tryz.func123, Tryz.ntmps123
  go_wp2
  go_ret
  exact ⟨rfl, (Upd.refl none' w).alloc _, by simp⟩
set_option maxHeartbeats 2000000 in
theorem c_ctlnew {Q : Own} {w0 w : World} {b : Nat} {s : St} {N : Int} {rows : List (Value × List Value)} (hC : Ctx (ChipP b s N) Q w0 w rows) :
    Calls Tryz.prog 49 #[.pointer (some ⟨b, 0, none⟩)] w fun e w' => ∃ k fo fi, e = .returned (.tuple #[.pointer (some ⟨k, 0, none⟩), .int .i64 0]) ∧ Ctx (ChipP b s N) ((CtlC k b fo fi KS.new).star Q) w0 w' rows := by
  have HC := Lib.hid hC
  clear hC
  go_enter Tryz.func49, Tryz.ntmps49
  go_wp2_with (first | (go_at_call 123; refine (fifo_made _).mono ?_; rintro e w2 ⟨rfl, hU2, hl2⟩; have hF := Lib.hid hU1) | (go_at_call 123; refine (fifo_made _).mono ?_; rintro e w1 ⟨rfl, hU1, hl1⟩))
  go_ret2
  have hC2 := (HC.out.frame hU1).frame hU2
  refine ⟨w2.heap.size, w.heap.size, w1.heap.size, rfl, ?_⟩
  exact hC2.add2 (ctlC_ok _ _ _ _ _) ((Upd.refl none' w2).alloc _) (B := fun j => j = w2.heap.size) ⟨Blk.new w2 (KS.new.cells b w.heap.size w1.heap.size) _, fun _ => Iff.rfl⟩ (fun j hj => by omega)
theorem k_state {P Q : Own} {w0 w : World} {rows : List (Value × List Value)} {k b fo fi : Nat} {K : KS} (h : Ctx P ((CtlC k b fo fi K).star Q) w0 w rows) :
    Calls Tryz.prog 124 #[.pointer (some ⟨k, 0, none⟩)] w fun e w' => e = .returned (.int .i64 (if K.lost then 1101 else 0)) ∧ w = w' := by
  obtain ⟨-, -, -, -, c9, -⟩ := ctl_cells h
  clear h
  cases hl : K.lost
  all_goals
    rw [hl] at c9
    go_enter Tryz.func124, Tryz.ntmps124
    go_wp2
    go_ret
    exact ⟨rfl, rfl⟩
theorem k_clocks {P Q : Own} {w0 w : World} {rows : List (Value × List Value)} {k b fo fi : Nat} {K : KS} (h : Ctx P ((CtlC k b fo fi K).star Q) w0 w rows) :
    Calls Tryz.prog 57 #[.pointer (some ⟨k, 0, none⟩)] w fun e w' => e = .returned (.int .i64 K.clocks) ∧ w = w' := by
  obtain ⟨-, c6, -⟩ := ctl_cells h
  clear h
  go_enter Tryz.func57, Tryz.ntmps57
  go_wp2
  go_ret
  exact ⟨rfl, rfl⟩
/-- What a drive leaves of a controller. -/
def KS.driven (K : KS) (d : Drv) : KS := { K with clocks := K.clocks + d.clocks, left := if 0 ≤ K.left then K.left - d.clocks else K.left }
def KS.gone (K : KS) : KS := { K with lost := true }
set_option maxRecDepth 100000 in
set_option maxHeartbeats 4000000 in
theorem k_drive {Q : Own} {w0 w : World} {b : Nat} {s : St} {N : Int} {rows : List (Value × List Value)} {k fo fi : Nat} {K : KS} (hQ : Q.Ok) (hC : Ctx (ChipP b s N) ((CtlC k b fo fi K).star Q) w0 w rows) (hN : 0 ≤ N) (hsel : s.sel = false) (a : Option Addr) (n cap : Nat) (L : List (Ph × Value)) (hP : PhsV rows (.slice a n cap) L) (hkl : -9223372036854775808 ≤ K.left ∧ K.left ≤ 9223372036854775807) (hkc : 0 ≤ K.clocks ∧ K.clocks ≤ 1048576)
    (hlost : K.lost = false) (hall : L.all (fun x => x.1.may) = true) (hroom : N + phsMany (L.map Prod.fst) ≤ 1048575) (d : Drv) (hd : Drv.phases ⟨s.select, [], 0, K.left⟩ (L.map Prod.fst) = (d, true)) :
    Calls Tryz.prog 127 #[.pointer (some ⟨k, 0, none⟩), .slice a n cap] w fun e w' => ∃ oa oc, e = .returned (.tuple #[.slice oa d.out.length oc, .int .i64 0]) ∧ Ctx (ChipP b d.s.deselect (N + d.clocks + 1)) ((CtlC k b fo fi (K.driven d)).star Q) w0 w' ((.slice oa d.out.length oc, ints d.out) :: rows) := by
  obtain ⟨c0, -, -, c8, -⟩ := ctl_cells hC
  have hkept := phases_kept (L.map Prod.fst) ⟨s.select, [], 0, K.left⟩ (by rw [map_all]; exact hall)
  rw [hd] at hkept
  have hdc0 := hkept.up
  have hdc1 := hkept.many
  dsimp only at hdc0 hdc1
  have hdr2 := c_drive ((ctlC_ok k b fo fi K).star hQ) hC.drew hN hsel a n cap L hP K.left hkl hall (.inl hroom) d true hd
  have HDR := Lib.hid hdr2
  have hdb : d.clocks ≤ 1048575 := by omega
  have HQ := Lib.hid hQ
  clear hdr2 hkept hC hP hd hroom
  have hwl : 0 ≤ K.left → IntKind.i64.wrap (K.left - d.clocks) = K.left - d.clocks := fun h => IntWalk.i64_in _ (by omega)
  have HWL := Lib.hid hwl
  clear hwl
  have hcl : IntKind.i64.wrap (K.clocks + d.clocks) = K.clocks + d.clocks := IntWalk.i64_in _ (by omega)
  go_enter Tryz.func127, Tryz.ntmps127
  go_upto_region 1 with fail
  go_region_held3 (fun w' => w'.cell? ⟨k, 0, none⟩ = some (.pointer (some ⟨b, 0, none⟩)) ∧ w'.cell? ⟨k, 8, none⟩ = some (.int .i64 K.left)) (first | exact ⟨c0, c8⟩ | exact ⟨e0, e8⟩) (first | (go_at_call 40; refine HDR.out.mono ?_; rintro e w3 ⟨oa, oc, rfl, hC3⟩; obtain ⟨e0, e6, e7, e8, e9, ef, -⟩ := ctl_cells hC3))
  have HC3 := Lib.hid hC3
  have f6 := ef 6
  have f8 := ef 8
  have f9 := ef 9
  clear hC3 ef c0 c8
  obtain ⟨kr0, kr1, kr2, kcl, kgo, kle, klo⟩ := K
  dsimp only at *
  subst hlost
  have hs1 := ctl_set (K' := ⟨kr0, kr1, kr2, kcl + d.clocks, kgo, kle, false⟩) HQ.out HC3.out 6 (.int .i64 (kcl + d.clocks)) rfl
  by_cases hl0 : 0 ≤ kle
  · have hEQ : (KS.driven ⟨kr0, kr1, kr2, kcl, kgo, kle, false⟩ d) = ⟨kr0, kr1, kr2, kcl + d.clocks, kgo, kle - d.clocks, false⟩ := by unfold KS.driven; dsimp only; rw [if_pos hl0]
    have HEQ := Lib.hid hEQ
    have hwl := HWL.out hl0
    have hs2 := ctl_set (K' := ⟨kr0, kr1, kr2, kcl + d.clocks, kgo, kle - d.clocks, false⟩) HQ.out hs1 8 (.int .i64 (kle - d.clocks)) rfl
    have HS := Lib.hid hs2
    clear hs1 hs2 hEQ
    go_wp2
    go_ret2
    exact ⟨oa, oc, rfl, by rw [HEQ.out]; exact HS.out⟩
  · have hEQ : (KS.driven ⟨kr0, kr1, kr2, kcl, kgo, kle, false⟩ d) = ⟨kr0, kr1, kr2, kcl + d.clocks, kgo, kle, false⟩ := by unfold KS.driven; dsimp only; rw [if_neg hl0]
    have HEQ := Lib.hid hEQ
    have HS := Lib.hid hs1
    clear hs1 hEQ
    go_wp2
    go_ret2
    exact ⟨oa, oc, rfl, by rw [HEQ.out]; exact HS.out⟩
set_option maxRecDepth 100000 in
set_option maxHeartbeats 4000000 in
theorem k_drive_cut {Q : Own} {w0 w : World} {b : Nat} {s : St} {N : Int} {rows : List (Value × List Value)} {k fo fi : Nat} {K : KS} (hQ : Q.Ok) (hC : Ctx (ChipP b s N) ((CtlC k b fo fi K).star Q) w0 w rows) (hN : 0 ≤ N) (hsel : s.sel = false) (a : Option Addr) (n cap : Nat) (L : List (Ph × Value)) (hP : PhsV rows (.slice a n cap) L) (hkl : -9223372036854775808 ≤ K.left ∧ K.left ≤ 9223372036854775807) (hkc : 0 ≤ K.clocks ∧ K.clocks ≤ 1048576)
    (hlost : K.lost = false) (hall : L.all (fun x => x.1.may) = true) (hroom : N + phsMany (L.map Prod.fst) ≤ 1048575) (d : Drv) (hd : Drv.phases ⟨s.select, [], 0, K.left⟩ (L.map Prod.fst) = (d, false)) :
    Calls Tryz.prog 127 #[.pointer (some ⟨k, 0, none⟩), .slice a n cap] w fun e w' => e = .returned (.tuple #[.slice none 0 0, .int .i64 1101]) ∧ Ctx (ChipP b d.s (N + d.clocks + 1)) ((CtlC k b fo fi (K.driven d).gone).star Q) w0 w' rows := by
  obtain ⟨c0, -, -, c8, -⟩ := ctl_cells hC
  have hkept := phases_kept (L.map Prod.fst) ⟨s.select, [], 0, K.left⟩ (by rw [map_all]; exact hall)
  rw [hd] at hkept
  have hdc0 := hkept.up
  have hdc1 := hkept.many
  dsimp only at hdc0 hdc1
  have hdr2 := c_drive ((ctlC_ok k b fo fi K).star hQ) hC.drew hN hsel a n cap L hP K.left hkl hall (.inl hroom) d false hd
  have HDR := Lib.hid hdr2
  have hdb : d.clocks ≤ 1048575 := by omega
  have HQ := Lib.hid hQ
  clear hdr2 hkept hC hP hd hroom
  have hwl : 0 ≤ K.left → IntKind.i64.wrap (K.left - d.clocks) = K.left - d.clocks := fun h => IntWalk.i64_in _ (by omega)
  have HWL := Lib.hid hwl
  clear hwl
  have hcl : IntKind.i64.wrap (K.clocks + d.clocks) = K.clocks + d.clocks := IntWalk.i64_in _ (by omega)
  go_enter Tryz.func127, Tryz.ntmps127
  go_upto_region 1 with fail
  go_region_held3 (fun w' => w'.cell? ⟨k, 0, none⟩ = some (.pointer (some ⟨b, 0, none⟩)) ∧ w'.cell? ⟨k, 8, none⟩ = some (.int .i64 K.left)) (first | exact ⟨c0, c8⟩ | exact ⟨e0, e8⟩) (first | (go_at_call 40; refine HDR.out.mono ?_; rintro e w3 ⟨oa, oc, rfl, hC3⟩; obtain ⟨e0, e6, e7, e8, e9, ef, -⟩ := ctl_cells hC3))
  have HC3 := Lib.hid hC3
  have f6 := ef 6
  have f8 := ef 8
  have f9 := ef 9
  clear hC3 ef c0 c8
  obtain ⟨kr0, kr1, kr2, kcl, kgo, kle, klo⟩ := K
  dsimp only at *
  subst hlost
  have hs1 := ctl_set (K' := ⟨kr0, kr1, kr2, kcl + d.clocks, kgo, kle, false⟩) HQ.out HC3.out 6 (.int .i64 (kcl + d.clocks)) rfl
  by_cases hl0 : 0 ≤ kle
  · have hEQ : (KS.driven ⟨kr0, kr1, kr2, kcl, kgo, kle, false⟩ d) = ⟨kr0, kr1, kr2, kcl + d.clocks, kgo, kle - d.clocks, false⟩ := by unfold KS.driven; dsimp only; rw [if_pos hl0]
    have HEQ := Lib.hid hEQ
    have hwl := HWL.out hl0
    have hs2 := ctl_set (K' := ⟨kr0, kr1, kr2, kcl + d.clocks, kgo, kle - d.clocks, false⟩) HQ.out hs1 8 (.int .i64 (kle - d.clocks)) rfl
    have HS := Lib.hid (ctl_set (K' := ⟨kr0, kr1, kr2, kcl + d.clocks, kgo, kle - d.clocks, true⟩) HQ.out hs2 9 (.bool true) rfl)
    clear hs1 hs2 hEQ
    go_wp2
    go_ret2
    exact ⟨rfl, by rw [HEQ.out]; exact HS.out.tl⟩
  · have hEQ : (KS.driven ⟨kr0, kr1, kr2, kcl, kgo, kle, false⟩ d) = ⟨kr0, kr1, kr2, kcl + d.clocks, kgo, kle, false⟩ := by unfold KS.driven; dsimp only; rw [if_neg hl0]
    have HEQ := Lib.hid hEQ
    have HS := Lib.hid (ctl_set (K' := ⟨kr0, kr1, kr2, kcl + d.clocks, kgo, kle, true⟩) HQ.out hs1 9 (.bool true) rfl)
    clear hs1 hEQ
    go_wp2
    go_ret2
    exact ⟨rfl, by rw [HEQ.out]; exact HS.out.tl⟩
end Go.Proofs.YteombggfmeilaaaGreat
namespace Go.Proofs.YteombggfmeilaaaGreat
open Go.RowKit
theorem may_bytes (l : Int) (bs : List Int) (hl : l = 1 ∨ l = 4) (hne : bs ≠ []) (hlen : bs.length ≤ 512) (hby : bs.all byteB = true) : Ph.may ⟨l, bs, 0, 0⟩ = true := by
  unfold Ph.may
  dsimp only
  rw [if_pos hne, hby]
  simp [lanesB, hl, hlen]
theorem may_reads (l r : Int) (hl : l = 1 ∨ l = 4) (h0 : 1 ≤ r) (h1 : r ≤ 512) : Ph.may ⟨l, [], 0, r⟩ = true := by
  unfold Ph.may
  dsimp only
  rw [if_neg (by simp), if_pos (by omega)]
  simp [lanesB, hl, h0, h1]
theorem may_waits (n : Int) (h0 : 1 ≤ n) (h1 : n ≤ 400) : Ph.may ⟨0, [], n, 0⟩ = true := by
  unfold Ph.may
  dsimp only
  rw [if_neg (by simp), if_neg (by simp)]
  simp [h0, h1]
theorem opOf_forms (c : Int) (hc : opIs c = true) : (0 < (opOf c).addr → (opOf c).addr = 1 ∨ (opOf c).addr = 4) ∧ ((opOf c).mode = true → (opOf c).addr = 1 ∨ (opOf c).addr = 4) ∧ ((opOf c).data ≠ 0 → (opOf c).data = 1 ∨ (opOf c).data = 4) ∧ (opOf c).dummy ≤ 8 ∧ ((opOf c).inn = true → (opOf c).data ≠ 0) ∧ (opOf c).byte = c ∧ 0 ≤ c ∧ c ≤ 255 ∧ ((opOf c).mode = true → (opOf c).data ≠ 0 ∧ (opOf c).inn = false) := by
  simp only [opIs, decide_eq_true_eq] at hc
  rcases hc with rfl | rfl | rfl | rfl | rfl | rfl | rfl | rfl | rfl | rfl | rfl | rfl | rfl | rfl <;> decide
/-- A command that may be has phases that may be. -/
theorem cmd_all (c : Int) (hc : opIs c = true) (k : Int) (data : List Int) (read : Int) (h : cmdMay (opOf c) k data read = true) : (cmdPhs (opOf c) k data read).all Ph.may = true := by
  obtain ⟨h1, h2, h3, h4, h5, h6, h7, h8, h9⟩ := opOf_forms c hc
  generalize opOf c = o at *
  unfold cmdMay at h
  simp only [Bool.and_eq_true, decide_eq_true_eq, Bool.not_eq_true', Bool.and_eq_false_imp] at h
  obtain ⟨⟨⟨⟨⟨hk, hk0⟩, hlen⟩, hby⟩, hr⟩, hfit⟩ := h
  have hmode : o.mode = true → data ≠ [] := by
    intro hm hde
    unfold fitsB at hfit
    rw [if_neg (h9 hm).1, (h9 hm).2, hm, hde] at hfit
    simp at hfit
  have hread : 0 < read → o.data ≠ 0 := by
    intro hr0 hd0
    unfold fitsB at hfit
    rw [if_pos hd0] at hfit
    simp at hfit
    omega
  unfold cmdPhs
  rw [List.all_cons, List.all_append, List.all_append, List.all_append, List.all_append]
  simp only [Bool.and_eq_true]
  refine ⟨may_bytes 1 _ (.inl rfl) (by simp) (by simp) (by simp [byteB]; omega), ⟨⟨⟨?_, ?_⟩, ?_⟩, ?_⟩, ?_⟩
  · by_cases ha : 0 < o.addr
    · rw [if_pos ha, List.all_cons, may_bytes _ _ (h1 ha) (by simp) (by simp) (by simp [byteB]; omega)]; rfl
    · rw [if_neg ha]; rfl
  · by_cases hm : o.mode = true
    · rw [if_pos hm, List.all_cons, may_bytes _ _ (h2 hm) (hmode hm) hlen hby]; rfl
    · rw [if_neg hm]; rfl
  · by_cases hd : 0 < o.dummy
    · rw [if_pos hd, List.all_cons, may_waits _ (by omega) (by omega)]; rfl
    · rw [if_neg hd]; rfl
  · by_cases hi : o.inn = true ∧ data ≠ []
    · rw [if_pos hi, List.all_cons, may_bytes _ _ (h3 (h5 hi.1)) hi.2 hlen hby]; rfl
    · rw [if_neg hi]; rfl
  · by_cases hr0 : 0 < read
    · rw [if_pos hr0, List.all_cons, may_reads _ _ (h3 (hread hr0)) (by omega) (by omega)]; rfl
    · rw [if_neg hr0]; rfl
set_option maxRecDepth 100000 in
set_option maxHeartbeats 8000000 in
theorem c_run {Q : Own} {w0 w : World} {b : Nat} {s : St} {N : Int} {rows : List (Value × List Value)} {k fo fi : Nat} {K : KS} (hQ : Q.Ok) (hC : Ctx (ChipP b s N) ((CtlC k b fo fi K).star Q) w0 w rows) (hN : 0 ≤ N) (hsel : s.sel = false) (hkl : -9223372036854775808 ≤ K.left ∧ K.left ≤ 9223372036854775807) (hkc : 0 ≤ K.clocks ∧ K.clocks ≤ 1048576)
    (hlost : K.lost = false) (hgo : K.goes = false) (c : Int) (hc : opIs c = true) (hc2 : c ≠ 235) (at_ : Int) (a : Option Addr) (cp : Nat) (data : List Int) (hdd : (.slice a data.length cp, ints data) ∈ rows) (read : Int) (hmay : cmdMay (opOf c) at_ data read = true) (hroom : N + phsMany (cmdPhs (opOf c) at_ data read) ≤ 1048575) (d : Drv) (hd : Drv.phases ⟨s.select, [], 0, K.left⟩ (cmdPhs (opOf c) at_ data read) = (d, true)) :
    Calls Tryz.prog 50 #[.pointer (some ⟨k, 0, none⟩), .int .i64 c, .int .i64 at_, .slice a data.length cp, .int .i64 read] w fun e w' => ∃ oa oc, e = .returned (.tuple #[.slice oa d.out.length oc, .int .i64 0]) ∧ Ctx (ChipP b d.s.deselect (N + d.clocks + 1)) ((CtlC k b fo fi (K.driven d)).star Q) w0 w' ((.slice oa d.out.length oc, ints d.out) :: rows) := by
  have hcall := cmd_all c hc at_ data read hmay
  have hfind := tab_find c hc
  have hst := k_state hC
  rw [hlost] at hst
  have hcmd := fun w1 (h : Ctx (ChipP b s N) ((CtlC k b fo fi K).star Q) w0 w1 rows) => c_command ((ctlC_ok k b fo fi K).star hQ) h c hc at_ a cp data hdd read hmay
  have hdrv := fun w1 rows1 (h : Ctx (ChipP b s N) ((CtlC k b fo fi K).star Q) w0 w1 rows1) g m cap L (hP : PhsV rows1 (.slice (some ⟨g, 0, none⟩) m cap) L) (hL : L.map Prod.fst = cmdPhs (opOf c) at_ data read) => k_drive hQ h hN hsel (some ⟨g, 0, none⟩) m cap L hP hkl hkc hlost (by rw [← map_all, hL]; exact hcall) (by rw [hL]; exact hroom) d (by rw [hL]; exact hd)
  have HSET : Hid (∀ w1 rows1, Ctx (ChipP b d.s.deselect (N + d.clocks + 1)) ((CtlC k b fo fi (K.driven d)).star Q) w0 w1 rows1 → Ctx (ChipP b d.s.deselect (N + d.clocks + 1)) ((CtlC k b fo fi (K.driven d)).star Q) w0 (w1.setCell ⟨k, 7, none⟩ (.bool false)) rows1) := Lib.hid (fun w1 rows1 h => by
    refine ctl_set hQ h 7 (.bool false) ?_
    obtain ⟨kr0, kr1, kr2, kcl, kgo, kle, klo⟩ := K
    dsimp only at hgo
    subst hgo
    rfl)
  have HG7 : Hid (∀ w1 rows1, Ctx (ChipP b d.s.deselect (N + d.clocks + 1)) ((CtlC k b fo fi (K.driven d)).star Q) w0 w1 rows1 → w1.cell? ⟨k, 7, none⟩ = some (.bool false) ∧ w1.frozen? ⟨k, 7, none⟩ = false) := Lib.hid (fun w1 rows1 h => by
    obtain ⟨-, -, e7, -, -, ef, -⟩ := ctl_cells h
    refine ⟨?_, ef 7⟩
    rw [e7]
    unfold KS.driven
    rw [hgo])
  have HG0 : Hid (∀ w1 rows1, Ctx (ChipP b s N) ((CtlC k b fo fi K).star Q) w0 w1 rows1 → w1.cell? ⟨k, 7, none⟩ = some (.bool false)) := Lib.hid (fun w1 rows1 h => by
    obtain ⟨-, -, e7, -⟩ := ctl_cells h
    rw [e7, hgo])
  have HC := Lib.hid hC
  obtain ⟨o, ho⟩ : ∃ o, opOf c = o := ⟨_, rfl⟩
  rw [ho] at hfind hcmd hdrv
  obtain ⟨by', ad, mo, du, da, inn⟩ := o
  unfold POp.cells at hfind hcmd
  dsimp only at hfind hcmd
  have HFIND := Lib.hid hfind
  have HCMD := Lib.hid hcmd
  have HDRV := Lib.hid hdrv
  have HST := Lib.hid hst
  have hcb : (c == 235) = false := by simpa using hc2
  clear hcall hfind hst hcmd hdrv hC hc ho hd hmay hroom hdd hlost hgo hkl hkc hsel
  go_enter Tryz.func50, Tryz.ntmps50
  go_upto_region 8 with (first | (go_at_call 124; refine HST.out.mono ?_; rintro e w1 ⟨rfl, rfl⟩) | (go_at_call 125; refine (HFIND.out _).mono ?_; rintro e w2 ⟨rfl, hU2⟩; have HC2 := Lib.hid ((HC.out.frame hU2).alloc (.cells #[.int .i64 by', .int .i64 ad, .bool mo, .int .i64 du, .int .i64 da, .bool inn] 52))) | (go_at_call 126; refine (HCMD.out _ HC2.out).mono ?_; rintro e w3 ⟨g, m, cap, L, rows', rfl, hL, hC3, hP3⟩; have c7 := HG0.out _ _ hC3))
  have HDR := Lib.hid (HDRV.out _ _ hC3 g m cap L hP3 hL)
  clear hC3 hP3 hL HCMD HDRV HFIND HST HC
  go_wp2_with (go_at_call 127; refine HDR.out.mono ?_; rintro e w4 ⟨oa, oc, rfl, hC4⟩; obtain ⟨d7, df7⟩ := HG7.out _ _ hC4)
  have hC5 := HSET.out _ _ hC4
  go_ret2
  refine ⟨oa, oc, rfl, hC5.sub fun r hr => ?_⟩
  rcases List.mem_cons.1 hr with h | h
  · exact List.mem_cons.2 (.inl h)
  · exact List.mem_cons.2 (.inr (List.mem_append.2 (.inr h)))
end Go.Proofs.YteombggfmeilaaaGreat
