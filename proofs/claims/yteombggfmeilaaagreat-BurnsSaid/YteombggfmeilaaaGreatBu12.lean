/- Cmd CtlB WireR FetchP Ready -/
import Derived.Test.YteombggfmeilaaaGreatBu10
import Derived.Test.YteombggfmeilaaaGreatBu11
import Derived.Test.YteombggfmeilaaaGreatBu09
import Derived.Test.YteombggfmeilaaaGreatBu06
import Derived.Test.YteombggfmeilaaaGreatBu05
/- Cmd. -/
namespace Go.Proofs.YteombggfmeilaaaGreat
open Go.RowKit
theorem any_not (bs : List Int) (h : bs.all byteB = true) : bs.any notB = false := by
  have := all_not bs
  rw [h] at this
  cases h2 : bs.any notB with
  | false => rfl
  | true => rw [h2] at this; simp at this
theorem c_command {P Q : Own} (hQ : Q.Ok) {w0 w : World} {rows : List (Value × List Value)} (hC : Ctx P Q w0 w rows) (c : Int) (hc : opIs c = true) (k : Int) (a : Option Addr) (cp : Nat) (data : List Int) (hd : (.slice a data.length cp, ints data) ∈ rows) (read : Int) (hmay : cmdMay (opOf c) k data read = true) :
    Calls Tryz.prog 126 #[.agg (opOf c).cells, .int .i64 k, .slice a data.length cp, .int .i64 read] w fun e w' => ∃ g m cap L rows', e = .returned (.tuple #[.slice (some ⟨g, 0, none⟩) m cap, .int .i64 0]) ∧ L.map Prod.fst = cmdPhs (opOf c) k data read ∧ Ctx P Q w0 w' (rows' ++ rows) ∧ PhsV (rows' ++ rows) (.slice (some ⟨g, 0, none⟩) m cap) L := by
  unfold cmdMay at hmay
  simp only [Bool.and_eq_true, decide_eq_true_eq, Bool.not_eq_true', Bool.and_eq_false_imp] at hmay
  obtain ⟨⟨⟨⟨⟨hk, hk0⟩, hlen⟩, hby⟩, hr⟩, hfit⟩ := hmay
  have hby' := any_not data hby
  have hk0' : (opOf c).addr = 0 → k = 0 := fun h => by
    have := hk0 h
    simpa using this
  have hdl : data.length = 0 → data = [] := fun h => List.eq_nil_of_length_eq_zero h
  have hf := hfit
  unfold fitsB at hf
  simp only [opIs, decide_eq_true_eq] at hc
  rcases hc with rfl | rfl | rfl | rfl | rfl | rfl | rfl | rfl | rfl | rfl | rfl | rfl | rfl | rfl
  · -- 1
    have hr0 : read = 0 := by rw [if_neg (by decide), if_pos (by decide)] at hf; simpa using hf
    by_cases he : data = []
    · exact cmd_000e0 hQ hC _ (by kernel_rfl) (by kernel_rfl) k hk a cp data hd hlen hby' read hr hfit (by kernel_rfl) (hk0' (by kernel_rfl)) (by kernel_rfl) (by kernel_rfl) (by kernel_rfl) he hr0
    · exact cmd_000y0 hQ hC _ (by kernel_rfl) (by kernel_rfl) k hk a cp data hd hlen hby' read hr hfit (by kernel_rfl) (hk0' (by kernel_rfl)) (by kernel_rfl) (by kernel_rfl) (by kernel_rfl) he hr0
  · -- 2
    have hr0 : read = 0 := by rw [if_neg (by decide), if_pos (by decide)] at hf; simpa using hf
    by_cases he : data = []
    · exact cmd_100e0 hQ hC _ (by kernel_rfl) (by kernel_rfl) k hk a cp data hd hlen hby' read hr hfit (by decide) (by kernel_rfl) (by kernel_rfl) (by kernel_rfl) he hr0
    · exact cmd_100y0 hQ hC _ (by kernel_rfl) (by kernel_rfl) k hk a cp data hd hlen hby' read hr hfit (by decide) (by kernel_rfl) (by kernel_rfl) (by kernel_rfl) he hr0
  · -- 3
    by_cases hr0 : read = 0
    · exact cmd_100n0 hQ hC _ (by kernel_rfl) (by kernel_rfl) k hk a cp data hd hlen hby' read hr hfit (by decide) (by kernel_rfl) (by kernel_rfl) (by kernel_rfl) hr0
    · exact cmd_100n1 hQ hC _ (by kernel_rfl) (by kernel_rfl) k hk a cp data hd hlen hby' read hr hfit (by decide) (by kernel_rfl) (by kernel_rfl) (by kernel_rfl) (by omega)
  · -- 4
    have hr0 : read = 0 := by rw [if_pos (by decide)] at hf; simp at hf; exact hf.2
    exact cmd_000n0 hQ hC _ (by kernel_rfl) (by kernel_rfl) k hk a cp data hd hlen hby' read hr hfit (by kernel_rfl) (hk0' (by kernel_rfl)) (by kernel_rfl) (by kernel_rfl) (by kernel_rfl) hr0
  · -- 5
    by_cases hr0 : read = 0
    · exact cmd_000n0 hQ hC _ (by kernel_rfl) (by kernel_rfl) k hk a cp data hd hlen hby' read hr hfit (by kernel_rfl) (hk0' (by kernel_rfl)) (by kernel_rfl) (by kernel_rfl) (by kernel_rfl) hr0
    · exact cmd_000n1 hQ hC _ (by kernel_rfl) (by kernel_rfl) k hk a cp data hd hlen hby' read hr hfit (by kernel_rfl) (hk0' (by kernel_rfl)) (by kernel_rfl) (by kernel_rfl) (by kernel_rfl) (by omega)
  · -- 6
    have hr0 : read = 0 := by rw [if_pos (by decide)] at hf; simp at hf; exact hf.2
    exact cmd_000n0 hQ hC _ (by kernel_rfl) (by kernel_rfl) k hk a cp data hd hlen hby' read hr hfit (by kernel_rfl) (hk0' (by kernel_rfl)) (by kernel_rfl) (by kernel_rfl) (by kernel_rfl) hr0
  · -- 32
    have hr0 : read = 0 := by rw [if_pos (by decide)] at hf; simp at hf; exact hf.2
    exact cmd_100n0 hQ hC _ (by kernel_rfl) (by kernel_rfl) k hk a cp data hd hlen hby' read hr hfit (by decide) (by kernel_rfl) (by kernel_rfl) (by kernel_rfl) hr0
  · -- 53
    by_cases hr0 : read = 0
    · exact cmd_000n0 hQ hC _ (by kernel_rfl) (by kernel_rfl) k hk a cp data hd hlen hby' read hr hfit (by kernel_rfl) (hk0' (by kernel_rfl)) (by kernel_rfl) (by kernel_rfl) (by kernel_rfl) hr0
    · exact cmd_000n1 hQ hC _ (by kernel_rfl) (by kernel_rfl) k hk a cp data hd hlen hby' read hr hfit (by kernel_rfl) (hk0' (by kernel_rfl)) (by kernel_rfl) (by kernel_rfl) (by kernel_rfl) (by omega)
  · -- 90
    by_cases hr0 : read = 0
    · exact cmd_101n0 hQ hC _ (by kernel_rfl) (by kernel_rfl) k hk a cp data hd hlen hby' read hr hfit (by decide) (by kernel_rfl) (by decide) (by kernel_rfl) hr0
    · exact cmd_101n1 hQ hC _ (by kernel_rfl) (by kernel_rfl) k hk a cp data hd hlen hby' read hr hfit (by decide) (by kernel_rfl) (by decide) (by kernel_rfl) (by omega)
  · -- 107
    by_cases hr0 : read = 0
    · exact cmd_101n0 hQ hC _ (by kernel_rfl) (by kernel_rfl) k hk a cp data hd hlen hby' read hr hfit (by decide) (by kernel_rfl) (by decide) (by kernel_rfl) hr0
    · exact cmd_101n1 hQ hC _ (by kernel_rfl) (by kernel_rfl) k hk a cp data hd hlen hby' read hr hfit (by decide) (by kernel_rfl) (by decide) (by kernel_rfl) (by omega)
  · -- 117
    have hr0 : read = 0 := by rw [if_pos (by decide)] at hf; simp at hf; exact hf.2
    exact cmd_000n0 hQ hC _ (by kernel_rfl) (by kernel_rfl) k hk a cp data hd hlen hby' read hr hfit (by kernel_rfl) (hk0' (by kernel_rfl)) (by kernel_rfl) (by kernel_rfl) (by kernel_rfl) hr0
  · -- 122
    have hr0 : read = 0 := by rw [if_pos (by decide)] at hf; simp at hf; exact hf.2
    exact cmd_000n0 hQ hC _ (by kernel_rfl) (by kernel_rfl) k hk a cp data hd hlen hby' read hr hfit (by kernel_rfl) (hk0' (by kernel_rfl)) (by kernel_rfl) (by kernel_rfl) (by kernel_rfl) hr0
  · -- 159
    by_cases hr0 : read = 0
    · exact cmd_000n0 hQ hC _ (by kernel_rfl) (by kernel_rfl) k hk a cp data hd hlen hby' read hr hfit (by kernel_rfl) (hk0' (by kernel_rfl)) (by kernel_rfl) (by kernel_rfl) (by kernel_rfl) hr0
    · exact cmd_000n1 hQ hC _ (by kernel_rfl) (by kernel_rfl) k hk a cp data hd hlen hby' read hr hfit (by kernel_rfl) (hk0' (by kernel_rfl)) (by kernel_rfl) (by kernel_rfl) (by kernel_rfl) (by omega)
  · -- 235
    have hdm : data ≠ [] := by
      rw [if_neg (by decide), if_neg (by decide), if_pos (by decide)] at hf
      rintro rfl
      simp at hf
    by_cases hr0 : read = 0
    · exact cmd_111n0 hQ hC _ (by kernel_rfl) (by kernel_rfl) k hk a cp data hd hlen hby' read hr hfit (by decide) (by kernel_rfl) (by decide) (by kernel_rfl) hr0 hdm
    · exact cmd_111n1 hQ hC _ (by kernel_rfl) (by kernel_rfl) k hk a cp data hd hlen hby' read hr hfit (by decide) (by kernel_rfl) (by decide) (by kernel_rfl) (by omega) hdm
end Go.Proofs.YteombggfmeilaaaGreat
/- CtlB. -/
namespace Go.Proofs.YteombggfmeilaaaGreat
open Go.RowKit
structure KS where
  r0 : Int
  r1 : Int
  r2 : Int
  clocks : Int
  goes : Bool
  left : Int
  lost : Bool
def KS.new : KS := ⟨0, 0, 0, 0, false, -1, false⟩
def KS.cells (K : KS) (b fo fi : Nat) : List Value :=
  [.pointer (some ⟨b, 0, none⟩), .int .i64 K.r0, .int .i64 K.r1, .int .i64 K.r2, .pointer (some ⟨fo, 0, none⟩), .pointer (some ⟨fi, 0, none⟩), .int .i64 K.clocks, .bool K.goes, .int .i64 K.left, .bool K.lost,
   .int .u32 0, .int .i32 0, .int .u32 0, .slice none 0 0]
def CtlC (k b fo fi : Nat) (K : KS) : Own := fun w S => Blk w k (K.cells b fo fi) 171 ∧ ∀ j, S j ↔ j = k
theorem ctlC_ok (k b fo fi : Nat) (K : KS) : (CtlC k b fo fi K).Ok := ⟨fun h u hT => ⟨h.1.upd u (hT k ((h.2 k).2 rfl)), h.2⟩, fun h j hj => by rw [(h.2 j).1 hj]; exact h.1.lt⟩
theorem ctl_cells {P Q : Own} {w0 w : World} {rows : List (Value × List Value)} {k b fo fi : Nat} {K : KS} (h : Ctx P ((CtlC k b fo fi K).star Q) w0 w rows) :
    w.cell? ⟨k, 0, none⟩ = some (.pointer (some ⟨b, 0, none⟩)) ∧ w.cell? ⟨k, 6, none⟩ = some (.int .i64 K.clocks) ∧ w.cell? ⟨k, 7, none⟩ = some (.bool K.goes) ∧ w.cell? ⟨k, 8, none⟩ = some (.int .i64 K.left) ∧ w.cell? ⟨k, 9, none⟩ = some (.bool K.lost) ∧ (∀ j, w.frozen? ⟨k, j, none⟩ = false) ∧ k < w.heap.size := by
  obtain ⟨S, ⟨h1, h2⟩, h3⟩ := h.get2
  have c0 := h1.cell 0
  have c6 := h1.cell 6
  have c7 := h1.cell 7
  have c8 := h1.cell 8
  have c9 := h1.cell 9
  simp only [KS.cells, List.getElem?_cons_succ, List.getElem?_cons_zero] at c0 c6 c7 c8 c9
  exact ⟨c0, c6, c7, c8, c9, fun j => h1.frozen j, h1.lt⟩
theorem ctl_set {P Q : Own} {w0 w : World} {rows : List (Value × List Value)} {k b fo fi : Nat} {K K' : KS} (hQ : Q.Ok) (h : Ctx P ((CtlC k b fo fi K).star Q) w0 w rows) (i : Nat) (v : Value) (hs : (K.cells b fo fi).set i v = K'.cells b fo fi) : Ctx P ((CtlC k b fo fi K').star Q) w0 (w.setCell ⟨k, i, none⟩ v) rows := by
  refine h.step2 (ctlC_ok _ _ _ _ _) hQ (ctlC_ok _ _ _ _ _) ?_
  rintro S ⟨h1, h2⟩
  exact ⟨S, ⟨hs ▸ h1.set i v, h2⟩, fun j hj => .inl hj, (Upd.refl _ _).setCell _ _ (fun _ => (h2 k).2 rfl)⟩
theorem fifo_made (w : World) : Calls Tryz.prog 123 #[] w fun e w' => e = .returned (.pointer (some ⟨w.heap.size, 0, none⟩)) ∧ Upd none' w w' ∧ w.heap.size < w'.heap.size := by
  go_enter Tryz.func123, Tryz.ntmps123
  go_wp2
  go_ret
  exact ⟨rfl, (Upd.refl none' w).alloc _, by simp⟩
set_option maxHeartbeats 2000000 in
theorem c_ctlnew {Q : Own} {w0 w : World} {b : Nat} {s : St} {N : Int} {rows : List (Value × List Value)} (hC : Ctx (ChipP b s N) Q w0 w rows) :
    Calls Tryz.prog 49 #[.pointer (some ⟨b, 0, none⟩)] w fun e w' => ∃ k fo fi, e = .returned (.tuple #[.pointer (some ⟨k, 0, none⟩), .int .i64 0]) ∧ Ctx (ChipP b s N) ((CtlC k b fo fi KS.new).star Q) w0 w' rows := by
  have HC := Lib.hid hC
  clear hC
  go_enter Tryz.func49, Tryz.ntmps49
  go_wp2_with (first | (go_at_call 123; refine (fifo_made _).mono ?_; rintro e w2 ⟨rfl, hU2, hl2⟩; have hF := Lib.hid hU1) | (go_at_call 123; refine (fifo_made _).mono ?_; rintro e w1 ⟨rfl, hU1, hl1⟩))
  go_ret2
  have hC2 := (HC.out.frame hU1).frame hU2
  refine ⟨w2.heap.size, w.heap.size, w1.heap.size, rfl, ?_⟩
  exact hC2.add2 (ctlC_ok _ _ _ _ _) ((Upd.refl none' w2).alloc _) (B := fun j => j = w2.heap.size) ⟨Blk.new w2 (KS.new.cells b w.heap.size w1.heap.size) _, fun _ => Iff.rfl⟩ (fun j hj => by omega)
theorem k_state {P Q : Own} {w0 w : World} {rows : List (Value × List Value)} {k b fo fi : Nat} {K : KS} (h : Ctx P ((CtlC k b fo fi K).star Q) w0 w rows) :
    Calls Tryz.prog 124 #[.pointer (some ⟨k, 0, none⟩)] w fun e w' => e = .returned (.int .i64 (if K.lost then 1101 else 0)) ∧ w = w' := by
  obtain ⟨-, -, -, -, c9, -⟩ := ctl_cells h
  clear h
  cases hl : K.lost
  all_goals
    rw [hl] at c9
    go_enter Tryz.func124, Tryz.ntmps124
    go_wp2
    go_ret
    exact ⟨rfl, rfl⟩
theorem k_clocks {P Q : Own} {w0 w : World} {rows : List (Value × List Value)} {k b fo fi : Nat} {K : KS} (h : Ctx P ((CtlC k b fo fi K).star Q) w0 w rows) :
    Calls Tryz.prog 57 #[.pointer (some ⟨k, 0, none⟩)] w fun e w' => e = .returned (.int .i64 K.clocks) ∧ w = w' := by
  obtain ⟨-, c6, -⟩ := ctl_cells h
  clear h
  go_enter Tryz.func57, Tryz.ntmps57
  go_wp2
  go_ret
  exact ⟨rfl, rfl⟩
def KS.driven (K : KS) (d : Drv) : KS := { K with clocks := K.clocks + d.clocks, left := if 0 ≤ K.left then K.left - d.clocks else K.left }
def KS.gone (K : KS) : KS := { K with lost := true }
set_option maxRecDepth 100000 in
set_option maxHeartbeats 4000000 in
theorem k_drive {Q : Own} {w0 w : World} {b : Nat} {s : St} {N : Int} {rows : List (Value × List Value)} {k fo fi : Nat} {K : KS} (hQ : Q.Ok) (hC : Ctx (ChipP b s N) ((CtlC k b fo fi K).star Q) w0 w rows) (hN : 0 ≤ N) (hsel : s.sel = false) (a : Option Addr) (n cap : Nat) (L : List (Ph × Value)) (hP : PhsV rows (.slice a n cap) L) (hkl : -9223372036854775808 ≤ K.left ∧ K.left ≤ 9223372036854775807) (hkc : 0 ≤ K.clocks ∧ K.clocks ≤ 1048576)
    (hlost : K.lost = false) (hall : L.all (fun x => x.1.may) = true) (hroom : N + phsMany (L.map Prod.fst) ≤ 1048575) (d : Drv) (hd : Drv.phases ⟨s.select, [], 0, K.left⟩ (L.map Prod.fst) = (d, true)) :
    Calls Tryz.prog 127 #[.pointer (some ⟨k, 0, none⟩), .slice a n cap] w fun e w' => ∃ oa oc, e = .returned (.tuple #[.slice oa d.out.length oc, .int .i64 0]) ∧ Ctx (ChipP b d.s.deselect (N + d.clocks + 1)) ((CtlC k b fo fi (K.driven d)).star Q) w0 w' ((.slice oa d.out.length oc, ints d.out) :: rows) := by
  obtain ⟨c0, -, -, c8, -⟩ := ctl_cells hC
  have hkept := phases_kept (L.map Prod.fst) ⟨s.select, [], 0, K.left⟩ (by rw [map_all]; exact hall)
  rw [hd] at hkept
  have hdc0 := hkept.up
  have hdc1 := hkept.many
  dsimp only at hdc0 hdc1
  have hdr2 := c_drive ((ctlC_ok k b fo fi K).star hQ) hC.drew hN hsel a n cap L hP K.left hkl hall (.inl hroom) d true hd
  have HDR := Lib.hid hdr2
  have hdb : d.clocks ≤ 1048575 := by omega
  have HQ := Lib.hid hQ
  clear hdr2 hkept hC hP hd hroom
  have hwl : 0 ≤ K.left → IntKind.i64.wrap (K.left - d.clocks) = K.left - d.clocks := fun h => IntWalk.i64_in _ (by omega)
  have HWL := Lib.hid hwl
  clear hwl
  have hcl : IntKind.i64.wrap (K.clocks + d.clocks) = K.clocks + d.clocks := IntWalk.i64_in _ (by omega)
  go_enter Tryz.func127, Tryz.ntmps127
  go_upto_region 1 with fail
  go_region_held3 (fun w' => w'.cell? ⟨k, 0, none⟩ = some (.pointer (some ⟨b, 0, none⟩)) ∧ w'.cell? ⟨k, 8, none⟩ = some (.int .i64 K.left)) (first | exact ⟨c0, c8⟩ | exact ⟨e0, e8⟩) (first | (go_at_call 40; refine HDR.out.mono ?_; rintro e w3 ⟨oa, oc, rfl, hC3⟩; obtain ⟨e0, e6, e7, e8, e9, ef, -⟩ := ctl_cells hC3))
  have HC3 := Lib.hid hC3
  have f6 := ef 6
  have f8 := ef 8
  have f9 := ef 9
  clear hC3 ef c0 c8
  obtain ⟨kr0, kr1, kr2, kcl, kgo, kle, klo⟩ := K
  dsimp only at *
  subst hlost
  have hs1 := ctl_set (K' := ⟨kr0, kr1, kr2, kcl + d.clocks, kgo, kle, false⟩) HQ.out HC3.out 6 (.int .i64 (kcl + d.clocks)) rfl
  by_cases hl0 : 0 ≤ kle
  · have hEQ : (KS.driven ⟨kr0, kr1, kr2, kcl, kgo, kle, false⟩ d) = ⟨kr0, kr1, kr2, kcl + d.clocks, kgo, kle - d.clocks, false⟩ := by unfold KS.driven; dsimp only; rw [if_pos hl0]
    have HEQ := Lib.hid hEQ
    have hwl := HWL.out hl0
    have hs2 := ctl_set (K' := ⟨kr0, kr1, kr2, kcl + d.clocks, kgo, kle - d.clocks, false⟩) HQ.out hs1 8 (.int .i64 (kle - d.clocks)) rfl
    have HS := Lib.hid hs2
    clear hs1 hs2 hEQ
    go_wp2
    go_ret2
    exact ⟨oa, oc, rfl, by rw [HEQ.out]; exact HS.out⟩
  · have hEQ : (KS.driven ⟨kr0, kr1, kr2, kcl, kgo, kle, false⟩ d) = ⟨kr0, kr1, kr2, kcl + d.clocks, kgo, kle, false⟩ := by unfold KS.driven; dsimp only; rw [if_neg hl0]
    have HEQ := Lib.hid hEQ
    have HS := Lib.hid hs1
    clear hs1 hEQ
    go_wp2
    go_ret2
    exact ⟨oa, oc, rfl, by rw [HEQ.out]; exact HS.out⟩
set_option maxRecDepth 100000 in
set_option maxHeartbeats 4000000 in
theorem k_drive_cut {Q : Own} {w0 w : World} {b : Nat} {s : St} {N : Int} {rows : List (Value × List Value)} {k fo fi : Nat} {K : KS} (hQ : Q.Ok) (hC : Ctx (ChipP b s N) ((CtlC k b fo fi K).star Q) w0 w rows) (hN : 0 ≤ N) (hsel : s.sel = false) (a : Option Addr) (n cap : Nat) (L : List (Ph × Value)) (hP : PhsV rows (.slice a n cap) L) (hkl : -9223372036854775808 ≤ K.left ∧ K.left ≤ 9223372036854775807) (hkc : 0 ≤ K.clocks ∧ K.clocks ≤ 1048576)
    (hlost : K.lost = false) (hall : L.all (fun x => x.1.may) = true) (hroom : N + phsMany (L.map Prod.fst) ≤ 1048575) (d : Drv) (hd : Drv.phases ⟨s.select, [], 0, K.left⟩ (L.map Prod.fst) = (d, false)) :
    Calls Tryz.prog 127 #[.pointer (some ⟨k, 0, none⟩), .slice a n cap] w fun e w' => e = .returned (.tuple #[.slice none 0 0, .int .i64 1101]) ∧ Ctx (ChipP b d.s (N + d.clocks + 1)) ((CtlC k b fo fi (K.driven d).gone).star Q) w0 w' rows := by
  obtain ⟨c0, -, -, c8, -⟩ := ctl_cells hC
  have hkept := phases_kept (L.map Prod.fst) ⟨s.select, [], 0, K.left⟩ (by rw [map_all]; exact hall)
  rw [hd] at hkept
  have hdc0 := hkept.up
  have hdc1 := hkept.many
  dsimp only at hdc0 hdc1
  have hdr2 := c_drive ((ctlC_ok k b fo fi K).star hQ) hC.drew hN hsel a n cap L hP K.left hkl hall (.inl hroom) d false hd
  have HDR := Lib.hid hdr2
  have hdb : d.clocks ≤ 1048575 := by omega
  have HQ := Lib.hid hQ
  clear hdr2 hkept hC hP hd hroom
  have hwl : 0 ≤ K.left → IntKind.i64.wrap (K.left - d.clocks) = K.left - d.clocks := fun h => IntWalk.i64_in _ (by omega)
  have HWL := Lib.hid hwl
  clear hwl
  have hcl : IntKind.i64.wrap (K.clocks + d.clocks) = K.clocks + d.clocks := IntWalk.i64_in _ (by omega)
  go_enter Tryz.func127, Tryz.ntmps127
  go_upto_region 1 with fail
  go_region_held3 (fun w' => w'.cell? ⟨k, 0, none⟩ = some (.pointer (some ⟨b, 0, none⟩)) ∧ w'.cell? ⟨k, 8, none⟩ = some (.int .i64 K.left)) (first | exact ⟨c0, c8⟩ | exact ⟨e0, e8⟩) (first | (go_at_call 40; refine HDR.out.mono ?_; rintro e w3 ⟨oa, oc, rfl, hC3⟩; obtain ⟨e0, e6, e7, e8, e9, ef, -⟩ := ctl_cells hC3))
  have HC3 := Lib.hid hC3
  have f6 := ef 6
  have f8 := ef 8
  have f9 := ef 9
  clear hC3 ef c0 c8
  obtain ⟨kr0, kr1, kr2, kcl, kgo, kle, klo⟩ := K
  dsimp only at *
  subst hlost
  have hs1 := ctl_set (K' := ⟨kr0, kr1, kr2, kcl + d.clocks, kgo, kle, false⟩) HQ.out HC3.out 6 (.int .i64 (kcl + d.clocks)) rfl
  by_cases hl0 : 0 ≤ kle
  · have hEQ : (KS.driven ⟨kr0, kr1, kr2, kcl, kgo, kle, false⟩ d) = ⟨kr0, kr1, kr2, kcl + d.clocks, kgo, kle - d.clocks, false⟩ := by unfold KS.driven; dsimp only; rw [if_pos hl0]
    have HEQ := Lib.hid hEQ
    have hwl := HWL.out hl0
    have hs2 := ctl_set (K' := ⟨kr0, kr1, kr2, kcl + d.clocks, kgo, kle - d.clocks, false⟩) HQ.out hs1 8 (.int .i64 (kle - d.clocks)) rfl
    have HS := Lib.hid (ctl_set (K' := ⟨kr0, kr1, kr2, kcl + d.clocks, kgo, kle - d.clocks, true⟩) HQ.out hs2 9 (.bool true) rfl)
    clear hs1 hs2 hEQ
    go_wp2
    go_ret2
    exact ⟨rfl, by rw [HEQ.out]; exact HS.out.tl⟩
  · have hEQ : (KS.driven ⟨kr0, kr1, kr2, kcl, kgo, kle, false⟩ d) = ⟨kr0, kr1, kr2, kcl + d.clocks, kgo, kle, false⟩ := by unfold KS.driven; dsimp only; rw [if_neg hl0]
    have HEQ := Lib.hid hEQ
    have HS := Lib.hid (ctl_set (K' := ⟨kr0, kr1, kr2, kcl + d.clocks, kgo, kle, true⟩) HQ.out hs1 9 (.bool true) rfl)
    clear hs1 hEQ
    go_wp2
    go_ret2
    exact ⟨rfl, by rw [HEQ.out]; exact HS.out.tl⟩
end Go.Proofs.YteombggfmeilaaaGreat
namespace Go.Proofs.YteombggfmeilaaaGreat
open Go.RowKit
theorem may_bytes (l : Int) (bs : List Int) (hl : l = 1 ∨ l = 4) (hne : bs ≠ []) (hlen : bs.length ≤ 512) (hby : bs.all byteB = true) : Ph.may ⟨l, bs, 0, 0⟩ = true := by
  unfold Ph.may
  dsimp only
  rw [if_pos hne, hby]
  simp [lanesB, hl, hlen]
theorem may_reads (l r : Int) (hl : l = 1 ∨ l = 4) (h0 : 1 ≤ r) (h1 : r ≤ 512) : Ph.may ⟨l, [], 0, r⟩ = true := by
  unfold Ph.may
  dsimp only
  rw [if_neg (by simp), if_pos (by omega)]
  simp [lanesB, hl, h0, h1]
theorem may_waits (n : Int) (h0 : 1 ≤ n) (h1 : n ≤ 400) : Ph.may ⟨0, [], n, 0⟩ = true := by
  unfold Ph.may
  dsimp only
  rw [if_neg (by simp), if_neg (by simp)]
  simp [h0, h1]
theorem opOf_forms (c : Int) (hc : opIs c = true) : (0 < (opOf c).addr → (opOf c).addr = 1 ∨ (opOf c).addr = 4) ∧ ((opOf c).mode = true → (opOf c).addr = 1 ∨ (opOf c).addr = 4) ∧ ((opOf c).data ≠ 0 → (opOf c).data = 1 ∨ (opOf c).data = 4) ∧ (opOf c).dummy ≤ 8 ∧ ((opOf c).inn = true → (opOf c).data ≠ 0) ∧ (opOf c).byte = c ∧ 0 ≤ c ∧ c ≤ 255 ∧ ((opOf c).mode = true → (opOf c).data ≠ 0 ∧ (opOf c).inn = false) := by
  simp only [opIs, decide_eq_true_eq] at hc
  rcases hc with rfl | rfl | rfl | rfl | rfl | rfl | rfl | rfl | rfl | rfl | rfl | rfl | rfl | rfl <;> decide
theorem cmd_all (c : Int) (hc : opIs c = true) (k : Int) (data : List Int) (read : Int) (h : cmdMay (opOf c) k data read = true) : (cmdPhs (opOf c) k data read).all Ph.may = true := by
  obtain ⟨h1, h2, h3, h4, h5, h6, h7, h8, h9⟩ := opOf_forms c hc
  generalize opOf c = o at *
  unfold cmdMay at h
  simp only [Bool.and_eq_true, decide_eq_true_eq, Bool.not_eq_true', Bool.and_eq_false_imp] at h
  obtain ⟨⟨⟨⟨⟨hk, hk0⟩, hlen⟩, hby⟩, hr⟩, hfit⟩ := h
  have hmode : o.mode = true → data ≠ [] := by
    intro hm hde
    unfold fitsB at hfit
    rw [if_neg (h9 hm).1, (h9 hm).2, hm, hde] at hfit
    simp at hfit
  have hread : 0 < read → o.data ≠ 0 := by
    intro hr0 hd0
    unfold fitsB at hfit
    rw [if_pos hd0] at hfit
    simp at hfit
    omega
  unfold cmdPhs
  rw [List.all_cons, List.all_append, List.all_append, List.all_append, List.all_append]
  simp only [Bool.and_eq_true]
  refine ⟨may_bytes 1 _ (.inl rfl) (by simp) (by simp) (by simp [byteB]; omega), ⟨⟨⟨?_, ?_⟩, ?_⟩, ?_⟩, ?_⟩
  · by_cases ha : 0 < o.addr
    · rw [if_pos ha, List.all_cons, may_bytes _ _ (h1 ha) (by simp) (by simp) (by simp [byteB]; omega)]; rfl
    · rw [if_neg ha]; rfl
  · by_cases hm : o.mode = true
    · rw [if_pos hm, List.all_cons, may_bytes _ _ (h2 hm) (hmode hm) hlen hby]; rfl
    · rw [if_neg hm]; rfl
  · by_cases hd : 0 < o.dummy
    · rw [if_pos hd, List.all_cons, may_waits _ (by omega) (by omega)]; rfl
    · rw [if_neg hd]; rfl
  · by_cases hi : o.inn = true ∧ data ≠ []
    · rw [if_pos hi, List.all_cons, may_bytes _ _ (h3 (h5 hi.1)) hi.2 hlen hby]; rfl
    · rw [if_neg hi]; rfl
  · by_cases hr0 : 0 < read
    · rw [if_pos hr0, List.all_cons, may_reads _ _ (h3 (hread hr0)) (by omega) (by omega)]; rfl
    · rw [if_neg hr0]; rfl
set_option maxRecDepth 100000 in
set_option maxHeartbeats 8000000 in
theorem c_run {Q : Own} {w0 w : World} {b : Nat} {s : St} {N : Int} {rows : List (Value × List Value)} {k fo fi : Nat} {K : KS} (hQ : Q.Ok) (hC : Ctx (ChipP b s N) ((CtlC k b fo fi K).star Q) w0 w rows) (hN : 0 ≤ N) (hsel : s.sel = false) (hkl : -9223372036854775808 ≤ K.left ∧ K.left ≤ 9223372036854775807) (hkc : 0 ≤ K.clocks ∧ K.clocks ≤ 1048576)
    (hlost : K.lost = false) (hgo : K.goes = false) (c : Int) (hc : opIs c = true) (hc2 : c ≠ 235) (at_ : Int) (a : Option Addr) (cp : Nat) (data : List Int) (hdd : (.slice a data.length cp, ints data) ∈ rows) (read : Int) (hmay : cmdMay (opOf c) at_ data read = true) (hroom : N + phsMany (cmdPhs (opOf c) at_ data read) ≤ 1048575) (d : Drv) (hd : Drv.phases ⟨s.select, [], 0, K.left⟩ (cmdPhs (opOf c) at_ data read) = (d, true)) :
    Calls Tryz.prog 50 #[.pointer (some ⟨k, 0, none⟩), .int .i64 c, .int .i64 at_, .slice a data.length cp, .int .i64 read] w fun e w' => ∃ oa oc, e = .returned (.tuple #[.slice oa d.out.length oc, .int .i64 0]) ∧ Ctx (ChipP b d.s.deselect (N + d.clocks + 1)) ((CtlC k b fo fi (K.driven d)).star Q) w0 w' ((.slice oa d.out.length oc, ints d.out) :: rows) := by
  have hcall := cmd_all c hc at_ data read hmay
  have hfind := tab_find c hc
  have hst := k_state hC
  rw [hlost] at hst
  have hcmd := fun w1 (h : Ctx (ChipP b s N) ((CtlC k b fo fi K).star Q) w0 w1 rows) => c_command ((ctlC_ok k b fo fi K).star hQ) h c hc at_ a cp data hdd read hmay
  have hdrv := fun w1 rows1 (h : Ctx (ChipP b s N) ((CtlC k b fo fi K).star Q) w0 w1 rows1) g m cap L (hP : PhsV rows1 (.slice (some ⟨g, 0, none⟩) m cap) L) (hL : L.map Prod.fst = cmdPhs (opOf c) at_ data read) => k_drive hQ h hN hsel (some ⟨g, 0, none⟩) m cap L hP hkl hkc hlost (by rw [← map_all, hL]; exact hcall) (by rw [hL]; exact hroom) d (by rw [hL]; exact hd)
  have HSET : Hid (∀ w1 rows1, Ctx (ChipP b d.s.deselect (N + d.clocks + 1)) ((CtlC k b fo fi (K.driven d)).star Q) w0 w1 rows1 → Ctx (ChipP b d.s.deselect (N + d.clocks + 1)) ((CtlC k b fo fi (K.driven d)).star Q) w0 (w1.setCell ⟨k, 7, none⟩ (.bool false)) rows1) := Lib.hid (fun w1 rows1 h => by
    refine ctl_set hQ h 7 (.bool false) ?_
    obtain ⟨kr0, kr1, kr2, kcl, kgo, kle, klo⟩ := K
    dsimp only at hgo
    subst hgo
    rfl)
  have HG7 : Hid (∀ w1 rows1, Ctx (ChipP b d.s.deselect (N + d.clocks + 1)) ((CtlC k b fo fi (K.driven d)).star Q) w0 w1 rows1 → w1.cell? ⟨k, 7, none⟩ = some (.bool false) ∧ w1.frozen? ⟨k, 7, none⟩ = false) := Lib.hid (fun w1 rows1 h => by
    obtain ⟨-, -, e7, -, -, ef, -⟩ := ctl_cells h
    refine ⟨?_, ef 7⟩
    rw [e7]
    unfold KS.driven
    rw [hgo])
  have HG0 : Hid (∀ w1 rows1, Ctx (ChipP b s N) ((CtlC k b fo fi K).star Q) w0 w1 rows1 → w1.cell? ⟨k, 7, none⟩ = some (.bool false)) := Lib.hid (fun w1 rows1 h => by
    obtain ⟨-, -, e7, -⟩ := ctl_cells h
    rw [e7, hgo])
  have HC := Lib.hid hC
  obtain ⟨o, ho⟩ : ∃ o, opOf c = o := ⟨_, rfl⟩
  rw [ho] at hfind hcmd hdrv
  obtain ⟨by', ad, mo, du, da, inn⟩ := o
  unfold POp.cells at hfind hcmd
  dsimp only at hfind hcmd
  have HFIND := Lib.hid hfind
  have HCMD := Lib.hid hcmd
  have HDRV := Lib.hid hdrv
  have HST := Lib.hid hst
  have hcb : (c == 235) = false := by simpa using hc2
  clear hcall hfind hst hcmd hdrv hC hc ho hd hmay hroom hdd hlost hgo hkl hkc hsel
  go_enter Tryz.func50, Tryz.ntmps50
  go_upto_region 8 with (first | (go_at_call 124; refine HST.out.mono ?_; rintro e w1 ⟨rfl, rfl⟩) | (go_at_call 125; refine (HFIND.out _).mono ?_; rintro e w2 ⟨rfl, hU2⟩; have HC2 := Lib.hid ((HC.out.frame hU2).alloc (.cells #[.int .i64 by', .int .i64 ad, .bool mo, .int .i64 du, .int .i64 da, .bool inn] 52))) | (go_at_call 126; refine (HCMD.out _ HC2.out).mono ?_; rintro e w3 ⟨g, m, cap, L, rows', rfl, hL, hC3, hP3⟩; have c7 := HG0.out _ _ hC3))
  have HDR := Lib.hid (HDRV.out _ _ hC3 g m cap L hP3 hL)
  clear hC3 hP3 hL HCMD HDRV HFIND HST HC
  go_wp2_with (go_at_call 127; refine HDR.out.mono ?_; rintro e w4 ⟨oa, oc, rfl, hC4⟩; obtain ⟨d7, df7⟩ := HG7.out _ _ hC4)
  have hC5 := HSET.out _ _ hC4
  go_ret2
  refine ⟨oa, oc, rfl, hC5.sub fun r hr => ?_⟩
  rcases List.mem_cons.1 hr with h | h
  · exact List.mem_cons.2 (.inl h)
  · exact List.mem_cons.2 (.inr (List.mem_append.2 (.inr h)))
end Go.Proofs.YteombggfmeilaaaGreat
/- WireR. -/
namespace Go.Proofs.YteombggfmeilaaaGreat
open Go.RowKit
theorem run_free (xs : List Int) : ∀ d : Drv, d.most < 0 → d.run xs = ({ d with s := (runC d.s xs).1, clocks := d.clocks + (xs.length : Int) }, (runC d.s xs).2, true) := by
  induction xs with
  | nil =>
    intro d _
    show (d, [], true) = ({ d with s := d.s, clocks := d.clocks + 0 }, [], true)
    rw [Int.add_zero]
  | cons x xs ih =>
    intro d h
    have hf : d.full = false := decide_eq_false (by omega)
    simp only [Drv.run, hf, Bool.false_eq_true, if_false]
    rw [ih (d.clk x) h, runC_cons, List.length_cons]
    show ((⟨_, _, d.clocks + 1 + _, _⟩ : Drv), _, _) = _
    rw [show d.clocks + 1 + (xs.length : Int) = d.clocks + ((xs.length + 1 : Nat) : Int) by omega]
    rfl
def Ph.ins (p : Ph) : List Int := p.says ++ List.replicate ((8 / p.lanes).toNat * p.read.toNat) 15
def groups (l : Int) : Nat → List Int → List Int
  | 0, _ => []
  | n + 1, ys => inL l (ys.take (8 / l).toNat) :: groups l n (ys.drop (8 / l).toNat)
theorem gets_free (l : Int) (n : Nat) : ∀ d : Drv, d.most < 0 → d.gets l n = ({ d with s := (runC d.s (List.replicate ((8 / l).toNat * n) 15)).1, out := d.out ++ groups l n (runC d.s (List.replicate ((8 / l).toNat * n) 15)).2, clocks := d.clocks + (((8 / l).toNat * n : Nat) : Int) }, true) := by
  induction n with
  | zero =>
    intro d _
    show (d, true) = ({ d with s := (runC d.s (List.replicate 0 15)).1, out := d.out ++ [], clocks := d.clocks + 0 }, true)
    rw [Int.add_zero, List.append_nil]
    rfl
  | succ n ih =>
    intro d h
    have hg : d.get l = ({ d with s := (runC d.s (List.replicate (8 / l).toNat 15)).1, out := d.out ++ [inL l (runC d.s (List.replicate (8 / l).toNat 15)).2], clocks := d.clocks + (((8 / l).toNat : Nat) : Int) }, true) := by
      unfold Drv.get
      rw [run_free _ d h, List.length_replicate]
      rfl
    rw [Drv.gets, hg]
    simp only [if_true]
    have ih' := fun s o c => ih ⟨s, o, c, d.most⟩ h
    rw [ih']
    dsimp only
    have hsp : List.replicate ((8 / l).toNat * (n + 1)) (15 : Int) = List.replicate (8 / l).toNat 15 ++ List.replicate ((8 / l).toNat * n) 15 := by
      rw [List.replicate_append_replicate]; congr 1; rw [Nat.mul_succ]; omega
    have hlen : (runC d.s (List.replicate (8 / l).toNat 15)).2.length = (8 / l).toNat := by rw [runC_len, List.length_replicate]
    rw [hsp, runC_app, groups]
    dsimp only
    rw [List.take_append_of_le_length (by omega), List.take_of_length_le (by omega), List.drop_append_of_le_length (by omega), List.drop_of_length_le (by omega), List.nil_append, List.append_assoc]
    have e : d.clocks + (((8 / l).toNat : Nat) : Int) + (((8 / l).toNat * n : Nat) : Int) = d.clocks + (((8 / l).toNat * (n + 1) : Nat) : Int) := by rw [Nat.mul_succ]; omega
    rw [e]
    rfl
theorem phase_free (d : Drv) (p : Ph) (h : d.most < 0) : d.phase p = ({ d with s := (runC d.s p.ins).1, out := d.out ++ groups p.lanes p.read.toNat ((runC d.s p.ins).2.drop p.says.length), clocks := d.clocks + (p.ins.length : Int) }, true) := by
  unfold Drv.phase
  rw [run_free _ d h]
  simp only [if_true]
  have hg := fun s o c => gets_free p.lanes p.read.toNat ⟨s, o, c, d.most⟩ h
  rw [hg]
  unfold Ph.ins
  dsimp only
  rw [runC_app]
  dsimp only
  rw [List.drop_append_of_le_length (by rw [runC_len]; exact Nat.le_refl _), List.drop_of_length_le (by rw [runC_len]; exact Nat.le_refl _), List.nil_append, List.length_append, List.length_replicate]
  rw [show d.clocks + (p.says.length : Int) + (((8 / p.lanes).toNat * p.read.toNat : Nat) : Int) = d.clocks + ((p.says.length + (8 / p.lanes).toNat * p.read.toNat : Nat) : Int) by omega]
def phsIns (ps : List Ph) : List Int := ps.flatMap Ph.ins
def phsOuts : List Ph → List Int → List Int
  | [], _ => []
  | p :: ps, ys => groups p.lanes p.read.toNat (ys.drop p.says.length) ++ phsOuts ps (ys.drop p.ins.length)
theorem groups_take (l : Int) (n : Nat) : ∀ (ys zs : List Int), (8 / l).toNat * n ≤ ys.length → groups l n (ys ++ zs) = groups l n ys := by
  induction n with
  | zero => intro ys zs _; rfl
  | succ n ih =>
    intro ys zs h
    rw [Nat.mul_succ] at h
    rw [groups, groups, List.take_append_of_le_length (by omega), List.drop_append_of_le_length (by omega), ih _ _ (by rw [List.length_drop]; omega)]
theorem phases_free (ps : List Ph) : ∀ d : Drv, d.most < 0 → d.phases ps = ({ d with s := (runC d.s (phsIns ps)).1, out := d.out ++ phsOuts ps (runC d.s (phsIns ps)).2, clocks := d.clocks + ((phsIns ps).length : Int) }, true) := by
  induction ps with
  | nil =>
    intro d _
    show (d, true) = ({ d with s := d.s, out := d.out ++ [], clocks := d.clocks + 0 }, true)
    rw [Int.add_zero, List.append_nil]
  | cons p ps ih =>
    intro d h
    have hl : (runC d.s p.ins).2.length = p.ins.length := runC_len _ _
    have hil : p.ins.length = p.says.length + (8 / p.lanes).toNat * p.read.toNat := by unfold Ph.ins; rw [List.length_append, List.length_replicate]
    rw [Drv.phases, phase_free d p h]
    simp only [if_true]
    have ih' := fun s o c => ih ⟨s, o, c, d.most⟩ h
    rw [ih', phsOuts]
    unfold phsIns
    rw [List.flatMap_cons, runC_app]
    dsimp only
    rw [List.drop_append_of_le_length (by omega), List.drop_append_of_le_length (by omega), List.drop_of_length_le (by omega : (runC d.s p.ins).2.length ≤ p.ins.length), List.nil_append, groups_take _ _ _ _ (by rw [List.length_drop]; omega), List.append_assoc, List.length_append]
    rw [show d.clocks + (p.ins.length : Int) + ((List.flatMap Ph.ins ps).length : Int) = d.clocks + ((p.ins.length + (List.flatMap Ph.ins ps).length : Nat) : Int) by omega]
theorem phsMany_cons (p : Ph) (ps : List Ph) : phsMany (p :: ps) = p.many + phsMany ps := by
  have key : ∀ (ps : List Ph) (k : Int), ps.foldl (fun k p => k + p.many) k = k + phsMany ps := by
    intro ps
    unfold phsMany
    induction ps with
    | nil => intro k; simp
    | cons p ps ih => intro k; rw [List.foldl_cons, ih, List.foldl_cons, ih (0 + p.many)]; omega
  show (p :: ps).foldl (fun k p => k + p.many) 0 = _
  rw [List.foldl_cons, key]; omega
end Go.Proofs.YteombggfmeilaaaGreat
namespace Go.Proofs.YteombggfmeilaaaGreat
open Go.RowKit
structure Cor where
  a : ByteArray
  prot : Bool
  quad : Bool
  en : Bool
  goes : Bool
  job : Option Job
  busy : List Int
  wipes : Nat → Int
def St.cor (t : St) : Cor := ⟨t.a, t.prot, t.quad, t.en, t.goes, t.job, t.busy, t.wipes⟩
structure At (c : Cor) (t : St) : Prop where
  cor : t.cor = c
  sel : t.sel = false
def Cor.new (a : ByteArray) : Cor := ⟨a, false, false, false, false, none, [], fun _ => 0⟩
theorem at_new (a : ByteArray) : At (Cor.new a) (St.new a) := ⟨rfl, rfl⟩
theorem At.a {c : Cor} {t : St} (h : At c t) : t.a = c.a := congrArg Cor.a h.cor
theorem At.goes {c : Cor} {t : St} (h : At c t) : t.goes = c.goes := congrArg Cor.goes h.cor
theorem At.job {c : Cor} {t : St} (h : At c t) : t.job = c.job := congrArg Cor.job h.cor
theorem At.quad {c : Cor} {t : St} (h : At c t) : t.quad = c.quad := congrArg Cor.quad h.cor
theorem At.en {c : Cor} {t : St} (h : At c t) : t.en = c.en := congrArg Cor.en h.cor
theorem At.prot {c : Cor} {t : St} (h : At c t) : t.prot = c.prot := congrArg Cor.prot h.cor
theorem At.busy {c : Cor} {t : St} (h : At c t) : t.busy = c.busy := congrArg Cor.busy h.cor
theorem At.wipes {c : Cor} {t : St} (h : At c t) : t.wipes = c.wipes := congrArg Cor.wipes h.cor
def Tel (s t : St) : Prop := t = { s with now := t.now, left := t.left, told := t.told, tabled := t.tabled }
theorem Tel.refl (s : St) : Tel s s := rfl
theorem Tel.trans {s t u : St} (h : Tel s t) (k : Tel t u) : Tel s u := by
  unfold Tel at h k ⊢
  rw [k, h]
theorem ins_bytes1 (bs : List Int) : Ph.ins ⟨1, bs, 0, 0⟩ = wordL bs := by
  unfold Ph.ins Ph.says
  show bs.flatMap (fun b => outsL b 1) ++ List.replicate 0 15 ++ List.replicate 0 15 = _
  rw [List.replicate_zero, List.append_nil, List.append_nil]
  rfl
end Go.Proofs.YteombggfmeilaaaGreat
/- FetchP. -/
namespace Go.Proofs.YteombggfmeilaaaGreat
open Go.RowKit
def fmayB (at_ n : Int) : Bool := decide (0 ≤ n ∧ n ≤ 512 ∧ 0 ≤ at_ ∧ at_ ≤ 4096 - n)
theorem fetch_may (at_ n : Int) (w : World) : Calls Tryz.prog 129 #[.int .i64 at_, .int .i64 n] w fun e w' => e = .returned (.bool (fmayB at_ n)) ∧ w = w' := by
  by_cases h1 : 0 ≤ n
  · by_cases h2 : n ≤ 512
    · have hw : IntKind.i64.wrap (4096 - n) = 4096 - n := IntWalk.i64_in _ (by omega)
      by_cases h3 : 0 ≤ at_
      · by_cases h4 : at_ ≤ 4096 - n
        · rw [show fmayB at_ n = true from decide_eq_true ⟨h1, h2, h3, h4⟩]
          go_enter Tryz.func129, Tryz.ntmps129
          go_wp2
          go_ret
          exact ⟨rfl, rfl⟩
        · rw [show fmayB at_ n = false from decide_eq_false (by omega)]
          go_enter Tryz.func129, Tryz.ntmps129
          go_wp2
          go_ret
          exact ⟨rfl, rfl⟩
      · rw [show fmayB at_ n = false from decide_eq_false (by omega)]
        go_enter Tryz.func129, Tryz.ntmps129
        go_wp2
        go_ret
        exact ⟨rfl, rfl⟩
    · rw [show fmayB at_ n = false from decide_eq_false (by omega)]
      go_enter Tryz.func129, Tryz.ntmps129
      go_wp2
      go_ret
      exact ⟨rfl, rfl⟩
  · rw [show fmayB at_ n = false from decide_eq_false (by omega)]
    go_enter Tryz.func129, Tryz.ntmps129
    go_wp2
    go_ret
    exact ⟨rfl, rfl⟩
end Go.Proofs.YteombggfmeilaaaGreat
namespace Go.Proofs.YteombggfmeilaaaGreat
open Go.RowKit
theorem en_all {c : Cor} {t : St} (h : At c t) (hg : c.goes = false) (hj : c.job = none) :
    ∃ d : Drv, Drv.phases ⟨t.select, [], 0, -1⟩ (cmdPhs (opOf 6) 0 [] 0) = (d, true) ∧ d.clocks = 8 ∧ d.out = [] ∧ At { c with en := true } d.s.deselect := by
  have htg := h.goes.trans hg
  have htj := h.job.trans hj
  obtain ⟨hcor, hsel⟩ := h
  obtain ⟨a, prot, quad, wipes, tabled, sel, en, goes, job, busy, op, stage, left, got, addr, mode, moded, data, told, now, beyond⟩ := t
  change goes = false at htg
  change job = none at htj
  subst htg
  subst htj
  subst hcor
  exact ⟨_, (Prod.ext rfl (by kernel_rfl) : _ = (_, true)), by kernel_rfl, by kernel_rfl, by kernel_rfl, by kernel_rfl⟩
end Go.Proofs.YteombggfmeilaaaGreat
/- Ready. -/
namespace Go.Proofs.YteombggfmeilaaaGreat
open Go.RowKit
def Rdy (Q : Own) (c : Cor) (b k fo fi : Nat) (n q : Int) (w0 w : World) (rows : List (Value × List Value)) : Prop :=
  ∃ (s : St) (N : Int) (K : KS), Q.Ok ∧ At c s ∧ Ctx (ChipP b s N) ((CtlC k b fo fi K).star Q) w0 w rows ∧ 0 ≤ N ∧ N ≤ n ∧ K.left = -1 ∧ K.lost = false ∧ K.goes = false ∧ K.clocks = q ∧ 0 ≤ q ∧ q ≤ n ∧ n ≤ 1048575
theorem Rdy.rowsub {Q : Own} {c : Cor} {b k fo fi : Nat} {n q : Int} {w0 w : World} {rows rows' : List (Value × List Value)} (h : Rdy Q c b k fo fi n q w0 w rows) (hs : ∀ r ∈ rows', r ∈ rows) : Rdy Q c b k fo fi n q w0 w rows' := by
  obtain ⟨s, N, K, h1, h2, h3, h4⟩ := h
  exact ⟨s, N, K, h1, h2, h3.sub hs, h4⟩
theorem Rdy.fr {Q : Own} {c : Cor} {b k fo fi : Nat} {n q : Int} {w0 w w' : World} {rows : List (Value × List Value)} (h : Rdy Q c b k fo fi n q w0 w rows) (u : Upd none' w w') : Rdy Q c b k fo fi n q w0 w' rows := by
  obtain ⟨s, N, K, h1, h2, h3, h4⟩ := h
  exact ⟨s, N, K, h1, h2, h3.frame u, h4⟩
theorem Rdy.up {Q : Own} {c : Cor} {b k fo fi : Nat} {n q : Int} {w0 w : World} {rows : List (Value × List Value)} (h : Rdy Q c b k fo fi n q w0 w rows) : Upd none' w0 w := by
  obtain ⟨s, N, K, h1, h2, h3, h4⟩ := h
  exact h3.upd
theorem Rdy.nil {Q : Own} {c : Cor} {b k fo fi : Nat} {n q : Int} {w0 w : World} {rows : List (Value × List Value)} (h : Rdy Q c b k fo fi n q w0 w rows) : Rdy Q c b k fo fi n q w0 w ((.slice none 0 0, ints []) :: rows) := by
  obtain ⟨s, N, K, h1, h2, h3, h4⟩ := h
  exact ⟨s, N, K, h1, h2, h3.nilrow, h4⟩
theorem Rdy.lit {Q : Own} {c : Cor} {b k fo fi : Nat} {n q : Int} {w0 w : World} {rows : List (Value × List Value)} (h : Rdy Q c b k fo fi n q w0 w rows) (vs : List Value) (t : TypeId) (m : Nat) (hm : vs.length = m) (hb : m ≤ 1048576) : Rdy Q c b k fo fi n q w0 (w.alloc (.cells vs.toArray t)) ((.slice (some ⟨w.heap.size, 0, none⟩) m m, vs) :: rows) := by
  obtain ⟨s, N, K, h1, h2, h3, h4⟩ := h
  exact ⟨s, N, K, h1, h2, h3.lit vs t m hm hb, h4⟩
theorem Rdy.rs {Q : Own} {c : Cor} {b k fo fi : Nat} {n q : Int} {w0 w : World} {rows : List (Value × List Value)} (h : Rdy Q c b k fo fi n q w0 w rows) {r : Value × List Value} (hr : r ∈ rows) : RS w r.1 r.2 := by
  obtain ⟨s, N, K, h1, h2, h3, h4⟩ := h
  exact h3.rs_mem hr
theorem rdy_new {w0 w : World} {b : Nat} {s : St} {c : Cor} {N : Int} {Q : Own} (hQ : Q.Ok) {rows : List (Value × List Value)} (hA : At c s) (hC : Ctx (ChipP b s N) Q w0 w rows) (h0 : 0 ≤ N) (hN : N ≤ 1048575) :
    Calls Tryz.prog 49 #[.pointer (some ⟨b, 0, none⟩)] w fun e w' => ∃ k fo fi, e = .returned (.tuple #[.pointer (some ⟨k, 0, none⟩), .int .i64 0]) ∧ Rdy Q c b k fo fi N 0 w0 w' rows := by
  refine (c_ctlnew hC).mono ?_
  rintro e w' ⟨k, fo, fi, rfl, hC2⟩
  exact ⟨k, fo, fi, rfl, s, N, KS.new, hQ, hA, hC2, h0, Int.le_refl _, rfl, rfl, rfl, rfl, Int.le_refl _, h0, hN⟩
theorem rdy_run {Q : Own} {c : Cor} {b k fo fi : Nat} {n q : Int} {w0 w : World} {rows : List (Value × List Value)} (h : Rdy Q c b k fo fi n q w0 w rows) (o : Int) (ho : opIs o = true) (ho2 : o ≠ 235) (at_ : Int) (a : Option Addr) (cp : Nat) (data : List Int) (hdd : (.slice a data.length cp, ints data) ∈ rows) (read : Int) (hmay : cmdMay (opOf o) at_ data read = true)
    (c' : Cor) (out : List Int) (clk : Int) (hclk : phsMany (cmdPhs (opOf o) at_ data read) = clk) (hroom : n + clk + 1 ≤ 1048575) (hd : ∀ t, At c t → ∃ d : Drv, Drv.phases ⟨t.select, [], 0, -1⟩ (cmdPhs (opOf o) at_ data read) = (d, true) ∧ d.clocks = clk ∧ d.out = out ∧ At c' d.s.deselect) :
    Calls Tryz.prog 50 #[.pointer (some ⟨k, 0, none⟩), .int .i64 o, .int .i64 at_, .slice a data.length cp, .int .i64 read] w fun e w' => ∃ oa oc, e = .returned (.tuple #[.slice oa out.length oc, .int .i64 0]) ∧ Rdy Q c' b k fo fi (n + clk + 1) (q + clk) w0 w' ((.slice oa out.length oc, ints out) :: rows) := by
  obtain ⟨s, N, K, hQ, hA, hC, hN0, hN, hl, hlo, hgo, hkc, hq0, hqn, hn⟩ := h
  obtain ⟨d, e1, e2, e3, e4⟩ := hd s hA
  have hk := phases_kept (cmdPhs (opOf o) at_ data read) ⟨s.select, [], 0, K.left⟩ (cmd_all o ho at_ data read hmay)
  rw [hl, e1] at hk
  have hc0 := hk.up
  dsimp only at hc0
  refine (c_run hQ hC hN0 hA.sel (by omega) (by omega) hlo hgo o ho ho2 at_ a cp data hdd read hmay (by omega) d (by rw [hl]; exact e1)).mono ?_
  rintro e w' ⟨oa, oc, rfl, hC2⟩
  rw [e3] at hC2 ⊢
  refine ⟨oa, oc, rfl, d.s.deselect, _, _, hQ, e4, hC2, by omega, by omega, ?_, hlo, hgo, ?_, by omega, by omega, hroom⟩
  · unfold KS.driven
    rw [if_neg (by omega)]
    exact hl
  · unfold KS.driven
    dsimp only
    omega
theorem rdy_en {Q : Own} {c : Cor} {b k fo fi : Nat} {n q : Int} {w0 w : World} {rows : List (Value × List Value)} (h : Rdy Q c b k fo fi n q w0 w rows) (hg : c.goes = false) (hj : c.job = none) (hn : n + 9 ≤ 1048575) :
    Calls Tryz.prog 50 #[.pointer (some ⟨k, 0, none⟩), .int .i64 6, .int .i64 0, .slice none 0 0, .int .i64 0] w fun e w' => ∃ oa oc, e = .returned (.tuple #[.slice oa 0 oc, .int .i64 0]) ∧ Rdy Q { c with en := true } b k fo fi (n + 9) (q + 8) w0 w' rows := by
  refine (rdy_run h.nil 6 (by decide) (by decide) 0 none 0 [] List.mem_cons_self 0 (by kernel_rfl) { c with en := true } [] 8 (by kernel_rfl) (by omega) (fun t ht => en_all ht hg hj)).mono ?_
  rintro e w' ⟨oa, oc, rfl, h2⟩
  refine ⟨oa, oc, rfl, ?_⟩
  rw [show n + 9 = n + 8 + 1 by omega]
  exact h2.rowsub fun r hr => List.mem_cons_of_mem _ (List.mem_cons_of_mem _ hr)
theorem rdy_cells {Q : Own} {c : Cor} {b k fo fi : Nat} {n q : Int} {w0 w : World} {rows : List (Value × List Value)} (h : Rdy Q c b k fo fi n q w0 w rows) (fa : ByteArray) (ha : c.a = fa) :
    Calls Tryz.prog 34 #[.pointer (some ⟨b, 0, none⟩)] w fun e w' => e = .returned (.string fa) ∧ w = w' := by
  obtain ⟨s, N, K, hQ, hA, hC, -⟩ := h
  exact c_cells hC fa (hA.a.trans ha)
end Go.Proofs.YteombggfmeilaaaGreat
