/- The document's controller in memory; NewCtl, Cut, drive. · The document's Run. · A chip and the document's, both new, side by side. -/
import Derived.Test.YtepnljeojlbliaaGreatRdH
import Derived.Test.YtepnljeojlbliaaGreatCtlB
import Derived.Test.YtepnljeojlbliaaGreatRcmA
namespace Go.Proofs.YtepnljeojlbliaaGreat
open Go.RowKit
def KS.cellsR (K : KS) (b : Nat) (tv rv : Value) : List Value :=
  [.pointer (some ⟨b, 0, none⟩), .int .i64 K.r0, .int .i64 K.r1, .int .i64 K.r2, tv, rv, .int .i64 K.clocks, .bool K.goes, .int .i64 K.left, .bool K.lost]
/-- The document's controller: its chip at b, its queues' slices tv, rv. -/
def RKC (k b : Nat) (tv rv : Value) (K : KS) : Own := fun w S => Blk w k (K.cellsR b tv rv) 97 ∧ ∀ j, S j ↔ j = k
theorem rkc_ok (k b : Nat) (tv rv : Value) (K : KS) : (RKC k b tv rv K).Ok := ⟨fun h u hT => ⟨h.1.upd u (hT k ((h.2 k).2 rfl)), h.2⟩, fun h j hj => by rw [(h.2 j).1 hj]; exact h.1.lt⟩
theorem rkc_cells {P Q : Own} {w0 w : World} {rows : List (Value × List Value)} {k b : Nat} {tv rv : Value} {K : KS} (h : Ctx P ((RKC k b tv rv K).star Q) w0 w rows) :
    w.cell? ⟨k, 0, none⟩ = some (.pointer (some ⟨b, 0, none⟩)) ∧ w.cell? ⟨k, 6, none⟩ = some (.int .i64 K.clocks) ∧ w.cell? ⟨k, 7, none⟩ = some (.bool K.goes) ∧ w.cell? ⟨k, 8, none⟩ = some (.int .i64 K.left) ∧ w.cell? ⟨k, 9, none⟩ = some (.bool K.lost) ∧ (∀ j, w.frozen? ⟨k, j, none⟩ = false) ∧ k < w.heap.size := by
  obtain ⟨S, ⟨h1, h2⟩, h3⟩ := h.get2
  have c0 := h1.cell 0
  have c6 := h1.cell 6
  have c7 := h1.cell 7
  have c8 := h1.cell 8
  have c9 := h1.cell 9
  simp only [KS.cellsR, List.getElem?_cons_succ, List.getElem?_cons_zero] at c0 c6 c7 c8 c9
  exact ⟨c0, c6, c7, c8, c9, fun j => h1.frozen j, h1.lt⟩
theorem rkc_set {P Q : Own} {w0 w : World} {rows : List (Value × List Value)} {k b : Nat} {tv rv tv' rv' : Value} {K K' : KS} (hQ : Q.Ok) (h : Ctx P ((RKC k b tv rv K).star Q) w0 w rows) (i : Nat) (v : Value) (hs : (K.cellsR b tv rv).set i v = K'.cellsR b tv' rv') : Ctx P ((RKC k b tv' rv' K').star Q) w0 (w.setCell ⟨k, i, none⟩ v) rows := by
  refine h.step2 (rkc_ok _ _ _ _ _) hQ (rkc_ok _ _ _ _ _) ?_
  rintro S ⟨h1, h2⟩
  exact ⟨S, ⟨hs ▸ h1.set i v, h2⟩, fun j hj => .inl hj, (Upd.refl _ _).setCell _ _ (fun _ => (h2 k).2 rfl)⟩
theorem rk_new {P Q : Own} {w0 w : World} {b : Nat} {rows : List (Value × List Value)} (hC : Ctx P Q w0 w rows) :
    Calls Tryz.prog 52 #[.pointer (some ⟨b, 0, none⟩)] w fun e w' => ∃ k, e = .returned (.pointer (some ⟨k, 0, none⟩)) ∧ w.heap.size ≤ k ∧ Ctx P ((RKC k b (.slice none 0 0) (.slice none 0 0) KS.new).star Q) w0 w' rows := by
  have HC := Lib.hid hC
  clear hC
  go_enter Tryz.func52, Tryz.ntmps52
  go_wp2
  go_ret
  exact ⟨w.heap.size, rfl, Nat.le_refl _, HC.out.add2 (rkc_ok _ _ _ _ _) ((Upd.refl none' w).alloc _) (B := fun j => j = w.heap.size) ⟨Blk.new w (KS.new.cellsR b (.slice none 0 0) (.slice none 0 0)) _, fun _ => Iff.rfl⟩ (fun j hj => by omega)⟩
theorem rk_cut {P Q : Own} {w0 w : World} {rows : List (Value × List Value)} {k b : Nat} {tv rv : Value} {K : KS} (hQ : Q.Ok) (h : Ctx P ((RKC k b tv rv K).star Q) w0 w rows) (x : Int) (hx : 0 ≤ x) :
    Calls Tryz.prog 55 #[.pointer (some ⟨k, 0, none⟩), .int .i64 x] w fun e w' => e = .returned (.int .i64 0) ∧ Ctx P ((RKC k b tv rv { K with left := x }).star Q) w0 w' rows := by
  obtain ⟨-, -, -, c8, -, hf, -⟩ := rkc_cells h
  have f8 := hf 8
  have H := Lib.hid (rkc_set (K' := { K with left := x }) (tv' := tv) (rv' := rv) hQ h 8 (.int .i64 x) rfl)
  have hx2 : ¬ x < 0 := by omega
  clear h hf
  go_enter Tryz.func55, Tryz.ntmps55
  go_wp2
  go_ret
  exact ⟨rfl, H.out⟩
theorem rk_cut_no {P Q : Own} {w0 w : World} {rows : List (Value × List Value)} (h : Ctx P Q w0 w rows) (k : Nat) (x : Int) (hx : x < 0) :
    Calls Tryz.prog 55 #[.pointer (some ⟨k, 0, none⟩), .int .i64 x] w fun e w' => e = .returned (.int .i64 1100) ∧ Ctx P Q w0 w' rows := by
  have H := Lib.hid h
  clear h
  go_enter Tryz.func55, Tryz.ntmps55
  go_wp2
  go_ret
  exact ⟨rfl, H.out⟩
set_option maxRecDepth 100000 in
set_option maxHeartbeats 4000000 in
theorem rk_drive {Q : Own} {w0 w : World} {b : Nat} {s : St} {N : Int} {rows : List (Value × List Value)} {k : Nat} {tv rv : Value} {K : KS} (hQ : Q.Ok) (hC : Ctx (RefP b s N) ((RKC k b tv rv K).star Q) w0 w rows) (hN : 0 ≤ N) (hsel : s.sel = false) (a : Option Addr) (n cap : Nat) (L : List (Ph × Value)) (hP : PhsV rows (.slice a n cap) L) (hkl : -9223372036854775808 ≤ K.left ∧ K.left ≤ 9223372036854775807) (hkc : 0 ≤ K.clocks ∧ K.clocks ≤ 1048576)
    (hlost : K.lost = false) (hall : L.all (fun x => x.1.may) = true) (hroom : N + phsMany (L.map Prod.fst) ≤ 1048575) (d : Drv) (hd : Drv.phases ⟨s.select, [], 0, K.left⟩ (L.map Prod.fst) = (d, true)) :
    Calls Tryz.prog 130 #[.pointer (some ⟨k, 0, none⟩), .slice a n cap] w fun e w' => ∃ oa oc, e = .returned (.tuple #[.slice oa d.out.length oc, .int .i64 0]) ∧ Ctx (RefP b d.s.deselect (N + d.clocks + 1)) ((RKC k b tv rv (K.driven d)).star Q) w0 w' ((.slice oa d.out.length oc, ints d.out) :: rows) := by
  obtain ⟨c0, -, -, c8, -⟩ := rkc_cells hC
  have hkept := phases_kept (L.map Prod.fst) ⟨s.select, [], 0, K.left⟩ (by rw [map_all]; exact hall)
  rw [hd] at hkept
  have hdc0 := hkept.up
  have hdc1 := hkept.many
  dsimp only at hdc0 hdc1
  have hdr2 := r_drive ((rkc_ok k b tv rv K).star hQ) (hC.frame (Upd.refl none' w).drew) hN hsel a n cap L hP K.left hkl hall (.inl hroom) d true hd
  have HDR := Lib.hid hdr2
  have hdb : d.clocks ≤ 1048575 := by omega
  have HQ := Lib.hid hQ
  clear hdr2 hkept hC hP hd hroom
  have hwl : 0 ≤ K.left → IntKind.i64.wrap (K.left - d.clocks) = K.left - d.clocks := fun h => IntWalk.i64_in _ (by omega)
  have HWL := Lib.hid hwl
  clear hwl
  have hcl : IntKind.i64.wrap (K.clocks + d.clocks) = K.clocks + d.clocks := IntWalk.i64_in _ (by omega)
  go_enter Tryz.func130, Tryz.ntmps130
  go_upto_region 1 with fail
  go_region_held3 (fun w' => w'.cell? ⟨k, 0, none⟩ = some (.pointer (some ⟨b, 0, none⟩)) ∧ w'.cell? ⟨k, 8, none⟩ = some (.int .i64 K.left)) (first | exact ⟨c0, c8⟩ | exact ⟨e0, e8⟩) (first | (go_at_call 44; refine HDR.out.mono ?_; rintro e w3 ⟨oa, oc, rfl, hC3⟩; obtain ⟨e0, e6, e7, e8, e9, ef, -⟩ := rkc_cells hC3))
  have HC3 := Lib.hid hC3
  have f6 := ef 6
  have f8 := ef 8
  have f9 := ef 9
  clear hC3 ef c0 c8
  obtain ⟨kr0, kr1, kr2, kcl, kgo, kle, klo⟩ := K
  dsimp only at *
  subst hlost
  have hs1 := rkc_set (tv' := tv) (rv' := rv) (K' := ⟨kr0, kr1, kr2, kcl + d.clocks, kgo, kle, false⟩) HQ.out HC3.out 6 (.int .i64 (kcl + d.clocks)) rfl
  by_cases hl0 : 0 ≤ kle
  · have hEQ : (KS.driven ⟨kr0, kr1, kr2, kcl, kgo, kle, false⟩ d) = ⟨kr0, kr1, kr2, kcl + d.clocks, kgo, kle - d.clocks, false⟩ := by unfold KS.driven; dsimp only; rw [if_pos hl0]
    have HEQ := Lib.hid hEQ
    have hwl := HWL.out hl0
    have hs2 := rkc_set (tv' := tv) (rv' := rv) (K' := ⟨kr0, kr1, kr2, kcl + d.clocks, kgo, kle - d.clocks, false⟩) HQ.out hs1 8 (.int .i64 (kle - d.clocks)) rfl
    have HS := Lib.hid hs2
    clear hs1 hs2 hEQ
    go_wp2
    go_ret2
    exact ⟨oa, oc, rfl, by rw [HEQ.out]; exact HS.out⟩
  · have hEQ : (KS.driven ⟨kr0, kr1, kr2, kcl, kgo, kle, false⟩ d) = ⟨kr0, kr1, kr2, kcl + d.clocks, kgo, kle, false⟩ := by unfold KS.driven; dsimp only; rw [if_neg hl0]
    have HEQ := Lib.hid hEQ
    have HS := Lib.hid hs1
    clear hs1 hEQ
    go_wp2
    go_ret2
    exact ⟨oa, oc, rfl, by rw [HEQ.out]; exact HS.out⟩
set_option maxRecDepth 100000 in
set_option maxHeartbeats 4000000 in
theorem rk_drive_cut {Q : Own} {w0 w : World} {b : Nat} {s : St} {N : Int} {rows : List (Value × List Value)} {k : Nat} {tv rv : Value} {K : KS} (hQ : Q.Ok) (hC : Ctx (RefP b s N) ((RKC k b tv rv K).star Q) w0 w rows) (hN : 0 ≤ N) (hsel : s.sel = false) (a : Option Addr) (n cap : Nat) (L : List (Ph × Value)) (hP : PhsV rows (.slice a n cap) L) (hkl : -9223372036854775808 ≤ K.left ∧ K.left ≤ 9223372036854775807) (hkc : 0 ≤ K.clocks ∧ K.clocks ≤ 1048576)
    (hlost : K.lost = false) (hall : L.all (fun x => x.1.may) = true) (hroom : N + phsMany (L.map Prod.fst) ≤ 1048575) (d : Drv) (hd : Drv.phases ⟨s.select, [], 0, K.left⟩ (L.map Prod.fst) = (d, false)) :
    Calls Tryz.prog 130 #[.pointer (some ⟨k, 0, none⟩), .slice a n cap] w fun e w' => e = .returned (.tuple #[.slice none 0 0, .int .i64 1101]) ∧ Ctx (RefP b d.s (N + d.clocks + 1)) ((RKC k b tv rv (K.driven d).gone).star Q) w0 w' rows := by
  obtain ⟨c0, -, -, c8, -⟩ := rkc_cells hC
  have hkept := phases_kept (L.map Prod.fst) ⟨s.select, [], 0, K.left⟩ (by rw [map_all]; exact hall)
  rw [hd] at hkept
  have hdc0 := hkept.up
  have hdc1 := hkept.many
  dsimp only at hdc0 hdc1
  have hdr2 := r_drive ((rkc_ok k b tv rv K).star hQ) (hC.frame (Upd.refl none' w).drew) hN hsel a n cap L hP K.left hkl hall (.inl hroom) d false hd
  have HDR := Lib.hid hdr2
  have hdb : d.clocks ≤ 1048575 := by omega
  have HQ := Lib.hid hQ
  clear hdr2 hkept hC hP hd hroom
  have hwl : 0 ≤ K.left → IntKind.i64.wrap (K.left - d.clocks) = K.left - d.clocks := fun h => IntWalk.i64_in _ (by omega)
  have HWL := Lib.hid hwl
  clear hwl
  have hcl : IntKind.i64.wrap (K.clocks + d.clocks) = K.clocks + d.clocks := IntWalk.i64_in _ (by omega)
  go_enter Tryz.func130, Tryz.ntmps130
  go_upto_region 1 with fail
  go_region_held3 (fun w' => w'.cell? ⟨k, 0, none⟩ = some (.pointer (some ⟨b, 0, none⟩)) ∧ w'.cell? ⟨k, 8, none⟩ = some (.int .i64 K.left)) (first | exact ⟨c0, c8⟩ | exact ⟨e0, e8⟩) (first | (go_at_call 44; refine HDR.out.mono ?_; rintro e w3 ⟨oa, oc, rfl, hC3⟩; obtain ⟨e0, e6, e7, e8, e9, ef, -⟩ := rkc_cells hC3))
  have HC3 := Lib.hid hC3
  have f6 := ef 6
  have f8 := ef 8
  have f9 := ef 9
  clear hC3 ef c0 c8
  obtain ⟨kr0, kr1, kr2, kcl, kgo, kle, klo⟩ := K
  dsimp only at *
  subst hlost
  have hs1 := rkc_set (tv' := tv) (rv' := rv) (K' := ⟨kr0, kr1, kr2, kcl + d.clocks, kgo, kle, false⟩) HQ.out HC3.out 6 (.int .i64 (kcl + d.clocks)) rfl
  by_cases hl0 : 0 ≤ kle
  · have hEQ : (KS.driven ⟨kr0, kr1, kr2, kcl, kgo, kle, false⟩ d) = ⟨kr0, kr1, kr2, kcl + d.clocks, kgo, kle - d.clocks, false⟩ := by unfold KS.driven; dsimp only; rw [if_pos hl0]
    have HEQ := Lib.hid hEQ
    have hwl := HWL.out hl0
    have hs2 := rkc_set (tv' := tv) (rv' := rv) (K' := ⟨kr0, kr1, kr2, kcl + d.clocks, kgo, kle - d.clocks, false⟩) HQ.out hs1 8 (.int .i64 (kle - d.clocks)) rfl
    have HS := Lib.hid (rkc_set (tv' := tv) (rv' := rv) (K' := ⟨kr0, kr1, kr2, kcl + d.clocks, kgo, kle - d.clocks, true⟩) HQ.out hs2 9 (.bool true) rfl)
    clear hs1 hs2 hEQ
    go_wp2
    go_ret2
    exact ⟨rfl, by rw [HEQ.out]; exact HS.out.tl⟩
  · have hEQ : (KS.driven ⟨kr0, kr1, kr2, kcl, kgo, kle, false⟩ d) = ⟨kr0, kr1, kr2, kcl + d.clocks, kgo, kle, false⟩ := by unfold KS.driven; dsimp only; rw [if_neg hl0]
    have HEQ := Lib.hid hEQ
    have HS := Lib.hid (rkc_set (tv' := tv) (rv' := rv) (K' := ⟨kr0, kr1, kr2, kcl + d.clocks, kgo, kle, true⟩) HQ.out hs1 9 (.bool true) rfl)
    clear hs1 hEQ
    go_wp2
    go_ret2
    exact ⟨rfl, by rw [HEQ.out]; exact HS.out.tl⟩
end Go.Proofs.YtepnljeojlbliaaGreat
namespace Go.Proofs.YtepnljeojlbliaaGreat
open Go.RowKit
end Go.Proofs.YtepnljeojlbliaaGreat
namespace Go.Proofs.YtepnljeojlbliaaGreat
open Go.RowKit
def KS.going (K : KS) (g : Bool) : KS := { K with goes := g }
theorem rk_run_gone {P Q : Own} {w0 w : World} {rows : List (Value × List Value)} {k b : Nat} {tv rv : Value} {K : KS} (h : Ctx P ((RKC k b tv rv K).star Q) w0 w rows) (hlost : K.lost = true) (c at_ read : Int) (v : Value) :
    Calls Tryz.prog 53 #[.pointer (some ⟨k, 0, none⟩), .int .i64 c, .int .i64 at_, v, .int .i64 read] w fun e w' => e = .returned (.tuple #[.slice none 0 0, .int .i64 1101]) ∧ w = w' := by
  obtain ⟨-, -, -, -, c9, -⟩ := rkc_cells h
  rw [hlost] at c9
  clear h
  go_enter Tryz.func53, Tryz.ntmps53
  go_wp2
  go_ret2
  exact ⟨rfl, rfl⟩
set_option maxRecDepth 100000 in
set_option maxHeartbeats 8000000 in
theorem rk_run {Q : Own} {w0 w : World} {b : Nat} {s : St} {N : Int} {rows : List (Value × List Value)} {k : Nat} {tv rv : Value} {K : KS} (hQ : Q.Ok) (hC : Ctx (RefP b s N) ((RKC k b tv rv K).star Q) w0 w rows) (hN : 0 ≤ N) (hsel : s.sel = false) (hkl : -9223372036854775808 ≤ K.left ∧ K.left ≤ 9223372036854775807) (hkc : 0 ≤ K.clocks ∧ K.clocks ≤ 1048576)
    (hlost : K.lost = false) (hgo : K.goes = false) (c : Int) (hc : opIs c = true) (hc2 : c ≠ 235) (at_ : Int) (a : Option Addr) (cp : Nat) (data : List Int) (hdd : (.slice a data.length cp, ints data) ∈ rows) (read : Int) (hmay : cmdMay (opOf c) at_ data read = true) (hroom : N + phsMany (cmdPhs (opOf c) at_ data read) ≤ 1048575) (d : Drv) (hd : Drv.phases ⟨s.select, [], 0, K.left⟩ (cmdPhs (opOf c) at_ data read) = (d, true)) :
    Calls Tryz.prog 53 #[.pointer (some ⟨k, 0, none⟩), .int .i64 c, .int .i64 at_, .slice a data.length cp, .int .i64 read] w fun e w' => ∃ oa oc, e = .returned (.tuple #[.slice oa d.out.length oc, .int .i64 0]) ∧ Ctx (RefP b d.s.deselect (N + d.clocks + 1)) ((RKC k b tv rv ((K.driven d).going false)).star Q) w0 w' ((.slice oa d.out.length oc, ints d.out) :: rows) := by
  have hcall := cmd_all c hc at_ data read hmay
  have hfind := rfind c hc
  obtain ⟨-, -, -, -, hst, -, -⟩ := rkc_cells hC
  rw [hlost] at hst
  have hcmd := fun w1 (h : Ctx (RefP b s N) ((RKC k b tv rv K).star Q) w0 w1 rows) => c_rcommand ((rkc_ok k b tv rv K).star hQ) h c hc at_ a cp data hdd read hmay
  have hdrv := fun w1 rows1 (h : Ctx (RefP b s N) ((RKC k b tv rv K).star Q) w0 w1 rows1) g m cap L (hP : PhsV rows1 (.slice (some ⟨g, 0, none⟩) m cap) L) (hL : L.map Prod.fst = cmdPhs (opOf c) at_ data read) => rk_drive hQ h hN hsel (some ⟨g, 0, none⟩) m cap L hP hkl hkc hlost (by rw [← map_all, hL]; exact hcall) (by rw [hL]; exact hroom) d (by rw [hL]; exact hd)
  have HSET : Hid (∀ w1 rows1, Ctx (RefP b d.s.deselect (N + d.clocks + 1)) ((RKC k b tv rv (K.driven d)).star Q) w0 w1 rows1 → Ctx (RefP b d.s.deselect (N + d.clocks + 1)) ((RKC k b tv rv ((K.driven d).going false)).star Q) w0 (w1.setCell ⟨k, 7, none⟩ (.bool false)) rows1) := Lib.hid (fun w1 rows1 h => rkc_set (tv' := tv) (rv' := rv) (K' := (K.driven d).going false) hQ h 7 (.bool false) rfl)
  have HG7 : Hid (∀ w1 rows1, Ctx (RefP b d.s.deselect (N + d.clocks + 1)) ((RKC k b tv rv (K.driven d)).star Q) w0 w1 rows1 → w1.cell? ⟨k, 7, none⟩ = some (.bool false) ∧ w1.frozen? ⟨k, 7, none⟩ = false) := Lib.hid (fun w1 rows1 h => by
    obtain ⟨-, -, e7, -, -, ef, -⟩ := rkc_cells h
    refine ⟨?_, ef 7⟩
    rw [e7]
    unfold KS.driven
    rw [hgo])
  have HG0 : Hid (∀ w1 rows1, Ctx (RefP b s N) ((RKC k b tv rv K).star Q) w0 w1 rows1 → w1.cell? ⟨k, 7, none⟩ = some (.bool false)) := Lib.hid (fun w1 rows1 h => by
    obtain ⟨-, -, e7, -⟩ := rkc_cells h
    rw [e7, hgo])
  have HC := Lib.hid hC
  obtain ⟨o, ho⟩ : ∃ o, opOf c = o := ⟨_, rfl⟩
  rw [ho] at hfind hcmd hdrv
  obtain ⟨by', ad, mo, du, da, inn⟩ := o
  unfold POp.cells at hfind hcmd
  dsimp only at hfind hcmd
  have HFIND := Lib.hid hfind
  have HCMD := Lib.hid hcmd
  have HDRV := Lib.hid hdrv
  have hcb : (c == 235) = false := by simpa using hc2
  clear hcall hfind hcmd hdrv hC hc ho hd hmay hroom hdd hlost hgo hkl hkc hsel
  go_enter Tryz.func53, Tryz.ntmps53
  go_upto_region 14 with (first | (go_at_call 38; refine (HFIND.out _).mono ?_; rintro e w2 ⟨rfl, hU2⟩; have HC2 := Lib.hid ((HC.out.frame hU2).alloc (.cells #[.int .i64 by', .int .i64 ad, .bool mo, .int .i64 du, .int .i64 da, .bool inn] 52)); clear hst) | (go_at_call 39; refine (HCMD.out _ HC2.out).mono ?_; rintro e w3 ⟨g, m, cap, L, rows', rfl, hL, hC3, hP3⟩; have c7 := HG0.out _ _ hC3))
  have HDR := Lib.hid (HDRV.out _ _ hC3 g m cap L hP3 hL)
  clear hC3 hP3 hL HCMD HDRV HFIND HC
  go_wp2_with (go_at_call 130; refine HDR.out.mono ?_; rintro e w4 ⟨oa, oc, rfl, hC4⟩; obtain ⟨d7, df7⟩ := HG7.out _ _ hC4)
  have hC5 := HSET.out _ _ hC4
  go_ret2
  refine ⟨oa, oc, rfl, hC5.sub fun r hr => ?_⟩
  rcases List.mem_cons.1 hr with h | h
  · exact List.mem_cons.2 (.inl h)
  · exact List.mem_cons.2 (.inr (List.mem_append.2 (.inr h)))
set_option maxRecDepth 100000 in
set_option maxHeartbeats 8000000 in
theorem rk_run_cut {Q : Own} {w0 w : World} {b : Nat} {s : St} {N : Int} {rows : List (Value × List Value)} {k : Nat} {tv rv : Value} {K : KS} (hQ : Q.Ok) (hC : Ctx (RefP b s N) ((RKC k b tv rv K).star Q) w0 w rows) (hN : 0 ≤ N) (hsel : s.sel = false) (hkl : -9223372036854775808 ≤ K.left ∧ K.left ≤ 9223372036854775807) (hkc : 0 ≤ K.clocks ∧ K.clocks ≤ 1048576)
    (hlost : K.lost = false) (hgo : K.goes = false) (c : Int) (hc : opIs c = true) (at_ : Int) (a : Option Addr) (cp : Nat) (data : List Int) (hdd : (.slice a data.length cp, ints data) ∈ rows) (read : Int) (hmay : cmdMay (opOf c) at_ data read = true) (hroom : N + phsMany (cmdPhs (opOf c) at_ data read) ≤ 1048575) (d : Drv) (hd : Drv.phases ⟨s.select, [], 0, K.left⟩ (cmdPhs (opOf c) at_ data read) = (d, false)) :
    Calls Tryz.prog 53 #[.pointer (some ⟨k, 0, none⟩), .int .i64 c, .int .i64 at_, .slice a data.length cp, .int .i64 read] w fun e w' => e = .returned (.tuple #[.slice none 0 0, .int .i64 1101]) ∧ Ctx (RefP b d.s (N + d.clocks + 1)) ((RKC k b tv rv (K.driven d).gone).star Q) w0 w' rows := by
  have hcall := cmd_all c hc at_ data read hmay
  have hfind := rfind c hc
  obtain ⟨-, -, -, -, hst, -, -⟩ := rkc_cells hC
  rw [hlost] at hst
  have hcmd := fun w1 (h : Ctx (RefP b s N) ((RKC k b tv rv K).star Q) w0 w1 rows) => c_rcommand ((rkc_ok k b tv rv K).star hQ) h c hc at_ a cp data hdd read hmay
  have hdrv := fun w1 rows1 (h : Ctx (RefP b s N) ((RKC k b tv rv K).star Q) w0 w1 rows1) g m cap L (hP : PhsV rows1 (.slice (some ⟨g, 0, none⟩) m cap) L) (hL : L.map Prod.fst = cmdPhs (opOf c) at_ data read) => rk_drive_cut hQ h hN hsel (some ⟨g, 0, none⟩) m cap L hP hkl hkc hlost (by rw [← map_all, hL]; exact hcall) (by rw [hL]; exact hroom) d (by rw [hL]; exact hd)
  have HG0 : Hid (∀ w1 rows1, Ctx (RefP b s N) ((RKC k b tv rv K).star Q) w0 w1 rows1 → w1.cell? ⟨k, 7, none⟩ = some (.bool false)) := Lib.hid (fun w1 rows1 h => by
    obtain ⟨-, -, e7, -⟩ := rkc_cells h
    rw [e7, hgo])
  have HC := Lib.hid hC
  obtain ⟨o, ho⟩ : ∃ o, opOf c = o := ⟨_, rfl⟩
  rw [ho] at hfind hcmd hdrv
  obtain ⟨by', ad, mo, du, da, inn⟩ := o
  unfold POp.cells at hfind hcmd
  dsimp only at hfind hcmd
  have HFIND := Lib.hid hfind
  have HCMD := Lib.hid hcmd
  have HDRV := Lib.hid hdrv
  clear hcall hfind hcmd hdrv hC hc ho hd hmay hroom hdd hlost hgo hkl hkc hsel
  go_enter Tryz.func53, Tryz.ntmps53
  go_upto_region 14 with (first | (go_at_call 38; refine (HFIND.out _).mono ?_; rintro e w2 ⟨rfl, hU2⟩; have HC2 := Lib.hid ((HC.out.frame hU2).alloc (.cells #[.int .i64 by', .int .i64 ad, .bool mo, .int .i64 du, .int .i64 da, .bool inn] 52)); clear hst) | (go_at_call 39; refine (HCMD.out _ HC2.out).mono ?_; rintro e w3 ⟨g, m, cap, L, rows', rfl, hL, hC3, hP3⟩; have c7 := HG0.out _ _ hC3))
  have HDR := Lib.hid (HDRV.out _ _ hC3 g m cap L hP3 hL)
  clear hC3 hP3 hL HCMD HDRV HFIND HC
  go_wp2_with (go_at_call 130; refine HDR.out.mono ?_; rintro e w4 ⟨rfl, hC4⟩)
  go_ret2
  exact ⟨rfl, hC4.sub fun r hr => List.mem_append.2 (.inr hr)⟩
end Go.Proofs.YtepnljeojlbliaaGreat
namespace Go.Proofs.YtepnljeojlbliaaGreat
open Go.RowKit
theorem pair_ctx {w0 w w' : World} {b r : Nat} {S : Nat → Prop} {v : Value} {fa : ByteArray} (h : Upd none' w0 w) (hU : Upd none' w w') (hsz : fa.size = 4096) (hA : ChipAt w' b (St.new fa) S) (hS : ∀ k, S k → w.heap.size ≤ k) (hR : RefNew w' r fa v) (hr : w.heap.size ≤ r ∧ ¬ S r) (hv : ∀ k, v.ownBlock = some k → w.heap.size ≤ k ∧ ¬ S k) :
    Ctx (ChipP b (St.new fa) 0) (RefP r (St.new fa) 0) w0 w' [] := by
  have hss : ∀ k, refSet r v (.slice none 0 0) (.slice none 0 0) k → w.heap.size ≤ k ∧ ¬ S k := by
    rintro k (e | e | e | e)
    · rw [e]; exact hr
    · exact hv k e
    · simp [Value.ownBlock] at e
    · simp [Value.ownBlock] at e
  refine ⟨chipP_ok _ _ _, refP_ok _ _ _, h.trans hU (fun _ _ f => f), fun k => S k ∨ refSet r v (.slice none 0 0) (.slice none 0 0) k, ⟨S, refSet r v (.slice none 0 0) (.slice none 0 0), ⟨hA, new_inv fa hsz⟩, ⟨RSt.new fa, ⟨v, .slice none 0 0, .slice none 0 0, ⟨hR.1, hR.2.1, Row.nil _ _, Row.nil _ _, hR.2.2, fun k hk => by simp [Value.ownBlock] at hk, fun k hk => by simp [Value.ownBlock] at hk⟩, fun k hk => by simp [Value.ownBlock] at hk, rfl⟩, new_rel fa, new_inv fa hsz, rinv_new fa⟩, fun k hs hq => (hss k hq).2 hs, fun _ => Iff.rfl⟩, ?_, fun r hr => by simp at hr⟩
  rintro k (hk | hk)
  · exact Nat.le_trans h.size (hS k hk)
  · exact Nat.le_trans h.size (hss k hk).1
end Go.Proofs.YtepnljeojlbliaaGreat
