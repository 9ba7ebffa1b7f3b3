/- RkA Mac MacW -/
import Derived.Test.YteombggfmeilaaaGreatBu21
import Derived.Test.YteombggfmeilaaaGreatBu12
import Derived.Test.YteombggfmeilaaaGreatBu15
import Derived.Test.YteombggfmeilaaaGreatBu20
import Derived.Test.YteombggfmeilaaaGreatBu13
/- RkA. -/
namespace Go.Proofs.YteombggfmeilaaaGreat
open Go.RowKit
def KS.cellsR (K : KS) (b : Nat) (tv rv : Value) : List Value :=
  [.pointer (some ⟨b, 0, none⟩), .int .i64 K.r0, .int .i64 K.r1, .int .i64 K.r2, tv, rv, .int .i64 K.clocks, .bool K.goes, .int .i64 K.left, .bool K.lost]
def RKC (k b : Nat) (tv rv : Value) (K : KS) : Own := fun w S => Blk w k (K.cellsR b tv rv) 97 ∧ ∀ j, S j ↔ j = k
theorem rkc_ok (k b : Nat) (tv rv : Value) (K : KS) : (RKC k b tv rv K).Ok := ⟨fun h u hT => ⟨h.1.upd u (hT k ((h.2 k).2 rfl)), h.2⟩, fun h j hj => by rw [(h.2 j).1 hj]; exact h.1.lt⟩
theorem rkc_cells {P Q : Own} {w0 w : World} {rows : List (Value × List Value)} {k b : Nat} {tv rv : Value} {K : KS} (h : Ctx P ((RKC k b tv rv K).star Q) w0 w rows) :
    w.cell? ⟨k, 0, none⟩ = some (.pointer (some ⟨b, 0, none⟩)) ∧ w.cell? ⟨k, 6, none⟩ = some (.int .i64 K.clocks) ∧ w.cell? ⟨k, 7, none⟩ = some (.bool K.goes) ∧ w.cell? ⟨k, 8, none⟩ = some (.int .i64 K.left) ∧ w.cell? ⟨k, 9, none⟩ = some (.bool K.lost) ∧ (∀ j, w.frozen? ⟨k, j, none⟩ = false) ∧ k < w.heap.size := by
  obtain ⟨S, ⟨h1, h2⟩, h3⟩ := h.get2
  have c0 := h1.cell 0
  have c6 := h1.cell 6
  have c7 := h1.cell 7
  have c8 := h1.cell 8
  have c9 := h1.cell 9
  simp only [KS.cellsR, List.getElem?_cons_succ, List.getElem?_cons_zero] at c0 c6 c7 c8 c9
  exact ⟨c0, c6, c7, c8, c9, fun j => h1.frozen j, h1.lt⟩
theorem rkc_set {P Q : Own} {w0 w : World} {rows : List (Value × List Value)} {k b : Nat} {tv rv tv' rv' : Value} {K K' : KS} (hQ : Q.Ok) (h : Ctx P ((RKC k b tv rv K).star Q) w0 w rows) (i : Nat) (v : Value) (hs : (K.cellsR b tv rv).set i v = K'.cellsR b tv' rv') : Ctx P ((RKC k b tv' rv' K').star Q) w0 (w.setCell ⟨k, i, none⟩ v) rows := by
  refine h.step2 (rkc_ok _ _ _ _ _) hQ (rkc_ok _ _ _ _ _) ?_
  rintro S ⟨h1, h2⟩
  exact ⟨S, ⟨hs ▸ h1.set i v, h2⟩, fun j hj => .inl hj, (Upd.refl _ _).setCell _ _ (fun _ => (h2 k).2 rfl)⟩
theorem rk_new {P Q : Own} {w0 w : World} {b : Nat} {rows : List (Value × List Value)} (hC : Ctx P Q w0 w rows) :
    Calls Tryz.prog 52 #[.pointer (some ⟨b, 0, none⟩)] w fun e w' => ∃ k, e = .returned (.pointer (some ⟨k, 0, none⟩)) ∧ w.heap.size ≤ k ∧ Ctx P ((RKC k b (.slice none 0 0) (.slice none 0 0) KS.new).star Q) w0 w' rows := by
  have HC := Lib.hid hC
  clear hC
  go_enter Tryz.func52, Tryz.ntmps52
  go_wp2
  go_ret
  exact ⟨w.heap.size, rfl, Nat.le_refl _, HC.out.add2 (rkc_ok _ _ _ _ _) ((Upd.refl none' w).alloc _) (B := fun j => j = w.heap.size) ⟨Blk.new w (KS.new.cellsR b (.slice none 0 0) (.slice none 0 0)) _, fun _ => Iff.rfl⟩ (fun j hj => by omega)⟩
theorem rk_cut {P Q : Own} {w0 w : World} {rows : List (Value × List Value)} {k b : Nat} {tv rv : Value} {K : KS} (hQ : Q.Ok) (h : Ctx P ((RKC k b tv rv K).star Q) w0 w rows) (x : Int) (hx : 0 ≤ x) :
    Calls Tryz.prog 55 #[.pointer (some ⟨k, 0, none⟩), .int .i64 x] w fun e w' => e = .returned (.int .i64 0) ∧ Ctx P ((RKC k b tv rv { K with left := x }).star Q) w0 w' rows := by
  obtain ⟨-, -, -, c8, -, hf, -⟩ := rkc_cells h
  have f8 := hf 8
  have H := Lib.hid (rkc_set (K' := { K with left := x }) (tv' := tv) (rv' := rv) hQ h 8 (.int .i64 x) rfl)
  have hx2 : ¬ x < 0 := by omega
  clear h hf
  go_enter Tryz.func55, Tryz.ntmps55
  go_wp2
  go_ret
  exact ⟨rfl, H.out⟩
set_option maxRecDepth 100000 in
set_option maxHeartbeats 4000000 in
theorem rk_drive {Q : Own} {w0 w : World} {b : Nat} {s : St} {N : Int} {rows : List (Value × List Value)} {k : Nat} {tv rv : Value} {K : KS} (hQ : Q.Ok) (hC : Ctx (RefP b s N) ((RKC k b tv rv K).star Q) w0 w rows) (hN : 0 ≤ N) (hsel : s.sel = false) (a : Option Addr) (n cap : Nat) (L : List (Ph × Value)) (hP : PhsV rows (.slice a n cap) L) (hkl : -9223372036854775808 ≤ K.left ∧ K.left ≤ 9223372036854775807) (hkc : 0 ≤ K.clocks ∧ K.clocks ≤ 1048576)
    (hlost : K.lost = false) (hall : L.all (fun x => x.1.may) = true) (hroom : N + phsMany (L.map Prod.fst) ≤ 1048575) (d : Drv) (hd : Drv.phases ⟨s.select, [], 0, K.left⟩ (L.map Prod.fst) = (d, true)) :
    Calls Tryz.prog 130 #[.pointer (some ⟨k, 0, none⟩), .slice a n cap] w fun e w' => ∃ oa oc, e = .returned (.tuple #[.slice oa d.out.length oc, .int .i64 0]) ∧ Ctx (RefP b d.s.deselect (N + d.clocks + 1)) ((RKC k b tv rv (K.driven d)).star Q) w0 w' ((.slice oa d.out.length oc, ints d.out) :: rows) := by
  obtain ⟨c0, -, -, c8, -⟩ := rkc_cells hC
  have hkept := phases_kept (L.map Prod.fst) ⟨s.select, [], 0, K.left⟩ (by rw [map_all]; exact hall)
  rw [hd] at hkept
  have hdc0 := hkept.up
  have hdc1 := hkept.many
  dsimp only at hdc0 hdc1
  have hdr2 := r_drive ((rkc_ok k b tv rv K).star hQ) (hC.frame (Upd.refl none' w).drew) hN hsel a n cap L hP K.left hkl hall (.inl hroom) d true hd
  have HDR := Lib.hid hdr2
  have hdb : d.clocks ≤ 1048575 := by omega
  have HQ := Lib.hid hQ
  clear hdr2 hkept hC hP hd hroom
  have hwl : 0 ≤ K.left → IntKind.i64.wrap (K.left - d.clocks) = K.left - d.clocks := fun h => IntWalk.i64_in _ (by omega)
  have HWL := Lib.hid hwl
  clear hwl
  have hcl : IntKind.i64.wrap (K.clocks + d.clocks) = K.clocks + d.clocks := IntWalk.i64_in _ (by omega)
  go_enter Tryz.func130, Tryz.ntmps130
  go_upto_region 1 with fail
  go_region_held3 (fun w' => w'.cell? ⟨k, 0, none⟩ = some (.pointer (some ⟨b, 0, none⟩)) ∧ w'.cell? ⟨k, 8, none⟩ = some (.int .i64 K.left)) (first | exact ⟨c0, c8⟩ | exact ⟨e0, e8⟩) (first | (go_at_call 44; refine HDR.out.mono ?_; rintro e w3 ⟨oa, oc, rfl, hC3⟩; obtain ⟨e0, e6, e7, e8, e9, ef, -⟩ := rkc_cells hC3))
  have HC3 := Lib.hid hC3
  have f6 := ef 6
  have f8 := ef 8
  have f9 := ef 9
  clear hC3 ef c0 c8
  obtain ⟨kr0, kr1, kr2, kcl, kgo, kle, klo⟩ := K
  dsimp only at *
  subst hlost
  have hs1 := rkc_set (tv' := tv) (rv' := rv) (K' := ⟨kr0, kr1, kr2, kcl + d.clocks, kgo, kle, false⟩) HQ.out HC3.out 6 (.int .i64 (kcl + d.clocks)) rfl
  by_cases hl0 : 0 ≤ kle
  · have hEQ : (KS.driven ⟨kr0, kr1, kr2, kcl, kgo, kle, false⟩ d) = ⟨kr0, kr1, kr2, kcl + d.clocks, kgo, kle - d.clocks, false⟩ := by unfold KS.driven; dsimp only; rw [if_pos hl0]
    have HEQ := Lib.hid hEQ
    have hwl := HWL.out hl0
    have hs2 := rkc_set (tv' := tv) (rv' := rv) (K' := ⟨kr0, kr1, kr2, kcl + d.clocks, kgo, kle - d.clocks, false⟩) HQ.out hs1 8 (.int .i64 (kle - d.clocks)) rfl
    have HS := Lib.hid hs2
    clear hs1 hs2 hEQ
    go_wp2
    go_ret2
    exact ⟨oa, oc, rfl, by rw [HEQ.out]; exact HS.out⟩
  · have hEQ : (KS.driven ⟨kr0, kr1, kr2, kcl, kgo, kle, false⟩ d) = ⟨kr0, kr1, kr2, kcl + d.clocks, kgo, kle, false⟩ := by unfold KS.driven; dsimp only; rw [if_neg hl0]
    have HEQ := Lib.hid hEQ
    have HS := Lib.hid hs1
    clear hs1 hEQ
    go_wp2
    go_ret2
    exact ⟨oa, oc, rfl, by rw [HEQ.out]; exact HS.out⟩
set_option maxRecDepth 100000 in
set_option maxHeartbeats 4000000 in
theorem rk_drive_cut {Q : Own} {w0 w : World} {b : Nat} {s : St} {N : Int} {rows : List (Value × List Value)} {k : Nat} {tv rv : Value} {K : KS} (hQ : Q.Ok) (hC : Ctx (RefP b s N) ((RKC k b tv rv K).star Q) w0 w rows) (hN : 0 ≤ N) (hsel : s.sel = false) (a : Option Addr) (n cap : Nat) (L : List (Ph × Value)) (hP : PhsV rows (.slice a n cap) L) (hkl : -9223372036854775808 ≤ K.left ∧ K.left ≤ 9223372036854775807) (hkc : 0 ≤ K.clocks ∧ K.clocks ≤ 1048576)
    (hlost : K.lost = false) (hall : L.all (fun x => x.1.may) = true) (hroom : N + phsMany (L.map Prod.fst) ≤ 1048575) (d : Drv) (hd : Drv.phases ⟨s.select, [], 0, K.left⟩ (L.map Prod.fst) = (d, false)) :
    Calls Tryz.prog 130 #[.pointer (some ⟨k, 0, none⟩), .slice a n cap] w fun e w' => e = .returned (.tuple #[.slice none 0 0, .int .i64 1101]) ∧ Ctx (RefP b d.s (N + d.clocks + 1)) ((RKC k b tv rv (K.driven d).gone).star Q) w0 w' rows := by
  obtain ⟨c0, -, -, c8, -⟩ := rkc_cells hC
  have hkept := phases_kept (L.map Prod.fst) ⟨s.select, [], 0, K.left⟩ (by rw [map_all]; exact hall)
  rw [hd] at hkept
  have hdc0 := hkept.up
  have hdc1 := hkept.many
  dsimp only at hdc0 hdc1
  have hdr2 := r_drive ((rkc_ok k b tv rv K).star hQ) (hC.frame (Upd.refl none' w).drew) hN hsel a n cap L hP K.left hkl hall (.inl hroom) d false hd
  have HDR := Lib.hid hdr2
  have hdb : d.clocks ≤ 1048575 := by omega
  have HQ := Lib.hid hQ
  clear hdr2 hkept hC hP hd hroom
  have hwl : 0 ≤ K.left → IntKind.i64.wrap (K.left - d.clocks) = K.left - d.clocks := fun h => IntWalk.i64_in _ (by omega)
  have HWL := Lib.hid hwl
  clear hwl
  have hcl : IntKind.i64.wrap (K.clocks + d.clocks) = K.clocks + d.clocks := IntWalk.i64_in _ (by omega)
  go_enter Tryz.func130, Tryz.ntmps130
  go_upto_region 1 with fail
  go_region_held3 (fun w' => w'.cell? ⟨k, 0, none⟩ = some (.pointer (some ⟨b, 0, none⟩)) ∧ w'.cell? ⟨k, 8, none⟩ = some (.int .i64 K.left)) (first | exact ⟨c0, c8⟩ | exact ⟨e0, e8⟩) (first | (go_at_call 44; refine HDR.out.mono ?_; rintro e w3 ⟨oa, oc, rfl, hC3⟩; obtain ⟨e0, e6, e7, e8, e9, ef, -⟩ := rkc_cells hC3))
  have HC3 := Lib.hid hC3
  have f6 := ef 6
  have f8 := ef 8
  have f9 := ef 9
  clear hC3 ef c0 c8
  obtain ⟨kr0, kr1, kr2, kcl, kgo, kle, klo⟩ := K
  dsimp only at *
  subst hlost
  have hs1 := rkc_set (tv' := tv) (rv' := rv) (K' := ⟨kr0, kr1, kr2, kcl + d.clocks, kgo, kle, false⟩) HQ.out HC3.out 6 (.int .i64 (kcl + d.clocks)) rfl
  by_cases hl0 : 0 ≤ kle
  · have hEQ : (KS.driven ⟨kr0, kr1, kr2, kcl, kgo, kle, false⟩ d) = ⟨kr0, kr1, kr2, kcl + d.clocks, kgo, kle - d.clocks, false⟩ := by unfold KS.driven; dsimp only; rw [if_pos hl0]
    have HEQ := Lib.hid hEQ
    have hwl := HWL.out hl0
    have hs2 := rkc_set (tv' := tv) (rv' := rv) (K' := ⟨kr0, kr1, kr2, kcl + d.clocks, kgo, kle - d.clocks, false⟩) HQ.out hs1 8 (.int .i64 (kle - d.clocks)) rfl
    have HS := Lib.hid (rkc_set (tv' := tv) (rv' := rv) (K' := ⟨kr0, kr1, kr2, kcl + d.clocks, kgo, kle - d.clocks, true⟩) HQ.out hs2 9 (.bool true) rfl)
    clear hs1 hs2 hEQ
    go_wp2
    go_ret2
    exact ⟨rfl, by rw [HEQ.out]; exact HS.out.tl⟩
  · have hEQ : (KS.driven ⟨kr0, kr1, kr2, kcl, kgo, kle, false⟩ d) = ⟨kr0, kr1, kr2, kcl + d.clocks, kgo, kle, false⟩ := by unfold KS.driven; dsimp only; rw [if_neg hl0]
    have HEQ := Lib.hid hEQ
    have HS := Lib.hid (rkc_set (tv' := tv) (rv' := rv) (K' := ⟨kr0, kr1, kr2, kcl + d.clocks, kgo, kle, true⟩) HQ.out hs1 9 (.bool true) rfl)
    clear hs1 hEQ
    go_wp2
    go_ret2
    exact ⟨rfl, by rw [HEQ.out]; exact HS.out.tl⟩
end Go.Proofs.YteombggfmeilaaaGreat
namespace Go.Proofs.YteombggfmeilaaaGreat
open Go.RowKit
end Go.Proofs.YteombggfmeilaaaGreat
namespace Go.Proofs.YteombggfmeilaaaGreat
open Go.RowKit
def KS.going (K : KS) (g : Bool) : KS := { K with goes := g }
theorem rk_run_gone {P Q : Own} {w0 w : World} {rows : List (Value × List Value)} {k b : Nat} {tv rv : Value} {K : KS} (h : Ctx P ((RKC k b tv rv K).star Q) w0 w rows) (hlost : K.lost = true) (c at_ read : Int) (v : Value) :
    Calls Tryz.prog 53 #[.pointer (some ⟨k, 0, none⟩), .int .i64 c, .int .i64 at_, v, .int .i64 read] w fun e w' => e = .returned (.tuple #[.slice none 0 0, .int .i64 1101]) ∧ w = w' := by
  obtain ⟨-, -, -, -, c9, -⟩ := rkc_cells h
  rw [hlost] at c9
  clear h
  go_enter Tryz.func53, Tryz.ntmps53
  go_wp2
  go_ret2
  exact ⟨rfl, rfl⟩
set_option maxRecDepth 100000 in
set_option maxHeartbeats 8000000 in
theorem rk_run {Q : Own} {w0 w : World} {b : Nat} {s : St} {N : Int} {rows : List (Value × List Value)} {k : Nat} {tv rv : Value} {K : KS} (hQ : Q.Ok) (hC : Ctx (RefP b s N) ((RKC k b tv rv K).star Q) w0 w rows) (hN : 0 ≤ N) (hsel : s.sel = false) (hkl : -9223372036854775808 ≤ K.left ∧ K.left ≤ 9223372036854775807) (hkc : 0 ≤ K.clocks ∧ K.clocks ≤ 1048576)
    (hlost : K.lost = false) (hgo : K.goes = false) (c : Int) (hc : opIs c = true) (hc2 : c ≠ 235) (at_ : Int) (a : Option Addr) (cp : Nat) (data : List Int) (hdd : (.slice a data.length cp, ints data) ∈ rows) (read : Int) (hmay : cmdMay (opOf c) at_ data read = true) (hroom : N + phsMany (cmdPhs (opOf c) at_ data read) ≤ 1048575) (d : Drv) (hd : Drv.phases ⟨s.select, [], 0, K.left⟩ (cmdPhs (opOf c) at_ data read) = (d, true)) :
    Calls Tryz.prog 53 #[.pointer (some ⟨k, 0, none⟩), .int .i64 c, .int .i64 at_, .slice a data.length cp, .int .i64 read] w fun e w' => ∃ oa oc, e = .returned (.tuple #[.slice oa d.out.length oc, .int .i64 0]) ∧ Ctx (RefP b d.s.deselect (N + d.clocks + 1)) ((RKC k b tv rv ((K.driven d).going false)).star Q) w0 w' ((.slice oa d.out.length oc, ints d.out) :: rows) := by
  have hcall := cmd_all c hc at_ data read hmay
  have hfind := rfind c hc
  obtain ⟨-, -, -, -, hst, -, -⟩ := rkc_cells hC
  rw [hlost] at hst
  have hcmd := fun w1 (h : Ctx (RefP b s N) ((RKC k b tv rv K).star Q) w0 w1 rows) => c_rcommand ((rkc_ok k b tv rv K).star hQ) h c hc at_ a cp data hdd read hmay
  have hdrv := fun w1 rows1 (h : Ctx (RefP b s N) ((RKC k b tv rv K).star Q) w0 w1 rows1) g m cap L (hP : PhsV rows1 (.slice (some ⟨g, 0, none⟩) m cap) L) (hL : L.map Prod.fst = cmdPhs (opOf c) at_ data read) => rk_drive hQ h hN hsel (some ⟨g, 0, none⟩) m cap L hP hkl hkc hlost (by rw [← map_all, hL]; exact hcall) (by rw [hL]; exact hroom) d (by rw [hL]; exact hd)
  have HSET : Hid (∀ w1 rows1, Ctx (RefP b d.s.deselect (N + d.clocks + 1)) ((RKC k b tv rv (K.driven d)).star Q) w0 w1 rows1 → Ctx (RefP b d.s.deselect (N + d.clocks + 1)) ((RKC k b tv rv ((K.driven d).going false)).star Q) w0 (w1.setCell ⟨k, 7, none⟩ (.bool false)) rows1) := Lib.hid (fun w1 rows1 h => rkc_set (tv' := tv) (rv' := rv) (K' := (K.driven d).going false) hQ h 7 (.bool false) rfl)
  have HG7 : Hid (∀ w1 rows1, Ctx (RefP b d.s.deselect (N + d.clocks + 1)) ((RKC k b tv rv (K.driven d)).star Q) w0 w1 rows1 → w1.cell? ⟨k, 7, none⟩ = some (.bool false) ∧ w1.frozen? ⟨k, 7, none⟩ = false) := Lib.hid (fun w1 rows1 h => by
    obtain ⟨-, -, e7, -, -, ef, -⟩ := rkc_cells h
    refine ⟨?_, ef 7⟩
    rw [e7]
    unfold KS.driven
    rw [hgo])
  have HG0 : Hid (∀ w1 rows1, Ctx (RefP b s N) ((RKC k b tv rv K).star Q) w0 w1 rows1 → w1.cell? ⟨k, 7, none⟩ = some (.bool false)) := Lib.hid (fun w1 rows1 h => by
    obtain ⟨-, -, e7, -⟩ := rkc_cells h
    rw [e7, hgo])
  have HC := Lib.hid hC
  obtain ⟨o, ho⟩ : ∃ o, opOf c = o := ⟨_, rfl⟩
  rw [ho] at hfind hcmd hdrv
  obtain ⟨by', ad, mo, du, da, inn⟩ := o
  unfold POp.cells at hfind hcmd
  dsimp only at hfind hcmd
  have HFIND := Lib.hid hfind
  have HCMD := Lib.hid hcmd
  have HDRV := Lib.hid hdrv
  have hcb : (c == 235) = false := by simpa using hc2
  clear hcall hfind hcmd hdrv hC hc ho hd hmay hroom hdd hlost hgo hkl hkc hsel
  go_enter Tryz.func53, Tryz.ntmps53
  go_upto_region 14 with (first | (go_at_call 38; refine (HFIND.out _).mono ?_; rintro e w2 ⟨rfl, hU2⟩; have HC2 := Lib.hid ((HC.out.frame hU2).alloc (.cells #[.int .i64 by', .int .i64 ad, .bool mo, .int .i64 du, .int .i64 da, .bool inn] 52)); clear hst) | (go_at_call 39; refine (HCMD.out _ HC2.out).mono ?_; rintro e w3 ⟨g, m, cap, L, rows', rfl, hL, hC3, hP3⟩; have c7 := HG0.out _ _ hC3))
  have HDR := Lib.hid (HDRV.out _ _ hC3 g m cap L hP3 hL)
  clear hC3 hP3 hL HCMD HDRV HFIND HC
  go_wp2_with (go_at_call 130; refine HDR.out.mono ?_; rintro e w4 ⟨oa, oc, rfl, hC4⟩; obtain ⟨d7, df7⟩ := HG7.out _ _ hC4)
  have hC5 := HSET.out _ _ hC4
  go_ret2
  refine ⟨oa, oc, rfl, hC5.sub fun r hr => ?_⟩
  rcases List.mem_cons.1 hr with h | h
  · exact List.mem_cons.2 (.inl h)
  · exact List.mem_cons.2 (.inr (List.mem_append.2 (.inr h)))
set_option maxRecDepth 100000 in
set_option maxHeartbeats 8000000 in
theorem rk_run_cut {Q : Own} {w0 w : World} {b : Nat} {s : St} {N : Int} {rows : List (Value × List Value)} {k : Nat} {tv rv : Value} {K : KS} (hQ : Q.Ok) (hC : Ctx (RefP b s N) ((RKC k b tv rv K).star Q) w0 w rows) (hN : 0 ≤ N) (hsel : s.sel = false) (hkl : -9223372036854775808 ≤ K.left ∧ K.left ≤ 9223372036854775807) (hkc : 0 ≤ K.clocks ∧ K.clocks ≤ 1048576)
    (hlost : K.lost = false) (hgo : K.goes = false) (c : Int) (hc : opIs c = true) (at_ : Int) (a : Option Addr) (cp : Nat) (data : List Int) (hdd : (.slice a data.length cp, ints data) ∈ rows) (read : Int) (hmay : cmdMay (opOf c) at_ data read = true) (hroom : N + phsMany (cmdPhs (opOf c) at_ data read) ≤ 1048575) (d : Drv) (hd : Drv.phases ⟨s.select, [], 0, K.left⟩ (cmdPhs (opOf c) at_ data read) = (d, false)) :
    Calls Tryz.prog 53 #[.pointer (some ⟨k, 0, none⟩), .int .i64 c, .int .i64 at_, .slice a data.length cp, .int .i64 read] w fun e w' => e = .returned (.tuple #[.slice none 0 0, .int .i64 1101]) ∧ Ctx (RefP b d.s (N + d.clocks + 1)) ((RKC k b tv rv (K.driven d).gone).star Q) w0 w' rows := by
  have hcall := cmd_all c hc at_ data read hmay
  have hfind := rfind c hc
  obtain ⟨-, -, -, -, hst, -, -⟩ := rkc_cells hC
  rw [hlost] at hst
  have hcmd := fun w1 (h : Ctx (RefP b s N) ((RKC k b tv rv K).star Q) w0 w1 rows) => c_rcommand ((rkc_ok k b tv rv K).star hQ) h c hc at_ a cp data hdd read hmay
  have hdrv := fun w1 rows1 (h : Ctx (RefP b s N) ((RKC k b tv rv K).star Q) w0 w1 rows1) g m cap L (hP : PhsV rows1 (.slice (some ⟨g, 0, none⟩) m cap) L) (hL : L.map Prod.fst = cmdPhs (opOf c) at_ data read) => rk_drive_cut hQ h hN hsel (some ⟨g, 0, none⟩) m cap L hP hkl hkc hlost (by rw [← map_all, hL]; exact hcall) (by rw [hL]; exact hroom) d (by rw [hL]; exact hd)
  have HG0 : Hid (∀ w1 rows1, Ctx (RefP b s N) ((RKC k b tv rv K).star Q) w0 w1 rows1 → w1.cell? ⟨k, 7, none⟩ = some (.bool false)) := Lib.hid (fun w1 rows1 h => by
    obtain ⟨-, -, e7, -⟩ := rkc_cells h
    rw [e7, hgo])
  have HC := Lib.hid hC
  obtain ⟨o, ho⟩ : ∃ o, opOf c = o := ⟨_, rfl⟩
  rw [ho] at hfind hcmd hdrv
  obtain ⟨by', ad, mo, du, da, inn⟩ := o
  unfold POp.cells at hfind hcmd
  dsimp only at hfind hcmd
  have HFIND := Lib.hid hfind
  have HCMD := Lib.hid hcmd
  have HDRV := Lib.hid hdrv
  clear hcall hfind hcmd hdrv hC hc ho hd hmay hroom hdd hlost hgo hkl hkc hsel
  go_enter Tryz.func53, Tryz.ntmps53
  go_upto_region 14 with (first | (go_at_call 38; refine (HFIND.out _).mono ?_; rintro e w2 ⟨rfl, hU2⟩; have HC2 := Lib.hid ((HC.out.frame hU2).alloc (.cells #[.int .i64 by', .int .i64 ad, .bool mo, .int .i64 du, .int .i64 da, .bool inn] 52)); clear hst) | (go_at_call 39; refine (HCMD.out _ HC2.out).mono ?_; rintro e w3 ⟨g, m, cap, L, rows', rfl, hL, hC3, hP3⟩; have c7 := HG0.out _ _ hC3))
  have HDR := Lib.hid (HDRV.out _ _ hC3 g m cap L hP3 hL)
  clear hC3 hP3 hL HCMD HDRV HFIND HC
  go_wp2_with (go_at_call 130; refine HDR.out.mono ?_; rintro e w4 ⟨rfl, hC4⟩)
  go_ret2
  exact ⟨rfl, hC4.sub fun r hr => List.mem_append.2 (.inr hr)⟩
end Go.Proofs.YteombggfmeilaaaGreat
namespace Go.Proofs.YteombggfmeilaaaGreat
open Go.RowKit
theorem pair_ctx {w0 w w' : World} {b r : Nat} {S : Nat → Prop} {v : Value} {fa : ByteArray} (h : Upd none' w0 w) (hU : Upd none' w w') (hsz : fa.size = 4096) (hA : ChipAt w' b (St.new fa) S) (hS : ∀ k, S k → w.heap.size ≤ k) (hR : RefNew w' r fa v) (hr : w.heap.size ≤ r ∧ ¬ S r) (hv : ∀ k, v.ownBlock = some k → w.heap.size ≤ k ∧ ¬ S k) :
    Ctx (ChipP b (St.new fa) 0) (RefP r (St.new fa) 0) w0 w' [] := by
  have hss : ∀ k, refSet r v (.slice none 0 0) (.slice none 0 0) k → w.heap.size ≤ k ∧ ¬ S k := by
    rintro k (e | e | e | e)
    · rw [e]; exact hr
    · exact hv k e
    · simp [Value.ownBlock] at e
    · simp [Value.ownBlock] at e
  refine ⟨chipP_ok _ _ _, refP_ok _ _ _, h.trans hU (fun _ _ f => f), fun k => S k ∨ refSet r v (.slice none 0 0) (.slice none 0 0) k, ⟨S, refSet r v (.slice none 0 0) (.slice none 0 0), ⟨hA, new_inv fa hsz⟩, ⟨RSt.new fa, ⟨v, .slice none 0 0, .slice none 0 0, ⟨hR.1, hR.2.1, Row.nil _ _, Row.nil _ _, hR.2.2, fun k hk => by simp [Value.ownBlock] at hk, fun k hk => by simp [Value.ownBlock] at hk⟩, fun k hk => by simp [Value.ownBlock] at hk, rfl⟩, new_rel fa, new_inv fa hsz, rinv_new fa⟩, fun k hs hq => (hss k hq).2 hs, fun _ => Iff.rfl⟩, ?_, fun r hr => by simp at hr⟩
  rintro k (hk | hk)
  · exact Nat.le_trans h.size (hS k hk)
  · exact Nat.le_trans h.size (hss k hk).1
end Go.Proofs.YteombggfmeilaaaGreat
/- Mac. -/
namespace Go.Proofs.YteombggfmeilaaaGreat
open Go.RowKit
structure Mac where
  s : St
  K : KS
structure Mac.Ok (m : Mac) : Prop where
  goes : m.K.goes = false
  left : -9223372036854775808 ≤ m.K.left ∧ m.K.left ≤ 9223372036854775807
  clocks : 0 ≤ m.K.clocks
  sel : m.K.lost = false → m.s.sel = false
def Mac.drv (m : Mac) (ps : List Ph) : Drv × Bool := Drv.phases ⟨m.s.select, [], 0, m.K.left⟩ ps
def Mac.go (m : Mac) (c at_ : Int) (data : List Int) (read : Int) : Mac × Int × List Int :=
  if m.K.lost then (m, 1101, [])
  else if (m.drv (cmdPhs (opOf c) at_ data read)).2 then
    (⟨(m.drv (cmdPhs (opOf c) at_ data read)).1.s.deselect, m.K.driven (m.drv (cmdPhs (opOf c) at_ data read)).1⟩, 0, (m.drv (cmdPhs (opOf c) at_ data read)).1.out)
  else (⟨(m.drv (cmdPhs (opOf c) at_ data read)).1.s, (m.K.driven (m.drv (cmdPhs (opOf c) at_ data read)).1).gone⟩, 1101, [])
theorem go_lost {m : Mac} (h : m.K.lost = true) (c at_ : Int) (data : List Int) (read : Int) : m.go c at_ data read = (m, 1101, []) := by
  unfold Mac.go
  rw [if_pos h]
theorem go_whole {m : Mac} {c at_ read : Int} {data : List Int} {d : Drv} (h : m.K.lost = false) (hd : m.drv (cmdPhs (opOf c) at_ data read) = (d, true)) : m.go c at_ data read = (⟨d.s.deselect, m.K.driven d⟩, 0, d.out) := by
  unfold Mac.go
  rw [if_neg (by rw [h]; decide), hd]
  rfl
theorem go_part {m : Mac} {c at_ read : Int} {data : List Int} {d : Drv} (h : m.K.lost = false) (hd : m.drv (cmdPhs (opOf c) at_ data read) = (d, false)) : m.go c at_ data read = (⟨d.s, (m.K.driven d).gone⟩, 1101, []) := by
  unfold Mac.go
  rw [if_neg (by rw [h]; decide), hd]
  rfl
theorem starts_selM (s : St) (j : Job) : (s.starts j).sel = s.sel := by
  unfold St.starts
  repeat' split
  all_goals rfl
theorem ends_selM (s : St) : s.ends.sel = s.sel := by
  unfold St.ends
  repeat' split
  all_goals first
    | rfl
    | exact starts_selM _ _
theorem deselect_sel (s : St) : s.deselect.sel = false := ends_selM _
theorem drv_kept (m : Mac) (ps : List Ph) (h : ps.all Ph.may = true) : (Drv.mk m.s.select [] 0 m.K.left).Kept (m.drv ps).1 (phsMany ps) := phases_kept ps _ h
theorem driven_ok {K : KS} {d : Drv} (h : -9223372036854775808 ≤ K.left ∧ K.left ≤ 9223372036854775807) (h0 : 0 ≤ d.clocks) (hm : 0 ≤ K.left → d.clocks ≤ K.left) : -9223372036854775808 ≤ (K.driven d).left ∧ (K.driven d).left ≤ 9223372036854775807 := by
  unfold KS.driven
  dsimp only
  split
  · rename_i h1
    have := hm h1
    omega
  · exact h
theorem go_ok {m : Mac} (hm : m.Ok) (c at_ : Int) (data : List Int) (read : Int) (hp : (cmdPhs (opOf c) at_ data read).all Ph.may = true) : (m.go c at_ data read).1.Ok ∧ m.K.clocks ≤ (m.go c at_ data read).1.K.clocks ∧ (m.go c at_ data read).1.K.clocks ≤ m.K.clocks + phsMany (cmdPhs (opOf c) at_ data read) := by
  have h0 := (phsMany_bd _ hp).1
  cases hl : m.K.lost with
  | true =>
    rw [go_lost hl]
    exact ⟨hm, Int.le_refl _, by dsimp only; omega⟩
  | false =>
    have hk := drv_kept m _ hp
    obtain ⟨⟨d, w⟩, hd⟩ : ∃ r, m.drv (cmdPhs (opOf c) at_ data read) = r := ⟨_, rfl⟩
    rw [hd] at hk
    have k1 := hk.up
    have k2 := hk.many
    have k3 := hk.within
    dsimp only at k1 k2 k3
    have hl2 := driven_ok (K := m.K) (d := d) hm.left k1 (fun h => k3 h h)
    have hc := hm.clocks
    cases w with
    | true =>
      rw [go_whole hl hd]
      refine ⟨⟨hm.goes, hl2, ?_, fun _ => deselect_sel _⟩, ?_, ?_⟩
      · show 0 ≤ m.K.clocks + d.clocks; omega
      · show m.K.clocks ≤ m.K.clocks + d.clocks; omega
      · show m.K.clocks + d.clocks ≤ _; omega
    | false =>
      rw [go_part hl hd]
      refine ⟨⟨hm.goes, hl2, ?_, fun h => absurd h (by show ¬ true = false; decide)⟩, ?_, ?_⟩
      · show 0 ≤ m.K.clocks + d.clocks; omega
      · show m.K.clocks ≤ m.K.clocks + d.clocks; omega
      · show m.K.clocks + d.clocks ≤ _; omega
def ProgP (b k fo fi : Nat) (m : Mac) (n : Int) : Own := fun w S => ∃ N, ((ChipP b m.s N).star (CtlC k b fo fi m.K)) w S ∧ 0 ≤ N ∧ N ≤ n ∧ m.Ok ∧ m.K.clocks ≤ n
def DocP (b k : Nat) (m : Mac) (n : Int) : Own := fun w S => ∃ N, ((RefP b m.s N).star (RKC k b (.slice none 0 0) (.slice none 0 0) m.K)) w S ∧ 0 ≤ N ∧ N ≤ n ∧ m.Ok ∧ m.K.clocks ≤ n
theorem progP_ok (b k fo fi : Nat) (m : Mac) (n : Int) : (ProgP b k fo fi m n).Ok := by
  refine ⟨?_, ?_⟩
  · rintro w w' S T ⟨N, h2, h3⟩ hu hT
    exact ⟨N, ((chipP_ok b m.s N).star (ctlC_ok k b fo fi m.K)).frame h2 hu hT, h3⟩
  · rintro w S ⟨N, h2, h3⟩ j hj
    exact ((chipP_ok b m.s N).star (ctlC_ok k b fo fi m.K)).lt h2 j hj
theorem docP_ok (b k : Nat) (m : Mac) (n : Int) : (DocP b k m n).Ok := by
  refine ⟨?_, ?_⟩
  · rintro w w' S T ⟨N, h2, h3⟩ hu hT
    exact ⟨N, ((refP_ok b m.s N).star (rkc_ok k b _ _ m.K)).frame h2 hu hT, h3⟩
  · rintro w S ⟨N, h2, h3⟩ j hj
    exact ((refP_ok b m.s N).star (rkc_ok k b _ _ m.K)).lt h2 j hj
theorem progP_of {Q : Own} {b k fo fi : Nat} {m : Mac} {n : Int} {w0 w : World} {rows : List (Value × List Value)} (h : Ctx (ProgP b k fo fi m n) Q w0 w rows) : ∃ N, Ctx (ChipP b m.s N) ((CtlC k b fo fi m.K).star Q) w0 w rows ∧ 0 ≤ N ∧ N ≤ n ∧ m.Ok ∧ m.K.clocks ≤ n := by
  obtain ⟨S, ⟨A, B, ⟨N, hS, h4⟩, hB, hd, hSS⟩, h2, h3⟩ := h.all
  have hC : Ctx ((ChipP b m.s N).star (CtlC k b fo fi m.K)) Q w0 w rows := ⟨(chipP_ok b m.s N).star (ctlC_ok k b fo fi m.K), h.okQ, h.upd, S, ⟨A, B, hS, hB, hd, hSS⟩, h2, h3⟩
  exact ⟨N, hC.assoc (chipP_ok b m.s N) (ctlC_ok k b fo fi m.K), h4⟩
theorem progP_to {Q : Own} (hQ : Q.Ok) {b k fo fi : Nat} {m : Mac} {n N : Int} {w0 w : World} {rows : List (Value × List Value)} (hC : Ctx (ChipP b m.s N) ((CtlC k b fo fi m.K).star Q) w0 w rows) (h4 : 0 ≤ N ∧ N ≤ n ∧ m.Ok ∧ m.K.clocks ≤ n) : Ctx (ProgP b k fo fi m n) Q w0 w rows :=
  ((hC.assocR (ctlC_ok k b fo fi m.K) hQ).commQ.mapQ (progP_ok b k fo fi m n) fun _ hS => ⟨N, hS, h4⟩).commQ
theorem docP_of {Q : Own} {b k : Nat} {m : Mac} {n : Int} {w0 w : World} {rows : List (Value × List Value)} (h : Ctx (DocP b k m n) Q w0 w rows) : ∃ N, Ctx (RefP b m.s N) ((RKC k b (.slice none 0 0) (.slice none 0 0) m.K).star Q) w0 w rows ∧ 0 ≤ N ∧ N ≤ n ∧ m.Ok ∧ m.K.clocks ≤ n := by
  obtain ⟨S, ⟨A, B, ⟨N, hS, h4⟩, hB, hd, hSS⟩, h2, h3⟩ := h.all
  have hC : Ctx ((RefP b m.s N).star (RKC k b (.slice none 0 0) (.slice none 0 0) m.K)) Q w0 w rows := ⟨(refP_ok b m.s N).star (rkc_ok k b _ _ m.K), h.okQ, h.upd, S, ⟨A, B, hS, hB, hd, hSS⟩, h2, h3⟩
  exact ⟨N, hC.assoc (refP_ok b m.s N) (rkc_ok k b _ _ m.K), h4⟩
theorem docP_to {Q : Own} (hQ : Q.Ok) {b k : Nat} {m : Mac} {n N : Int} {w0 w : World} {rows : List (Value × List Value)} (hC : Ctx (RefP b m.s N) ((RKC k b (.slice none 0 0) (.slice none 0 0) m.K).star Q) w0 w rows) (h4 : 0 ≤ N ∧ N ≤ n ∧ m.Ok ∧ m.K.clocks ≤ n) : Ctx (DocP b k m n) Q w0 w rows :=
  ((hC.assocR (rkc_ok k b _ _ m.K) hQ).commQ.mapQ (docP_ok b k m n) fun _ hS => ⟨N, hS, h4⟩).commQ
theorem p_go {Q : Own} {b k fo fi : Nat} {m : Mac} {n : Int} {w0 w : World} {rows : List (Value × List Value)} (h : Ctx (ProgP b k fo fi m n) Q w0 w rows) (c : Int) (hc : opIs c = true) (hc2 : c ≠ 235) (at_ : Int) (a : Option Addr) (cp : Nat) (data : List Int) (hdd : (.slice a data.length cp, ints data) ∈ rows) (read : Int) (hmay : cmdMay (opOf c) at_ data read = true) (clk : Int) (hclk : phsMany (cmdPhs (opOf c) at_ data read) ≤ clk) (hn : n + clk ≤ 1048574)
    (m' : Mac) (e1 : Int) (out : List Int) (hgo : m.go c at_ data read = (m', e1, out)) :
    Calls Tryz.prog 50 #[.pointer (some ⟨k, 0, none⟩), .int .i64 c, .int .i64 at_, .slice a data.length cp, .int .i64 read] w fun e w' => ∃ oa oc, e = .returned (.tuple #[.slice oa out.length oc, .int .i64 e1]) ∧ Ctx (ProgP b k fo fi m' (n + clk + 1)) Q w0 w' ((.slice oa out.length oc, ints out) :: rows) := by
  obtain ⟨N, hC, hN0, hN, hok, hkc⟩ := progP_of h
  have hp := cmd_all c hc at_ data read hmay
  have h0 := (phsMany_bd _ hp).1
  have hk0 := hok.clocks
  obtain ⟨g1, g2, g3⟩ := go_ok hok c at_ data read hp
  rw [hgo] at g1 g2 g3
  dsimp only at g1 g2 g3
  cases hl : m.K.lost with
  | true =>
    rw [go_lost hl] at hgo
    simp only [Prod.mk.injEq] at hgo
    obtain ⟨rfl, rfl, rfl⟩ := hgo
    refine (c_run_lost hC hl c at_ read _).mono ?_
    rintro e w' ⟨rfl, rfl⟩
    exact ⟨none, 0, rfl, progP_to h.okQ hC.nilrow ⟨hN0, by omega, hok, by omega⟩⟩
  | false =>
    have hk := drv_kept m _ hp
    obtain ⟨⟨d, wh⟩, hd⟩ : ∃ r, m.drv (cmdPhs (opOf c) at_ data read) = r := ⟨_, rfl⟩
    rw [hd] at hk
    have k1 := hk.up
    have k2 := hk.many
    dsimp only at k1 k2
    cases wh with
    | true =>
      rw [go_whole hl hd] at hgo
      simp only [Prod.mk.injEq] at hgo
      obtain ⟨rfl, rfl, rfl⟩ := hgo
      refine (c_run h.okQ hC hN0 (hok.sel hl) hok.left ⟨hk0, by omega⟩ hl hok.goes c hc hc2 at_ a cp data hdd read hmay (by omega) d hd).mono ?_
      rintro e w' ⟨oa, oc, rfl, hC2⟩
      exact ⟨oa, oc, rfl, progP_to (m := ⟨d.s.deselect, m.K.driven d⟩) h.okQ hC2 ⟨by omega, by omega, g1, by omega⟩⟩
    | false =>
      rw [go_part hl hd] at hgo
      simp only [Prod.mk.injEq] at hgo
      obtain ⟨rfl, rfl, rfl⟩ := hgo
      refine (c_run_cut h.okQ hC hN0 (hok.sel hl) hok.left ⟨hk0, by omega⟩ hl hok.goes c hc hc2 at_ a cp data hdd read hmay (by omega) d hd).mono ?_
      rintro e w' ⟨rfl, hC2⟩
      exact ⟨none, 0, rfl, progP_to (m := ⟨d.s, (m.K.driven d).gone⟩) h.okQ hC2.nilrow ⟨by omega, by omega, g1, by omega⟩⟩
theorem going_same {K : KS} (d : Drv) (h : K.goes = false) : (K.driven d).going false = K.driven d := by
  obtain ⟨r0, r1, r2, cl, go, le, lo⟩ := K
  have h : go = false := h
  subst h
  rfl
theorem d_go {Q : Own} {b k : Nat} {m : Mac} {n : Int} {w0 w : World} {rows : List (Value × List Value)} (h : Ctx (DocP b k m n) Q w0 w rows) (c : Int) (hc : opIs c = true) (hc2 : c ≠ 235) (at_ : Int) (a : Option Addr) (cp : Nat) (data : List Int) (hdd : (.slice a data.length cp, ints data) ∈ rows) (read : Int) (hmay : cmdMay (opOf c) at_ data read = true) (clk : Int) (hclk : phsMany (cmdPhs (opOf c) at_ data read) ≤ clk) (hn : n + clk ≤ 1048574)
    (m' : Mac) (e1 : Int) (out : List Int) (hgo : m.go c at_ data read = (m', e1, out)) :
    Calls Tryz.prog 53 #[.pointer (some ⟨k, 0, none⟩), .int .i64 c, .int .i64 at_, .slice a data.length cp, .int .i64 read] w fun e w' => ∃ oa oc, e = .returned (.tuple #[.slice oa out.length oc, .int .i64 e1]) ∧ Ctx (DocP b k m' (n + clk + 1)) Q w0 w' ((.slice oa out.length oc, ints out) :: rows) := by
  obtain ⟨N, hC, hN0, hN, hok, hkc⟩ := docP_of h
  have hp := cmd_all c hc at_ data read hmay
  have h0 := (phsMany_bd _ hp).1
  have hk0 := hok.clocks
  obtain ⟨g1, g2, g3⟩ := go_ok hok c at_ data read hp
  rw [hgo] at g1 g2 g3
  dsimp only at g1 g2 g3
  cases hl : m.K.lost with
  | true =>
    rw [go_lost hl] at hgo
    simp only [Prod.mk.injEq] at hgo
    obtain ⟨rfl, rfl, rfl⟩ := hgo
    refine (rk_run_gone hC hl c at_ read _).mono ?_
    rintro e w' ⟨rfl, rfl⟩
    exact ⟨none, 0, rfl, docP_to h.okQ hC.nilrow ⟨hN0, by omega, hok, by omega⟩⟩
  | false =>
    have hk := drv_kept m _ hp
    obtain ⟨⟨d, wh⟩, hd⟩ : ∃ r, m.drv (cmdPhs (opOf c) at_ data read) = r := ⟨_, rfl⟩
    rw [hd] at hk
    have k1 := hk.up
    have k2 := hk.many
    dsimp only at k1 k2
    cases wh with
    | true =>
      rw [go_whole hl hd] at hgo
      simp only [Prod.mk.injEq] at hgo
      obtain ⟨rfl, rfl, rfl⟩ := hgo
      refine (rk_run h.okQ hC hN0 (hok.sel hl) hok.left ⟨hk0, by omega⟩ hl hok.goes c hc hc2 at_ a cp data hdd read hmay (by omega) d hd).mono ?_
      rintro e w' ⟨oa, oc, rfl, hC2⟩
      rw [going_same d hok.goes] at hC2
      exact ⟨oa, oc, rfl, docP_to (m := ⟨d.s.deselect, m.K.driven d⟩) h.okQ hC2 ⟨by omega, by omega, g1, by omega⟩⟩
    | false =>
      rw [go_part hl hd] at hgo
      simp only [Prod.mk.injEq] at hgo
      obtain ⟨rfl, rfl, rfl⟩ := hgo
      refine (rk_run_cut h.okQ hC hN0 (hok.sel hl) hok.left ⟨hk0, by omega⟩ hl hok.goes c hc at_ a cp data hdd read hmay (by omega) d hd).mono ?_
      rintro e w' ⟨rfl, hC2⟩
      exact ⟨none, 0, rfl, docP_to (m := ⟨d.s, (m.K.driven d).gone⟩) h.okQ hC2.nilrow ⟨by omega, by omega, g1, by omega⟩⟩
end Go.Proofs.YteombggfmeilaaaGreat
/- MacW. -/
namespace Go.Proofs.YteombggfmeilaaaGreat
open Go.RowKit
theorem gets_len (l : Int) (n : Nat) : ∀ d : Drv, (d.gets l n).2 = true → (d.gets l n).1.out.length = d.out.length + n := by
  induction n with
  | zero => intro d _; rfl
  | succ n ih =>
    intro d h
    rw [Drv.gets] at h ⊢
    cases hg : (d.get l).2 with
    | false => rw [hg] at h; cases h
    | true =>
      rw [hg] at h
      simp only [if_true] at h ⊢
      rw [ih _ h]
      have : (d.get l).1.out.length = d.out.length + 1 := by
        unfold Drv.get at hg ⊢
        split
        · rw [List.length_append]; rfl
        · rename_i h2; rw [if_neg h2] at hg; cases hg
      omega
theorem phase_len (d : Drv) (p : Ph) (h : (d.phase p).2 = true) : (d.phase p).1.out.length = d.out.length + p.read.toNat := by
  unfold Drv.phase at h ⊢
  cases hr : (d.run p.says).2.2 with
  | false => rw [hr] at h; cases h
  | true =>
    rw [hr] at h
    simp only [if_true] at h ⊢
    rw [gets_len _ _ _ h, (run_keep p.says d).1]
def phsReads (ps : List Ph) : Nat := (ps.map fun p => p.read.toNat).sum
theorem phases_len (ps : List Ph) : ∀ d : Drv, (d.phases ps).2 = true → (d.phases ps).1.out.length = d.out.length + phsReads ps := by
  induction ps with
  | nil => intro d _; rfl
  | cons p ps ih =>
    intro d h
    rw [Drv.phases] at h ⊢
    cases hr : (d.phase p).2 with
    | false => rw [hr] at h; cases h
    | true =>
      rw [hr] at h
      simp only [if_true] at h ⊢
      rw [ih _ h, phase_len _ _ hr]
      unfold phsReads
      rw [List.map_cons, List.sum_cons]
      omega
theorem go_code (m : Mac) (c at_ : Int) (data : List Int) (read : Int) :
    ((m.go c at_ data read).2.1 = 0 ∧ (m.go c at_ data read).2.2.length = phsReads (cmdPhs (opOf c) at_ data read)) ∨ ((m.go c at_ data read).2.1 = 1101 ∧ (m.go c at_ data read).2.2 = []) := by
  cases hl : m.K.lost with
  | true => rw [go_lost hl]; exact .inr ⟨rfl, rfl⟩
  | false =>
    obtain ⟨⟨d, wh⟩, hd⟩ : ∃ r, m.drv (cmdPhs (opOf c) at_ data read) = r := ⟨_, rfl⟩
    cases wh with
    | false => rw [go_part hl hd]; exact .inr ⟨rfl, rfl⟩
    | true =>
      rw [go_whole hl hd]
      refine .inl ⟨rfl, ?_⟩
      have h1 : (m.drv (cmdPhs (opOf c) at_ data read)).2 = true := by rw [hd]
      have h2 := phases_len _ _ h1
      have h3 : Drv.phases ⟨m.s.select, [], 0, m.K.left⟩ (cmdPhs (opOf c) at_ data read) = (d, true) := hd
      rw [h3] at h2
      rw [h2]
      simp
theorem ask_may : cmdMay (opOf 5) 0 [] 1 = true := by kernel_rfl
theorem ask_reads : phsReads (cmdPhs (opOf 5) 0 [] 1) = 1 := by kernel_rfl
theorem ask_many : phsMany (cmdPhs (opOf 5) 0 [] 1) = 16 := by kernel_rfl
theorem ask_form (m : Mac) : (∃ x, (m.go 5 0 [] 1).2 = (0, [x])) ∨ (m.go 5 0 [] 1).2 = (1101, []) := by
  rcases go_code m 5 0 [] 1 with ⟨h1, h2⟩ | ⟨h1, h2⟩
  · left
    rw [ask_reads] at h2
    obtain ⟨x, hx⟩ := List.length_eq_one_iff.1 h2
    exact ⟨x, Prod.ext h1 hx⟩
  · exact .inr (Prod.ext h1 h2)
def Mac.waits (m : Mac) : Nat → Int → Mac × Int × Int
  | 0, _ => (m, 0, 1400)
  | f + 1, i =>
    if (m.go 5 0 [] 1).2.1 = 1101 then ((m.go 5 0 [] 1).1, 0, 1101)
    else if (m.go 5 0 [] 1).2.2.getD 0 0 % 2 = 0 then ((m.go 5 0 [] 1).1, i, 0)
    else (m.go 5 0 [] 1).1.waits f (i + 1)
set_option maxRecDepth 100000 in
set_option maxHeartbeats 2000000 in
theorem p_busy {Q : Own} {b k fo fi : Nat} {m : Mac} {n : Int} {w0 w : World} {rows : List (Value × List Value)} (h : Ctx (ProgP b k fo fi m n) Q w0 w rows) (hn : n + 17 ≤ 1048575) :
    Calls Tryz.prog 133 #[.pointer (some ⟨k, 0, none⟩)] w fun e w' => e = .returned (.tuple #[.bool (decide ((m.go 5 0 [] 1).2.1 = 0) && decide ((m.go 5 0 [] 1).2.2.getD 0 0 % 2 ≠ 0)), .int .i64 (m.go 5 0 [] 1).2.1]) ∧ Ctx (ProgP b k fo fi (m.go 5 0 [] 1).1 (n + 17)) Q w0 w' rows := by
  have hr := p_go h.nilrow 5 (by decide) (by decide) 0 none 0 [] List.mem_cons_self 1 ask_may 16 (by rw [ask_many]; decide) (by omega) (m.go 5 0 [] 1).1 (m.go 5 0 [] 1).2.1 (m.go 5 0 [] 1).2.2 rfl
  rw [show n + 16 + 1 = n + 17 by omega] at hr
  have hfo := ask_form m
  obtain ⟨⟨m', e1, out⟩, hg⟩ : ∃ r, m.go 5 0 [] 1 = r := ⟨_, rfl⟩
  rw [hg] at hr hfo ⊢
  dsimp only at hr hfo ⊢
  rcases hfo with ⟨x, hx⟩ | hx
  · simp only [Prod.mk.injEq] at hx
    obtain ⟨rfl, rfl⟩ := hx
    have HR := Lib.hid hr
    have hx2 := i64_and1 x
    clear hr h hg
    go_enter Tryz.func133, Tryz.ntmps133
    go_upto_region 2 with (go_at_call 50; refine HR.out.mono ?_; rintro e w2 ⟨oa, oc, rfl, hR2⟩)
    obtain ⟨gx, ox, e1, -, hcc⟩ := (hR2.rs 0 rfl).cells (Nat.lt_succ_self 0)
    subst e1
    have hcell := hcc 0 (Nat.lt_succ_self 0)
    rw [ints_at _ _ (Nat.lt_succ_self 0)] at hcell
    simp only [List.getD_cons_zero, Nat.add_zero] at hcell
    have HR2 := Lib.hid hR2.tl.tl
    clear hR2 hcc HR
    by_cases hz : x % 2 = 0
    · rw [hz] at hx2
      go_wp2
      go_ret2
      exact ⟨by simp [hz], HR2.out⟩
    · have h1 : x % 2 = 1 := by omega
      rw [h1] at hx2
      clear hz
      go_wp2
      go_ret2
      exact ⟨by simp [h1], HR2.out⟩
  · simp only [Prod.mk.injEq] at hx
    obtain ⟨rfl, rfl⟩ := hx
    have HR := Lib.hid hr
    clear hr h hg
    go_enter Tryz.func133, Tryz.ntmps133
    go_upto_region 2 with (go_at_call 50; refine HR.out.mono ?_; rintro e w2 ⟨oa, oc, rfl, hR2⟩)
    have HR2 := Lib.hid hR2.tl.tl
    clear hR2 HR
    go_wp2
    go_ret2
    exact ⟨rfl, HR2.out⟩
theorem waits_lost {m : Mac} (h : (m.go 5 0 [] 1).2 = (1101, [])) {f : Nat} {i : Int} : m.waits (f + 1) i = ((m.go 5 0 [] 1).1, 0, 1101) := by
  unfold Mac.waits
  rw [h, if_pos rfl]
theorem waits_done {m : Mac} {x : Int} (h : (m.go 5 0 [] 1).2 = (0, [x])) (hx : x % 2 = 0) {f : Nat} {i : Int} : m.waits (f + 1) i = ((m.go 5 0 [] 1).1, i, 0) := by
  unfold Mac.waits
  rw [h, if_neg (show ¬ ((0 : Int) = 1101) by decide), if_pos (by exact hx)]
theorem waits_more {m : Mac} {x : Int} (h : (m.go 5 0 [] 1).2 = (0, [x])) (hx : ¬ x % 2 = 0) {f : Nat} {i : Int} : m.waits (f + 1) i = (m.go 5 0 [] 1).1.waits f (i + 1) := by
  rw [Mac.waits, h, if_neg (show ¬ ((0 : Int) = 1101) by decide), if_neg (by exact hx)]
theorem progP_mono {Q : Own} {b k fo fi : Nat} {m : Mac} {n n' : Int} {w0 w : World} {rows : List (Value × List Value)} (h : Ctx (ProgP b k fo fi m n) Q w0 w rows) (hn : n ≤ n') : Ctx (ProgP b k fo fi m n') Q w0 w rows := by
  obtain ⟨N, hC, h1, h2, h3, h4⟩ := progP_of h
  exact progP_to h.okQ hC ⟨h1, by omega, h3, by omega⟩
theorem docP_mono {Q : Own} {b k : Nat} {m : Mac} {n n' : Int} {w0 w : World} {rows : List (Value × List Value)} (h : Ctx (DocP b k m n) Q w0 w rows) (hn : n ≤ n') : Ctx (DocP b k m n') Q w0 w rows := by
  obtain ⟨N, hC, h1, h2, h3, h4⟩ := docP_of h
  exact docP_to h.okQ hC ⟨h1, by omega, h3, by omega⟩
set_option maxRecDepth 100000 in
set_option maxHeartbeats 4000000 in
theorem p_wait {Q : Own} {b k fo fi : Nat} {m : Mac} {n : Int} {w0 w : World} {rows : List (Value × List Value)} (h : Ctx (ProgP b k fo fi m n) Q w0 w rows) (most : Nat) (hm : most ≤ 4096) (hn : n + 17 * (most : Int) ≤ 1048575) :
    Calls Tryz.prog 60 #[.pointer (some ⟨k, 0, none⟩), .int .i64 (most : Int)] w fun e w' => e = .returned (.tuple #[.int .i64 (m.waits most 1).2.1, .int .i64 (m.waits most 1).2.2]) ∧ Ctx (ProgP b k fo fi (m.waits most 1).1 (n + 17 * (most : Int))) Q w0 w' rows := by
  have H := Lib.hid h
  clear h
  go_enter Tryz.func60, Tryz.ntmps60
  go_wp2
  go_loopw [6] (fun iv wr => ∃ (r : Nat) (m1 : Mac), r ≤ most ∧ iv = .int .i64 ((r : Int) + 1) ∧ Hid (m.waits most 1 = m1.waits (most - r) ((r : Int) + 1)) ∧ Hid (Ctx (ProgP b k fo fi m1 (n + 17 * (r : Int))) Q w0 wr rows)) (fun iv _ => most + 1 - (intOf iv).toNat)
  case atStart => exact ⟨0, m, by omega, rfl, Lib.hid rfl, Lib.hid (by rw [show n + 17 * ((0 : Nat) : Int) = n by omega]; exact H.out)⟩
  case round =>
    clear H
    rename World => W2
    obtain ⟨r, m1, hr, rfl, hw, hC⟩ := hrel
    by_cases hlt : r < most
    · rw [show most - r = (most - r - 1) + 1 by omega] at hw
      have hask := p_busy hC.out (by omega)
      rw [show n + 17 * (r : Int) + 17 = n + 17 * ((r + 1 : Nat) : Int) by omega] at hask
      rcases ask_form m1 with ⟨x, hx⟩ | hx
      · rw [hx] at hask
        dsimp only at hask
        simp only [List.getD_cons_zero, decide_true, Bool.true_and] at hask
        by_cases hz : x % 2 = 0
        · rw [decide_eq_false (by omega)] at hask
          have HA := Lib.hid hask
          have HW : Hid (m.waits most 1 = ((m1.go 5 0 [] 1).1, (r : Int) + 1, 0)) := Lib.hid (by rw [hw.out, waits_done hx hz])
          clear hask hx hz hw hC
          go_wp2_with (go_at_call 133; refine HA.out.mono ?_; rintro e w2 ⟨rfl, hR2⟩)
          go_ret2
          rw [HW.out]
          exact ⟨rfl, progP_mono hR2 (by omega)⟩
        · rw [decide_eq_true (by omega)] at hask
          have HA := Lib.hid hask
          have HW : Hid (m.waits most 1 = (m1.go 5 0 [] 1).1.waits (most - (r + 1)) (((r + 1 : Nat) : Int) + 1)) := Lib.hid (by rw [hw.out, waits_more hx hz, show most - r - 1 = most - (r + 1) by omega]; congr 1)
          clear hask hx hz hw hC
          go_wp2_with (go_at_call 133; refine HA.out.mono ?_; rintro e w2 ⟨rfl, hR2⟩)
          refine ⟨?rel, ?measure⟩
          case rel => exact ⟨r + 1, _, by omega, by go_num, HW, Lib.hid hR2⟩
          case measure => simp [intOf]; omega
      · rw [hx] at hask
        dsimp only at hask
        simp only [show decide ((1101 : Int) = 0) = false from rfl, Bool.false_and] at hask
        have HA := Lib.hid hask
        have HW : Hid (m.waits most 1 = ((m1.go 5 0 [] 1).1, 0, 1101)) := Lib.hid (by rw [hw.out, waits_lost hx])
        clear hask hx hw hC
        go_wp2_with (go_at_call 133; refine HA.out.mono ?_; rintro e w2 ⟨rfl, hR2⟩)
        go_ret2
        rw [HW.out]
        exact ⟨rfl, progP_mono hR2 (by omega)⟩
    · obtain rfl : most = r := by omega
      have HW : Hid (m.waits most 1 = (m1, 0, 1400)) := Lib.hid (by rw [hw.out, Nat.sub_self]; rfl)
      clear hw
      go_wp2
      go_ret2
      rw [HW.out]
      exact ⟨rfl, hC.out⟩
set_option maxRecDepth 100000 in
set_option maxHeartbeats 4000000 in
theorem d_wait {Q : Own} {b k : Nat} {m : Mac} {n : Int} {w0 w : World} {rows : List (Value × List Value)} (h : Ctx (DocP b k m n) Q w0 w rows) (most : Nat) (hm : most ≤ 4096) (hn : n + 17 * (most : Int) ≤ 1048575) :
    Calls Tryz.prog 61 #[.pointer (some ⟨k, 0, none⟩), .int .i64 (most : Int)] w fun e w' => e = .returned (.tuple #[.int .i64 (m.waits most 1).2.1, .int .i64 (m.waits most 1).2.2]) ∧ Ctx (DocP b k (m.waits most 1).1 (n + 17 * (most : Int))) Q w0 w' rows := by
  have H := Lib.hid h
  clear h
  go_enter Tryz.func61, Tryz.ntmps61
  go_wp2
  go_loopw [6] (fun iv wr => ∃ (r : Nat) (m1 : Mac), r ≤ most ∧ iv = .int .i64 ((r : Int) + 1) ∧ Hid (m.waits most 1 = m1.waits (most - r) ((r : Int) + 1)) ∧ Hid (Ctx (DocP b k m1 (n + 17 * (r : Int))) Q w0 wr rows)) (fun iv _ => most + 1 - (intOf iv).toNat)
  case atStart => exact ⟨0, m, by omega, rfl, Lib.hid rfl, Lib.hid (by rw [show n + 17 * ((0 : Nat) : Int) = n by omega]; exact H.out)⟩
  case round =>
    clear H
    rename World => W2
    obtain ⟨r, m1, hr, rfl, hw, hC⟩ := hrel
    by_cases hlt : r < most
    · rw [show most - r = (most - r - 1) + 1 by omega] at hw
      have hask := d_go hC.out.nilrow 5 (by decide) (by decide) 0 none 0 [] List.mem_cons_self 1 ask_may 16 (by rw [ask_many]; decide) (by omega) (m1.go 5 0 [] 1).1 (m1.go 5 0 [] 1).2.1 (m1.go 5 0 [] 1).2.2 rfl
      rw [show n + 17 * (r : Int) + 16 + 1 = n + 17 * ((r + 1 : Nat) : Int) by omega] at hask
      rcases ask_form m1 with ⟨x, hx⟩ | hx
      · rw [hx] at hask
        dsimp only at hask
        have hx2 := i64_and1 x
        have HA := Lib.hid hask
        by_cases hz : x % 2 = 0
        · rw [hz] at hx2
          have HW : Hid (m.waits most 1 = ((m1.go 5 0 [] 1).1, (r : Int) + 1, 0)) := Lib.hid (by rw [hw.out, waits_done hx hz])
          clear hask hx hz hw hC
          go_wp2_with (go_at_call 53; refine HA.out.mono ?_; rintro e w2 ⟨oa, oc, rfl, hR2⟩; obtain ⟨gx, ox, e1, -, hcc⟩ := (hR2.rs 0 rfl).cells (Nat.lt_succ_self 0); subst e1; have hcell := hcc 0 (Nat.lt_succ_self 0); rw [ints_at _ _ (Nat.lt_succ_self 0)] at hcell; simp only [List.getD_cons_zero, Nat.add_zero] at hcell; have HR2 := Lib.hid hR2.tl.tl; clear hR2 hcc)
          go_ret2
          rw [HW.out]
          exact ⟨rfl, docP_mono HR2.out (by omega)⟩
        · have h1 : x % 2 = 1 := by omega
          rw [h1] at hx2
          have HW : Hid (m.waits most 1 = (m1.go 5 0 [] 1).1.waits (most - (r + 1)) (((r + 1 : Nat) : Int) + 1)) := Lib.hid (by rw [hw.out, waits_more hx hz, show most - r - 1 = most - (r + 1) by omega]; congr 1)
          clear hask hx hz hw hC h1
          go_wp2_with (go_at_call 53; refine HA.out.mono ?_; rintro e w2 ⟨oa, oc, rfl, hR2⟩; obtain ⟨gx, ox, e1, -, hcc⟩ := (hR2.rs 0 rfl).cells (Nat.lt_succ_self 0); subst e1; have hcell := hcc 0 (Nat.lt_succ_self 0); rw [ints_at _ _ (Nat.lt_succ_self 0)] at hcell; simp only [List.getD_cons_zero, Nat.add_zero] at hcell; have HR2 := Lib.hid hR2.tl.tl; clear hR2 hcc)
          refine ⟨?rel, ?measure⟩
          case rel => exact ⟨r + 1, _, by omega, by go_num, HW, Lib.hid HR2.out⟩
          case measure => simp [intOf]; omega
      · rw [hx] at hask
        dsimp only at hask
        have HA := Lib.hid hask
        have HW : Hid (m.waits most 1 = ((m1.go 5 0 [] 1).1, 0, 1101)) := Lib.hid (by rw [hw.out, waits_lost hx])
        clear hask hx hw hC
        go_wp2_with (go_at_call 53; refine HA.out.mono ?_; rintro e w2 ⟨oa, oc, rfl, hR2⟩; have HR2 := Lib.hid hR2.tl.tl; clear hR2)
        go_ret2
        rw [HW.out]
        exact ⟨rfl, docP_mono HR2.out (by omega)⟩
    · obtain rfl : most = r := by omega
      have HW : Hid (m.waits most 1 = (m1, 0, 1400)) := Lib.hid (by rw [hw.out, Nat.sub_self]; rfl)
      clear hw
      go_wp2
      go_ret2
      rw [HW.out]
      exact ⟨rfl, hC.out⟩
theorem ref_within (at_ k : Int) (w : World) : Calls Tryz.prog 131 #[.int .i64 at_, .int .i64 k] w fun e w' => e = .returned (.bool (fmayB at_ k)) ∧ w = w' := by
  by_cases h1 : k ≥ 0
  · by_cases h2 : k ≤ 512
    · have hw : IntKind.i64.wrap (4096 - k) = 4096 - k := IntWalk.i64_in _ (by omega)
      by_cases h3 : at_ ≥ 0
      · by_cases h4 : at_ ≤ 4096 - k
        · have hf : fmayB at_ k = true := decide_eq_true (by omega)
          rw [hf]
          go_enter Tryz.func131, Tryz.ntmps131
          go_wp2
          go_ret
          exact ⟨rfl, rfl⟩
        · have hf : fmayB at_ k = false := decide_eq_false (by omega)
          rw [hf]
          go_enter Tryz.func131, Tryz.ntmps131
          go_wp2
          go_ret
          exact ⟨rfl, rfl⟩
      · have hf : fmayB at_ k = false := decide_eq_false (by omega)
        rw [hf]
        go_enter Tryz.func131, Tryz.ntmps131
        go_wp2
        go_ret
        exact ⟨rfl, rfl⟩
    · have hf : fmayB at_ k = false := decide_eq_false (by omega)
      rw [hf]
      go_enter Tryz.func131, Tryz.ntmps131
      go_wp2
      go_ret
      exact ⟨rfl, rfl⟩
  · have hf : fmayB at_ k = false := decide_eq_false (by omega)
    rw [hf]
    go_enter Tryz.func131, Tryz.ntmps131
    go_wp2
    go_ret
    exact ⟨rfl, rfl⟩
end Go.Proofs.YteombggfmeilaaaGreat
