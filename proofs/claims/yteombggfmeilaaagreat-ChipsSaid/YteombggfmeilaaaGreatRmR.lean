/- The walk over the document's chip's Deselect: statuses put, programs, erases; whole. · The document's chip as an object, in the state of a chip: what its calls do is what the chip's do. · The document's chip's calls, as an object's. · The document's chip among what a law holds: its calls. -/
import Derived.Test.YteombggfmeilaaaGreatRmQ
import Derived.Test.YteombggfmeilaaaGreatCtx
namespace Go.Proofs.YteombggfmeilaaaGreat
open Go.RowKit
/-- What a begin asks. -/
structure RSt.Can (r : RSt) : Prop where
  addr : 0 ≤ r.addr ∧ r.addr < 4096
  busy : r.busy.length ≤ 16
  wipes : ∀ k, 0 ≤ r.wipes k ∧ r.wipes k ≤ 1099511627776
  len : r.inn.length ≤ 1048576
  data : ∀ x ∈ r.inn, 0 ≤ x ∧ x ≤ 255
def BPost (b : Nat) (wv bv iv : Value) (w : World) (r' : RSt) (e : Ending) (w' : World) : Prop :=
  e = .returned (.tuple #[]) ∧ ∃ bv', RB w' b r' wv bv' iv ∧ Row w' 3 bv' (ints r'.busy) ∧ Row w' 3 wv (ints (wl r'.wipes)) ∧ (∀ k, bv'.ownBlock = some k → bv.ownBlock = some k ∨ w.heap.size ≤ k) ∧ Upd (fun k => k = b ∨ wv.ownBlock = some k) w w'
theorem ref_begin_all (b : Nat) (r : RSt) (wv bv iv : Value) (w : World) (h : RefV w b r wv bv iv) (hc : r.Can) (hby : r.op.byte = 32 ∨ r.op.byte = 2) :
    Calls Tryz.prog 96 #[.pointer (some ⟨b, 0, none⟩)] w (BPost b wv bv iv w r.begins) := by
  by_cases hn : r.en = false ∨ r.prot = true ∧ r.addr < 2048
  · refine (ref_begin_no b r wv bv iv w h.cb hc.addr hn).mono ?_
    rintro e w' ⟨rfl, hB, hU⟩
    have hbb : r.begins.busy = r.busy ∧ r.begins.wipes = r.wipes := by
      unfold RSt.begins
      rcases hn with e | e
      · rw [if_pos (by rw [e]; decide)]; exact ⟨rfl, rfl⟩
      · by_cases he : r.en = true
        · rw [if_neg (by rw [he]; decide), if_pos e]; exact ⟨rfl, rfl⟩
        · rw [if_pos (by simpa using he)]; exact ⟨rfl, rfl⟩
    exact ⟨rfl, bv, hB, by rw [hbb.1]; exact h.busy.upd hU (fun k hk => (h.sb k hk).1), by rw [hbb.2]; exact h.wip.upd hU h.sw, fun k hk => .inl hk, hU.mono (fun _ _ e => .inl e)⟩
  · have he : r.en = true := by
      cases he : r.en with
      | true => rfl
      | false => exact absurd (.inl he) hn
    exact ref_begin b r wv bv iv w h.cb hc.addr he (fun e => hn (.inr e)) hby h.busy hc.busy h.sb h.wip h.sw hc.wipes h.inn h.si hc.len
theorem RefV.off {w : World} {b : Nat} {r : RSt} {wv bv iv : Value} (h : RefV w b r wv bv iv) : RefV (w.setCell ⟨b, 4, none⟩ (.bool false)) b r.off wv bv iv := by
  have hU := (Upd.refl (fun k => k = b) w).setCell ⟨b, 4, none⟩ (.bool false) (fun _ => rfl)
  exact ⟨h.cb.set 4 _, h.wip.upd hU h.sw, h.busy.upd hU (fun k hk => (h.sb k hk).1), h.inn.upd hU (fun k hk => (h.si k hk).1), h.sw, h.sb, h.si⟩
theorem begins_post {b : Nat} {wv bv iv : Value} {w : World} {r' : RSt} {e : Ending} {w' : World} (h : BPost b wv bv iv (w.setCell ⟨b, 4, none⟩ (.bool false)) r' e w') : DPost b wv bv iv w r' (.returned (.int .i64 0)) w' := by
  obtain ⟨rfl, bv', h1, h2, h3, h4, h5⟩ := h
  have hU := (Upd.refl (fun k => k = b) w).setCell ⟨b, 4, none⟩ (.bool false) (fun _ => rfl)
  refine ⟨rfl, bv', h1, h2, h3, fun k hk => (h4 k hk).imp_right (fun e => by rw [size_set] at e; exact e), (hU.mono (T := fun k => k = b ∨ wv.ownBlock = some k) (fun _ _ e => .inl e)).trans h5 (fun _ _ e => e)⟩
set_option maxRecDepth 100000 in
set_option maxHeartbeats 4000000 in
theorem ref_des_erase (b : Nat) (r : RSt) (wv bv iv : Value) (w : World) (h : RefV w b r wv bv iv) (hs : r.sel = true) (ht : r.taken = true) (hc : r.Can) (hop : r.op = opOf 32) :
    Calls Tryz.prog 20 #[.pointer (some ⟨b, 0, none⟩)] w (DPost b wv bv iv w r.deselect) := by
  have hfr : ∀ i, w.frozen? ⟨b, i, none⟩ = false := fun i => h.cb.frozen i
  have c4 := h.cb.cell 4
  have c13 := h.cb.cell 13
  have c18 := h.cb.cell 18
  have c19 := h.cb.cell 19
  have c23 := h.cb.cell 23
  have c28 := h.cb.cell 28
  have f4 := hfr 4
  have hlt := h.cb.lt
  simp only [RSt.list, List.getElem?_cons_succ, List.getElem?_cons_zero] at c4 c13 c18 c19 c23 c28
  rw [hs] at c4
  rw [ht] at c19
  rw [hop] at c13 c18
  have HR : Hid (r.deselect = if r.off.alone then r.off.begins else r.off) := Lib.hid (rends32 (r := { r with sel := false }) ht hop)
  have HH := Lib.hid h
  have HB := Lib.hid (ref_begin_all b r.off wv bv iv _ h.off ⟨hc.addr, hc.busy, hc.wipes, hc.len, hc.data⟩ (.inl (by show r.op.byte = 32; rw [hop]; rfl)))
  have HU := Lib.hid ((Upd.refl (fun k => k = b) w).setCell ⟨b, 4, none⟩ (.bool false) (fun _ => rfl))
  clear hs ht h hfr hop hc
  by_cases hp : r.part = 4
  · by_cases hz : r.clocks = 0
    · have ha : r.off.alone = true := by show r.alone = true; unfold RSt.alone; exact decide_eq_true ⟨hp, hz⟩
      have hR2 : r.deselect = r.off.begins := by rw [HR.out, ha]; rfl
      have HR2 := Lib.hid hR2
      rw [hp] at c23
      rw [hz] at c28
      clear ha hR2 HR hp hz
      go_enter Tryz.func20, Tryz.ntmps20
      go_wp2_with fail
      refine HB.out.mono ?_
      intro e w1 hP
      obtain ⟨rfl, hP2⟩ := id hP
      go_wp2
      go_ret
      rw [HR2.out]
      exact begins_post hP
    · have ha : r.off.alone = false := by show r.alone = false; unfold RSt.alone; exact decide_eq_false (fun e => hz e.2)
      have hR2 : r.deselect = r.off := by rw [HR.out, ha]; rfl
      have HR2 := Lib.hid hR2
      have hzb : (r.clocks == 0) = false := by simpa using hz
      rw [hp] at c23
      clear ha hR2 HR hp hz
      go_enter Tryz.func20, Tryz.ntmps20
      go_wp2
      go_ret
      rw [HR2.out]
      exact dsame HH.out _ rfl (HH.out.cb.set 4 _) HU.out rfl rfl
  · have ha : r.off.alone = false := by show r.alone = false; unfold RSt.alone; exact decide_eq_false (fun e => hp e.1)
    have hR2 : r.deselect = r.off := by rw [HR.out, ha]; rfl
    have HR2 := Lib.hid hR2
    have hpb : (r.part == 4) = false := by simpa using hp
    clear ha hR2 HR hp
    go_enter Tryz.func20, Tryz.ntmps20
    go_wp2
    go_ret
    rw [HR2.out]
    exact dsame HH.out _ rfl (HH.out.cb.set 4 _) HU.out rfl rfl
set_option maxRecDepth 100000 in
set_option maxHeartbeats 4000000 in
theorem ref_des_short (b : Nat) (r : RSt) (wv bv iv : Value) (w : World) (h : RefV w b r wv bv iv) (hs : r.sel = true) (ht : r.taken = true) (k : Int) (hk : k = 1 ∨ k = 2) (hop : r.op = opOf k) (hw : ¬ (r.part = 4 ∧ r.bits = 0)) :
    Calls Tryz.prog 20 #[.pointer (some ⟨b, 0, none⟩)] w (DPost b wv bv iv w r.deselect) := by
  have hfr : ∀ i, w.frozen? ⟨b, i, none⟩ = false := fun i => h.cb.frozen i
  have c4 := h.cb.cell 4
  have c13 := h.cb.cell 13
  have c18 := h.cb.cell 18
  have c19 := h.cb.cell 19
  have c21 := h.cb.cell 21
  have c23 := h.cb.cell 23
  have f4 := hfr 4
  have hlt := h.cb.lt
  simp only [RSt.list, List.getElem?_cons_succ, List.getElem?_cons_zero] at c4 c13 c18 c19 c21 c23
  rw [hs] at c4
  rw [ht] at c19
  have HR : Hid (r.deselect = r.off) := Lib.hid (by
    rcases hk with e | e <;> subst e
    · exact (rends1 (r := { r with sel := false }) ht hop).trans (if_neg hw)
    · exact (rends2 (r := { r with sel := false }) ht hop).trans (if_neg hw))
  rw [hop] at c13 c18
  have HH := Lib.hid h
  have HU := Lib.hid ((Upd.refl (fun k => k = b) w).setCell ⟨b, 4, none⟩ (.bool false) (fun _ => rfl))
  clear hs ht h hfr hop
  by_cases hp : r.part = 4
  · have hz : (r.bits != 0) = true := by
      have : ¬ r.bits = 0 := fun e => hw ⟨hp, e⟩
      simpa using this
    rw [hp] at c23
    clear hw hp
    rcases hk with e | e <;> subst e
    all_goals
      go_enter Tryz.func20, Tryz.ntmps20
      go_wp2
      go_ret
      rw [HR.out]
      exact dsame HH.out _ rfl (HH.out.cb.set 4 _) HU.out rfl rfl
  · have hpb : (r.part != 4) = true := by simpa using hp
    clear hw hp
    rcases hk with e | e <;> subst e
    all_goals
      go_enter Tryz.func20, Tryz.ntmps20
      go_wp2
      go_ret
      rw [HR.out]
      exact dsame HH.out _ rfl (HH.out.cb.set 4 _) HU.out rfl rfl
set_option maxRecDepth 100000 in
set_option maxHeartbeats 4000000 in
theorem ref_des_prog (b : Nat) (r : RSt) (wv bv iv : Value) (w : World) (h : RefV w b r wv bv iv) (hs : r.sel = true) (ht : r.taken = true) (hc : r.Can) (hop : r.op = opOf 2) (hp : r.part = 4) (hz : r.bits = 0) :
    Calls Tryz.prog 20 #[.pointer (some ⟨b, 0, none⟩)] w (DPost b wv bv iv w r.deselect) := by
  have hfr : ∀ i, w.frozen? ⟨b, i, none⟩ = false := fun i => h.cb.frozen i
  have c4 := h.cb.cell 4
  have c13 := h.cb.cell 13
  have c18 := h.cb.cell 18
  have c19 := h.cb.cell 19
  have c21 := h.cb.cell 21
  have c23 := h.cb.cell 23
  have c27 := h.cb.cell 27
  have c28 := h.cb.cell 28
  have f4 := hfr 4
  have hlt := h.cb.lt
  simp only [RSt.list, List.getElem?_cons_succ, List.getElem?_cons_zero] at c4 c13 c18 c19 c21 c23 c27 c28
  rw [hs] at c4
  rw [ht] at c19
  rw [hop] at c13 c18
  rw [hp] at c23
  rw [hz] at c21
  have HR : Hid (r.deselect = if r.inn = [] then r.off else r.off.begins) := Lib.hid ((rends2 (r := { r with sel := false }) ht hop).trans (if_pos ⟨hp, hz⟩))
  have HH := Lib.hid h
  have HB := Lib.hid (ref_begin_all b r.off wv bv iv _ h.off ⟨hc.addr, hc.busy, hc.wipes, hc.len, hc.data⟩ (.inr (by show r.op.byte = 2; rw [hop]; rfl)))
  have HU := Lib.hid ((Upd.refl (fun k => k = b) w).setCell ⟨b, 4, none⟩ (.bool false) (fun _ => rfl))
  obtain ⟨n, hn⟩ : ∃ n, r.inn.length = n := ⟨_, rfl⟩
  have hform := h.inn.form
  rw [ints_len, hn] at hform
  obtain ⟨ia, ic, rfl, -, -, -⟩ := hform
  clear hs ht h hfr hop hc hp hz
  by_cases hn0 : n = 0
  · subst hn0
    have hR2 : r.deselect = r.off := by rw [HR.out, if_pos (List.length_eq_zero_iff.1 hn)]
    have HR2 := Lib.hid hR2
    clear hR2 HR hn
    go_enter Tryz.func20, Tryz.ntmps20
    go_wp2
    go_ret
    rw [HR2.out]
    exact dsame HH.out _ rfl (HH.out.cb.set 4 _) HU.out rfl rfl
  · have hR2 : r.deselect = r.off.begins := by rw [HR.out, if_neg (fun e => hn0 (by rw [← hn, e]; rfl))]
    have HR2 := Lib.hid hR2
    have hn1 : (n : Int) > 0 := by omega
    clear hR2 HR hn hn0
    go_enter Tryz.func20, Tryz.ntmps20
    go_wp2_with fail
    refine HB.out.mono ?_
    intro e w1 hP
    obtain ⟨rfl, hP2⟩ := id hP
    go_wp2
    go_ret
    rw [HR2.out]
    exact begins_post hP
set_option maxRecDepth 100000 in
set_option maxHeartbeats 4000000 in
theorem ref_des_put (b : Nat) (r : RSt) (wv bv iv : Value) (w : World) (h : RefV w b r wv bv iv) (hs : r.sel = true) (ht : r.taken = true) (hc : r.Can) (hop : r.op = opOf 1) (hp : r.part = 4) (hz : r.bits = 0) :
    Calls Tryz.prog 20 #[.pointer (some ⟨b, 0, none⟩)] w (DPost b wv bv iv w r.deselect) := by
  have hfr : ∀ i, w.frozen? ⟨b, i, none⟩ = false := fun i => h.cb.frozen i
  have c1 := h.cb.cell 1
  have c2 := h.cb.cell 2
  have c4 := h.cb.cell 4
  have c5 := h.cb.cell 5
  have c13 := h.cb.cell 13
  have c18 := h.cb.cell 18
  have c19 := h.cb.cell 19
  have c21 := h.cb.cell 21
  have c23 := h.cb.cell 23
  have c27 := h.cb.cell 27
  have c28 := h.cb.cell 28
  have f1 := hfr 1
  have f2 := hfr 2
  have f4 := hfr 4
  have f5 := hfr 5
  have hlt := h.cb.lt
  simp only [RSt.list, List.getElem?_cons_succ, List.getElem?_cons_zero] at c1 c2 c4 c5 c13 c18 c19 c21 c23 c27 c28
  rw [hs] at c4
  rw [ht] at c19
  rw [hop] at c13 c18
  rw [hp] at c23
  rw [hz] at c21
  have HR : Hid (r.deselect = if r.en ∧ r.inn.length = 2 then { r.off with prot := decide (r.inn.getD 0 0 / 4 % 2 = 1), quad := decide (r.inn.getD 1 0 / 2 % 2 = 1), en := false } else r.off) := Lib.hid ((rends1 (r := { r with sel := false }) ht hop).trans (if_pos ⟨hp, hz⟩))
  have HH := Lib.hid h
  have HU := Lib.hid ((Upd.refl (fun k => k = b) w).setCell ⟨b, 4, none⟩ (.bool false) (fun _ => rfl))
  have hdat := hc.data
  obtain ⟨n, hn⟩ : ∃ n, r.inn.length = n := ⟨_, rfl⟩
  have hform := h.inn.form
  rw [ints_len, hn] at hform
  obtain ⟨ia, ic, rfl, -, hinil, hisome⟩ := hform
  clear hs ht h hfr hop hc hp hz
  cases he : r.en with
  | false =>
    rw [he] at c5
    have hR2 : r.deselect = r.off := by rw [HR.out, if_neg (by rw [he]; intro hh; cases hh.1)]
    have HR2 := Lib.hid hR2
    clear hR2 HR hn he hdat hinil hisome
    go_enter Tryz.func20, Tryz.ntmps20
    go_wp2
    go_ret
    rw [HR2.out]
    exact dsame HH.out _ rfl (HH.out.cb.set 4 _) HU.out rfl rfl
  | true =>
    rw [he] at c5
    by_cases hn2 : n = 2
    · subst hn2
      obtain ⟨x0, x1, hx⟩ : ∃ x0 x1, r.inn = [x0, x1] := by
        match hq : r.inn, hn with
        | [x0, x1], _ => exact ⟨x0, x1, rfl⟩
      have hx0 := hdat x0 (by rw [hx]; simp)
      have hx1 := hdat x1 (by rw [hx]; simp)
      have hR2 : r.deselect = { r.off with prot := (x0 / 4 % 2 * 4 != 0), quad := (x1 / 2 % 2 * 2 != 0), en := false } := by
        rw [HR.out, if_pos ⟨he, hn⟩, hx]
        show ({ r.off with prot := decide (x0 / 4 % 2 = 1), quad := decide (x1 / 2 % 2 = 1), en := false } : RSt) = _
        rw [show decide (x0 / 4 % 2 = 1) = (x0 / 4 % 2 * 4 != 0) from by rcases (show x0 / 4 % 2 = 0 ∨ x0 / 4 % 2 = 1 by omega) with e | e <;> rw [e] <;> rfl]
        rw [show decide (x1 / 2 % 2 = 1) = (x1 / 2 % 2 * 2 != 0) from by rcases (show x1 / 2 % 2 = 0 ∨ x1 / 2 % 2 = 1 by omega) with e | e <;> rw [e] <;> rfl]
      have HR2 := Lib.hid hR2
      have a0 := and4_byte hx0.1 hx0.2
      have a1 := and2_byte hx1.1 hx1.2
      rw [hx] at hisome hinil
      cases ia with
      | none => exact absurd (hinil rfl).1 (by simp [ints])
      | some ad =>
        obtain ⟨g, rfl, hog, hgs, hcg, -⟩ := hisome ad rfl
        have hgb : g ≠ b := (HH.out.si g hog).1
        have x0c := hcg 0 (by omega)
        have x1c := hcg 1 (by omega)
        simp only [ints, List.map_cons, List.map_nil, List.getElem?_cons_zero, List.getElem?_cons_succ] at x0c x1c
        obtain ⟨v0, hv0⟩ : ∃ v0, x0 / 4 % 2 * 4 = v0 := ⟨_, rfl⟩
        obtain ⟨v1, hv1⟩ : ∃ v1, x1 / 2 % 2 * 2 = v1 := ⟨_, rfl⟩
        rw [hv0] at a0 HR2
        rw [hv1] at a1 HR2
        clear hR2 HR hn he hdat hinil hisome hx hv0 hv1 hcg
        go_enter Tryz.func20, Tryz.ntmps20
        go_upto_region 23 with fail
        go_wp2
        go_ret
        rw [HR2.out]
        exact dsame HH.out _ rfl ((((HH.out.cb.set 4 (.bool false)).set 1 (.bool (v0 != 0))).set 2 (.bool (v1 != 0))).set 5 (.bool false)) ((((HU.out.setCell ⟨b, 1, none⟩ _ (fun _ => rfl)).setCell ⟨b, 2, none⟩ _ (fun _ => rfl)).setCell ⟨b, 5, none⟩ _ (fun _ => rfl))) rfl rfl
    · have hR2 : r.deselect = r.off := by rw [HR.out, if_neg (fun e => hn2 (by rw [← hn]; exact e.2))]
      have HR2 := Lib.hid hR2
      have hnb : ((n : Int) == 2) = false := by
        have : ¬ (n : Int) = 2 := by omega
        simpa using this
      clear hR2 HR hn he hdat hinil hisome hn2
      go_enter Tryz.func20, Tryz.ntmps20
      go_wp2
      go_ret
      rw [HR2.out]
      exact dsame HH.out _ rfl (HH.out.cb.set 4 _) HU.out rfl rfl
theorem ref_deselect (b : Nat) (r : RSt) (wv bv iv : Value) (w : World) (h : RefV w b r wv bv iv) (hs : r.sel = true) (hc : r.Can) (c : Int) (hop : r.op = opOf c) :
    Calls Tryz.prog 20 #[.pointer (some ⟨b, 0, none⟩)] w (DPost b wv bv iv w r.deselect) := by
  cases ht : r.taken with
  | false => exact ref_des_untaken b r wv bv iv w h hs ht
  | true =>
    cases hb : opIs c with
    | false =>
      have e0 : opOf c = opOf 0 := by
        simp only [opIs, decide_eq_false_iff_not] at hb
        unfold opOf
        rw [if_neg (by omega), if_neg (by omega), if_neg (by omega), if_neg (by omega), if_neg (by omega), if_neg (by omega), if_neg (by omega), if_neg (by omega), if_neg (by omega)]
        rfl
      exact ref_des_none b r wv bv iv w h hs ht 0 (.inl rfl) (hop.trans e0)
    | true =>
      simp only [opIs, decide_eq_true_eq] at hb
      by_cases hw : r.part = 4 ∧ r.bits = 0
      · rcases hb with e | e | e | e | e | e | e | e | e | e | e | e | e | e <;> subst e
        · exact ref_des_put b r wv bv iv w h hs ht hc hop hw.1 hw.2
        · exact ref_des_prog b r wv bv iv w h hs ht hc hop hw.1 hw.2
        · exact ref_des_none b r wv bv iv w h hs ht 3 (by decide) hop
        · exact ref_des_dis b r wv bv iv w h hs ht hop
        · exact ref_des_none b r wv bv iv w h hs ht 5 (by decide) hop
        · exact ref_des_en b r wv bv iv w h hs ht hop
        · exact ref_des_erase b r wv bv iv w h hs ht hc hop
        · exact ref_des_none b r wv bv iv w h hs ht 53 (by decide) hop
        · exact ref_des_none b r wv bv iv w h hs ht 90 (by decide) hop
        · exact ref_des_none b r wv bv iv w h hs ht 107 (by decide) hop
        · exact ref_des_susp b r wv bv iv w h hs ht hop
        · exact ref_des_resume b r wv bv iv w h hs ht hop
        · exact ref_des_none b r wv bv iv w h hs ht 159 (by decide) hop
        · exact ref_des_goes b r wv bv iv w h hs ht hop
      · rcases hb with e | e | e | e | e | e | e | e | e | e | e | e | e | e <;> subst e
        · exact ref_des_short b r wv bv iv w h hs ht 1 (.inl rfl) hop hw
        · exact ref_des_short b r wv bv iv w h hs ht 2 (.inr rfl) hop hw
        · exact ref_des_none b r wv bv iv w h hs ht 3 (by decide) hop
        · exact ref_des_dis b r wv bv iv w h hs ht hop
        · exact ref_des_none b r wv bv iv w h hs ht 5 (by decide) hop
        · exact ref_des_en b r wv bv iv w h hs ht hop
        · exact ref_des_erase b r wv bv iv w h hs ht hc hop
        · exact ref_des_none b r wv bv iv w h hs ht 53 (by decide) hop
        · exact ref_des_none b r wv bv iv w h hs ht 90 (by decide) hop
        · exact ref_des_none b r wv bv iv w h hs ht 107 (by decide) hop
        · exact ref_des_susp b r wv bv iv w h hs ht hop
        · exact ref_des_resume b r wv bv iv w h hs ht hop
        · exact ref_des_none b r wv bv iv w h hs ht 159 (by decide) hop
        · exact ref_des_goes b r wv bv iv w h hs ht hop
end Go.Proofs.YteombggfmeilaaaGreat
namespace Go.Proofs.YteombggfmeilaaaGreat
open Go.RowKit
/-- What holds of the document's chip by itself. -/
structure RSt.RInv (r : RSt) (N : Int) : Prop where
  addr : 0 ≤ r.addr ∧ r.addr < 4096
  out : 0 ≤ r.out ∧ r.out ≤ 255
  clk : 0 ≤ r.clocks ∧ r.clocks ≤ N
theorem byteOut_bd (r : RSt) : 0 ≤ r.byteOut ∧ r.byteOut ≤ 255 := by
  unfold RSt.byteOut
  have h1 := first_bd r.works r.en r.prot
  have h2 := second_bd r.quad r.susp
  split
  · have : (r.sent % 3).toNat = 0 ∨ (r.sent % 3).toNat = 1 ∨ (r.sent % 3).toNat = 2 := by omega
    rcases this with h | h | h <;> rw [h] <;> decide
  · split
    · unfold RSt.first; omega
    · split
      · unfold RSt.second; omega
      · split
        · exact byteOf_bd _ _
        · exact byteOf_bd _ _
theorem RSt.RInv.mono {r : RSt} {N M : Int} (h : r.RInv N) (hm : N ≤ M) : r.RInv M := ⟨h.addr, h.out, h.clk.1, by have := h.clk.2; omega⟩
theorem rinv_of {r r' : RSt} {N : Int} (h : r.RInv N) (e1 : r'.addr = r.addr) (e2 : r'.out = r.out) (e3 : r'.clocks = r.clocks ∨ r'.clocks = 0) : r'.RInv N := by
  refine ⟨by rw [e1]; exact h.addr, by rw [e2]; exact h.out, ?_⟩
  have := h.clk
  rcases e3 with e | e <;> rw [e] <;> omega
theorem rinv_pass {r : RSt} {N : Int} (h : r.RInv N) : r.pass.RInv N := by
  unfold RSt.pass
  split
  · split
    · exact rinv_of h rfl rfl (.inl rfl)
    · exact rinv_of h rfl rfl (.inl rfl)
  · exact h
theorem rinv_says {r : RSt} {N : Int} (h : r.RInv N) : r.says.1.RInv N := by
  have hb := byteOut_bd r
  have h1 : r.says1.RInv N := by
    unfold RSt.says1
    split
    · exact ⟨h.addr, hb, h.clk⟩
    · exact h
  obtain ⟨b, e, -⟩ := RSt.says_eq r
  rw [e]
  exact ⟨h1.addr, h1.out, h1.clk⟩
theorem rinv_data {r : RSt} {N : Int} (h : r.RInv N) (x : Int) : (r.dataC x).1.RInv N := by
  unfold RSt.dataC
  split
  · exact h
  · split
    · dsimp only
      split
      · exact ⟨h.addr, h.out, h.clk⟩
      · exact ⟨h.addr, h.out, h.clk⟩
    · exact rinv_says h
theorem rinv_clock {r : RSt} {N : Int} (h : r.RInv N) (x : Int) : (r.clock x).1.RInv (N + 1) := by
  have hp := (rinv_pass h).mono (show N ≤ N + 1 by omega)
  have hc := (rinv_pass h).clk
  unfold RSt.clock
  dsimp only
  split
  · unfold RSt.clockIn
    split
    · dsimp only
      split
      · exact ⟨hp.addr, hp.out, Int.le_refl 0, by show (0 : Int) ≤ N + 1; omega⟩
      · exact ⟨hp.addr, hp.out, hp.clk⟩
    · split
      · exact hp
      · have h1 : ({ r.pass with clocks := r.pass.clocks + 1 } : RSt).RInv (N + 1) := ⟨hp.addr, hp.out, by show 0 ≤ r.pass.clocks + 1 ∧ r.pass.clocks + 1 ≤ N + 1; omega⟩
        unfold RSt.part1
        dsimp only
        split
        · split
          · refine ⟨?_, hp.out, Int.le_refl 0, by show (0 : Int) ≤ N + 1; omega⟩
            show 0 ≤ _ % 4096 ∧ _ % 4096 < 4096
            omega
          · exact ⟨hp.addr, hp.out, h1.clk⟩
        · split
          · split
            · exact ⟨hp.addr, hp.out, Int.le_refl 0, by show (0 : Int) ≤ N + 1; omega⟩
            · exact ⟨hp.addr, hp.out, h1.clk⟩
          · split
            · split
              · exact ⟨hp.addr, hp.out, Int.le_refl 0, by show (0 : Int) ≤ N + 1; omega⟩
              · exact h1
            · exact rinv_data h1 x
  · exact hp
theorem rinv_select {r : RSt} {N : Int} (h : r.RInv N) : r.select.RInv N := by
  have h0 := h.clk
  unfold RSt.select
  dsimp only
  split
  · exact ⟨h.addr, h.out, Int.le_refl 0, by show (0 : Int) ≤ N; omega⟩
  · exact ⟨h.addr, h.out, Int.le_refl 0, by show (0 : Int) ≤ N; omega⟩
theorem rbegins_keeps (r : RSt) : r.begins.addr = r.addr ∧ r.begins.out = r.out ∧ r.begins.clocks = r.clocks := by
  unfold RSt.begins
  split
  · exact ⟨rfl, rfl, rfl⟩
  · split
    · exact ⟨rfl, rfl, rfl⟩
    · dsimp only
      split <;> exact ⟨rfl, rfl, rfl⟩
theorem rends_keeps (r : RSt) : r.ends.addr = r.addr ∧ r.ends.out = r.out ∧ r.ends.clocks = r.clocks := by
  unfold RSt.ends
  repeat' split
  all_goals first | exact ⟨rfl, rfl, rfl⟩ | exact rbegins_keeps r
theorem rinv_deselect {r : RSt} {N : Int} (h : r.RInv N) : r.deselect.RInv N := by
  obtain ⟨e1, e2, e3⟩ := rends_keeps { r with sel := false }
  exact rinv_of h e1 e2 (.inl e3)
theorem rinv_new (a : ByteArray) : (RSt.new a).RInv 0 := ⟨⟨Int.le_refl 0, by show (0 : Int) < 4096; decide⟩, ⟨Int.le_refl 0, by show (0 : Int) ≤ 255; decide⟩, Int.le_refl 0, Int.le_refl 0⟩
theorem rinv_loss {r : RSt} {N : Int} (h : r.RInv N) (mask : ByteArray) : (r.loss mask).RInv N := ⟨⟨Int.le_refl 0, by show (0 : Int) < 4096; decide⟩, ⟨Int.le_refl 0, by show (0 : Int) ≤ 255; decide⟩, Int.le_refl 0, Int.le_trans h.clk.1 h.clk.2⟩
end Go.Proofs.YteombggfmeilaaaGreat
namespace Go.Proofs.YteombggfmeilaaaGreat
open Go.RowKit
def refSet (b : Nat) (wv bv iv : Value) : Nat → Prop := fun k => k = b ∨ wv.ownBlock = some k ∨ bv.ownBlock = some k ∨ iv.ownBlock = some k
/-- Block b is the document's chip in the state r; it owns S. -/
def RefAt (w : World) (b : Nat) (r : RSt) (S : Nat → Prop) : Prop := ∃ wv bv iv, RefV w b r wv bv iv ∧ (∀ k, iv.ownBlock = some k → bv.ownBlock ≠ some k) ∧ S = refSet b wv bv iv
theorem RefV.upd {T : Nat → Prop} {w w' : World} {b : Nat} {r : RSt} {wv bv iv : Value} (h : RefV w b r wv bv iv) (u : Upd T w w') (hT : ∀ k, refSet b wv bv iv k → ¬ T k) : RefV w' b r wv bv iv :=
  ⟨h.cb.upd u (hT b (.inl rfl)), h.wip.upd u (fun k hk => hT k (.inr (.inl hk))), h.busy.upd u (fun k hk => hT k (.inr (.inr (.inl hk)))), h.inn.upd u (fun k hk => hT k (.inr (.inr (.inr hk)))), h.sw, h.sb, h.si⟩
theorem RefAt.upd {T : Nat → Prop} {w w' : World} {b : Nat} {r : RSt} {S : Nat → Prop} (h : RefAt w b r S) (u : Upd T w w') (hT : ∀ k, S k → ¬ T k) : RefAt w' b r S := by
  obtain ⟨wv, bv, iv, hv, hx, rfl⟩ := h
  exact ⟨wv, bv, iv, hv.upd u hT, hx, rfl⟩
theorem RefAt.lt {w : World} {b : Nat} {r : RSt} {S : Nat → Prop} (h : RefAt w b r S) : ∀ k, S k → k < w.heap.size := by
  obtain ⟨wv, bv, iv, hv, hx, rfl⟩ := h
  rintro k (rfl | hk | hk | hk)
  · exact hv.cb.lt
  · exact hv.wip.lt k hk
  · exact hv.busy.lt k hk
  · exact hv.inn.lt k hk
def RefPost (b : Nat) (r' : RSt) (S : Nat → Prop) (w w' : World) : Prop := ∃ S', RefAt w' b r' S' ∧ (∀ k, S' k → S k ∨ w.heap.size ≤ k) ∧ Upd S w w'
/-- The document's chip, in the state of a chip. -/
def RefP (b : Nat) (s : St) (N : Int) : Own := fun w S => ∃ r, RefAt w b r S ∧ Rel r s ∧ s.InvW N ∧ r.RInv N
theorem refP_ok (b : Nat) (s : St) (N : Int) : (RefP b s N).Ok := by
  refine ⟨?_, ?_⟩
  · rintro w w' S T ⟨r, h1, h2⟩ u hT
    exact ⟨r, h1.upd u hT, h2⟩
  · rintro w S ⟨r, h1, h2⟩
    exact h1.lt
theorem kept_rel {r : RSt} {s : St} {N : Int} (h : Rel r s) (hI : s.InvW N) : ((r.kind = 2 ∨ r.kind = 32) → r.Kept) ∧ (r.works = true → r.Kept ∧ 1 ≤ r.left ∧ r.left ≤ 400) := by
  have hj := h.job
  have ha : r.a.size = 4096 := by rw [h.a]; exact hI.1.size
  obtain ⟨hw, -⟩ := works_rel h.job
  cases hjo : s.job with
  | none =>
    rw [hjo] at hj
    refine ⟨fun e => ?_, fun e => ?_⟩
    · rw [hj.1] at e
      rcases e with e | e <;> cases e
    · rw [hw] at e
      simp [St.works, hjo] at e
  | some j =>
    rw [hjo] at hj
    obtain ⟨h1, h2, h3⟩ := hj
    obtain ⟨hf, hl1, hl2⟩ := hI.1.job j hjo
    have hK : r.Kept := by
      refine ⟨ha, ?_⟩
      rcases h3 with ⟨e1, e2, e3, e4⟩ | ⟨e1, e2, e3, e4, e5⟩
      · rcases hf with ⟨g1, g2, g3, g4⟩ | ⟨g1, g2⟩
        · exact .inl ⟨e2, by rw [e3]; exact g2, by rw [e3]; exact g3, by rw [e4]; exact g4⟩
        · omega
      · exact .inr ⟨by omega, e3, e4⟩
    exact ⟨fun _ => hK, fun _ => ⟨hK, by omega, by omega⟩⟩
theorem fit_rel {r : RSt} {s : St} {N : Int} (h : Rel r s) (hs : s.sel = true) (hI : s.InvW N) (hR : r.RInv N) (hN : N ≤ 1048576) :
    (r.known = false → (0 ≤ r.x ∧ r.x ≤ 1073741824) ∧ (0 ≤ r.bits ∧ r.bits ≤ 100)) ∧ (r.known = true → r.taken = true → r.Fit ∧ 0 ≤ r.clocks ∧ r.clocks ≤ 1099511627776) := by
  have g := h.cmd hs
  have hp := hI.2 hs
  obtain ⟨c, hc⟩ := hI.1.op
  have hclk := hR.clk
  have htold := hI.1.told
  have hlen := hI.1.len
  refine ⟨fun hk => ?_, fun hk ht => ⟨?_, by omega, by omega⟩⟩
  · have h0 : s.stage = 0 := by
      rw [g.known] at hk
      simpa using hk
    rcases hp with ⟨_, l1, l2, g0, gl⟩ | k | k | k | k | k | k | k
    · have hg := got2 g0 gl
      rcases g.part with ⟨_, p1, p2⟩ | k | k | k | k | k | k | k
      · omega
      all_goals omega
    all_goals omega
  · have h01 : s.stage ≠ 0 ∧ s.stage ≠ 1 := by
      rw [g.taken] at ht
      simpa using ht
    unfold RSt.Fit
    rw [g.op]
    rcases g.part with k | k | ⟨hst, p0, p1, p2⟩ | ⟨hst, p0, p1, p2⟩ | ⟨hst, p0, p1⟩ | ⟨hst, p0, p1, p2⟩ | ⟨hst, p0, p1⟩ | ⟨hst, p0, p1⟩
    · omega
    · omega
    · rcases hp with k | k | ⟨_, g0, ⟨ad, l1, l2, gl⟩ | ⟨ad, l1, l2, gl⟩⟩ | k | k | k | k | k
      · omega
      · omega
      · have hg := got2 g0 gl
        rw [ad] at p2
        exact .inl ⟨p0, .inl ad, by omega, by omega⟩
      · have hg := got16 g0 gl
        rw [ad] at p2
        exact .inl ⟨p0, .inr ad, by omega, by omega⟩
      all_goals omega
    · rcases hp with k | k | k | ⟨_, ad, l1, l2, g0, gl⟩ | k | k | k | k
      · omega
      · omega
      · omega
      · have hg := got16 g0 gl
        rw [ad] at p2
        exact .inr (.inl ⟨p0, ad, by omega, by omega⟩)
      all_goals omega
    · exact .inr (.inr (.inl p0))
    · rcases hp with k | k | k | k | k | ⟨_, hi, hd, l1, l2, g0, gl⟩ | k | k
      · omega
      · omega
      · omega
      · omega
      · omega
      · have hg := got2 g0 gl
        refine .inr (.inr (.inr ⟨p0, .inr (.inl ⟨hi, by omega, by omega, by omega, ?_⟩)⟩))
        rw [g.inn]
        omega
      all_goals omega
    · rcases hp with k | k | k | k | k | k | ⟨_, hi, hk2⟩ | k
      · omega
      · omega
      · omega
      · omega
      · omega
      · omega
      · refine .inr (.inr (.inr ⟨p0, .inr (.inr ⟨hi, ?_, ?_, hR.addr, hR.out, byteOut_bd r⟩)⟩))
        · rcases hk2 with ⟨e, l1, l2⟩ | ⟨e, l1, l2⟩
          · refine .inl ⟨e, ?_⟩
            rw [e] at p1
            omega
          · refine .inr ⟨e, ?_⟩
            rw [e] at p1
            omega
        · rw [g.sent]
          omega
      · omega
    · exact .inr (.inr (.inr ⟨p0, .inl (g.d0 hst)⟩))
theorem says_keepsR (r : RSt) : r.says.1.wipes = r.wipes ∧ r.says.1.busy = r.busy := by
  have h1 : r.says1.wipes = r.wipes ∧ r.says1.busy = r.busy := by
    unfold RSt.says1
    split <;> exact ⟨rfl, rfl⟩
  obtain ⟨b, e, -⟩ := RSt.says_eq r
  rw [e]
  exact h1
theorem clock_keeps (r : RSt) (x : Int) : (r.clock x).1.wipes = r.wipes ∧ (r.clock x).1.busy = r.busy := by
  have hp : r.pass.wipes = r.wipes ∧ r.pass.busy = r.busy := by
    unfold RSt.pass
    split
    · split <;> exact ⟨rfl, rfl⟩
    · exact ⟨rfl, rfl⟩
  unfold RSt.clock
  dsimp only
  split
  · unfold RSt.clockIn
    split
    · dsimp only
      split <;> exact hp
    · split
      · exact hp
      · unfold RSt.part1
        dsimp only
        split
        · split <;> exact hp
        · split
          · split <;> exact hp
          · split
            · split <;> exact hp
            · unfold RSt.dataC
              split
              · exact hp
              · split
                · dsimp only
                  split <;> exact hp
                · obtain ⟨e1, e2⟩ := says_keepsR { r.pass with clocks := r.pass.clocks + 1 }
                  exact ⟨e1.trans hp.1, e2.trans hp.2⟩
  · exact hp
theorem rends_inn (r : RSt) : r.ends.inn = r.inn := by
  have hb : r.begins.inn = r.inn := by
    unfold RSt.begins
    split
    · rfl
    · split
      · rfl
      · dsimp only
        split <;> rfl
  unfold RSt.ends
  repeat' split
  all_goals first | rfl | exact hb
theorem refat_clock {w : World} {b : Nat} {r : RSt} {S : Nat → Prop} (hA : RefAt w b r S) {s : St} {N : Int} (h : Rel r s) (hI : s.InvW N) (hR : r.RInv N) (hN : N ≤ 1048576) (x : Int) (hx : 0 ≤ x ∧ x ≤ 15) :
    Calls Tryz.prog 22 #[.pointer (some ⟨b, 0, none⟩), .int .i64 x] w fun e w' => e = .returned (.tuple #[.int .i64 (s.clock x).2, .int .i64 0]) ∧ RefPost b (r.clock x).1 S w w' := by
  obtain ⟨wv, bv, iv, hv, hx2, rfl⟩ := hA
  have hp := h.pass hI.1.job
  have hA2 : r.pass.a.size = 4096 := by rw [hp.a]; exact (pass_invB hI.1).size
  have hIp : s.pass.InvW N := by
    refine ⟨pass_invB hI.1, fun hs => ?_⟩
    obtain ⟨e1, e2, e3, e4, e5⟩ := pass_sel' s
    have := hI.2 (by rw [← e1]; exact hs)
    unfold St.Part at this ⊢
    rw [e2, e3, e4, e5]
    exact this
  have hRp := rinv_pass hR
  obtain ⟨k1, k2, k3, k4, k5, k6, k7⟩ := rpass_same r
  refine (ref_clock b x r wv bv iv w hv.cb hv.inn (fun k hk => (hv.si k hk).1) hx (kept_rel h hI).2 hA2 (fun hs => ?_)).mono ?_
  · have hss : s.pass.sel = true := by rw [← hp.sel, k1]; exact hs
    obtain ⟨f1, f2⟩ := fit_rel hp hss hIp hRp hN
    rw [k2, k5, k6] at f1
    rw [k2, k3, k7] at f2
    exact ⟨f1, f2⟩
  · rintro e w' ⟨rfl, iv', hB, hRw, hf, hU⟩
    refine ⟨by rw [(clock_rel h hI x).2], refSet b wv bv iv', ⟨wv, bv, iv', ⟨hB, ?_, ?_, hRw, hv.sw, hv.sb, fun k hk => ?_⟩, fun k hk => ?_, rfl⟩, ?_, hU.mono (fun k _ e => ?_)⟩
    · have e : (r.clock x).1.wipes = r.wipes := (clock_keeps r x).1
      rw [e]
      refine hv.wip.upd hU (fun k hk e => ?_)
      rcases e with e | e
      · exact hv.sw k hk e
      · exact (hv.si k e).2 hk
    · have e : (r.clock x).1.busy = r.busy := (clock_keeps r x).2
      rw [e]
      refine hv.busy.upd hU (fun k hk e => ?_)
      rcases e with e | e
      · exact (hv.sb k hk).1 e
      · exact hx2 k e hk
    · rcases hf k hk with e | e
      · exact hv.si k e
      · exact ⟨fun e2 => by have := hv.cb.lt; omega, fun e2 => by have := hv.wip.lt k e2; omega⟩
    · rcases hf k hk with e | e
      · exact hx2 k e
      · exact fun e2 => by have := hv.busy.lt k e2; omega
    · rintro k (e | e | e | e)
      · exact .inl (.inl e)
      · exact .inl (.inr (.inl e))
      · exact .inl (.inr (.inr (.inl e)))
      · rcases hf k e with e | e
        · exact .inl (.inr (.inr (.inr e)))
        · exact .inr e
    · rcases e with e | e
      · exact .inl e
      · exact .inr (.inr (.inr e))
theorem refat_status {w : World} {b : Nat} {r : RSt} {S : Nat → Prop} (hA : RefAt w b r S) {s : St} (h : Rel r s) :
    Calls Tryz.prog 31 #[.pointer (some ⟨b, 0, none⟩)] w fun e w' => e = .returned (.tuple #[.int .i64 s.first, .int .i64 s.second]) ∧ Upd none' w w' := by
  obtain ⟨wv, bv, iv, hv, hx2, rfl⟩ := hA
  obtain ⟨h1, h2⟩ := works_rel h.job
  refine (ref_status b r wv bv iv w hv.cb).mono ?_
  rintro e w' ⟨rfl, hU⟩
  refine ⟨?_, hU⟩
  unfold RSt.first RSt.second St.first St.second
  rw [h1, h2, h.en, h.prot, h.quad]
theorem refat_select {w : World} {b : Nat} {r : RSt} {S : Nat → Prop} (hA : RefAt w b r S) (hs : r.sel = false) :
    Calls Tryz.prog 18 #[.pointer (some ⟨b, 0, none⟩)] w fun e w' => e = .returned (.int .i64 0) ∧ RefPost b r.select S w w' := by
  obtain ⟨wv, bv, iv, hv, hx2, rfl⟩ := hA
  refine (ref_select b r wv bv iv w hv.cb hs).mono ?_
  rintro e w' ⟨rfl, hB, hU⟩
  have e1 : r.select.wipes = r.wipes ∧ r.select.busy = r.busy ∧ r.select.inn = [] := by
    unfold RSt.select
    dsimp only
    split <;> exact ⟨rfl, rfl, rfl⟩
  refine ⟨rfl, refSet b wv bv (.slice none 0 0), ⟨wv, bv, .slice none 0 0, ⟨hB, by rw [e1.1]; exact hv.wip.upd hU hv.sw, by rw [e1.2.1]; exact hv.busy.upd hU (fun k hk => (hv.sb k hk).1), by rw [e1.2.2]; exact Row.nil _ _, hv.sw, hv.sb, fun k hk => by simp [Value.ownBlock] at hk⟩, fun k hk => by simp [Value.ownBlock] at hk, rfl⟩, ?_, hU.mono (fun k _ e => .inl e)⟩
  rintro k (e | e | e | e)
  · exact .inl (.inl e)
  · exact .inl (.inr (.inl e))
  · exact .inl (.inr (.inr (.inl e)))
  · simp [Value.ownBlock] at e
theorem refat_deselect {w : World} {b : Nat} {r : RSt} {S : Nat → Prop} (hA : RefAt w b r S) (hs : r.sel = true) (hc : r.Can) (c : Int) (hop : r.op = opOf c) :
    Calls Tryz.prog 20 #[.pointer (some ⟨b, 0, none⟩)] w fun e w' => e = .returned (.int .i64 0) ∧ RefPost b r.deselect S w w' := by
  obtain ⟨wv, bv, iv, hv, hx2, rfl⟩ := hA
  refine (ref_deselect b r wv bv iv w hv hs hc c hop).mono ?_
  rintro e w' ⟨rfl, bv', hB, hb, hw, hf, hU⟩
  have e1 : r.deselect.inn = r.inn := rends_inn _
  refine ⟨rfl, refSet b wv bv' iv, ⟨wv, bv', iv, ⟨hB, hw, hb, ?_, hv.sw, fun k hk => ?_, hv.si⟩, fun k hk e => ?_, rfl⟩, ?_, hU.mono (fun k _ e => ?_)⟩
  · rw [e1]
    refine hv.inn.upd hU (fun k hk e => ?_)
    rcases e with e | e
    · exact (hv.si k hk).1 e
    · exact (hv.si k hk).2 e
  · rcases hf k hk with e | e
    · exact hv.sb k e
    · exact ⟨fun e2 => by have := hv.cb.lt; omega, fun e2 => by have := hv.wip.lt k e2; omega⟩
  · rcases hf k e with e | e
    · exact hx2 k hk e
    · have := hv.inn.lt k hk; omega
  · rintro k (e | e | e | e)
    · exact .inl (.inl e)
    · exact .inl (.inr (.inl e))
    · rcases hf k e with e | e
      · exact .inl (.inr (.inr (.inl e)))
      · exact .inr e
    · exact .inl (.inr (.inr (.inr e)))
  · rcases e with e | e
    · exact .inl e
    · exact .inr (.inl e)
theorem refat_next {w : World} {b : Nat} {r : RSt} {S : Nat → Prop} (hA : RefAt w b r S) (a : Option Addr) (n cap : Nat) (xs : List Int) (hr : RS w (.slice a n cap) (ints xs)) (hc : a = none → cap = 0) (hgood : xs.any badD = false) (hlen : xs.length ≤ 16) :
    Calls Tryz.prog 25 #[.pointer (some ⟨b, 0, none⟩), .slice a n cap] w fun e w' => e = .returned (.int .i64 0) ∧ RefPost b { r with busy := xs } S w w' := by
  obtain ⟨wv, bv, iv, hv, hx2, rfl⟩ := hA
  refine (ref_next b r wv bv iv w hv.cb a n cap xs hr hc hgood hlen).mono ?_
  rintro e w' ⟨bv', rfl, hB, hb, hf, hU⟩
  refine ⟨rfl, refSet b wv bv' iv, ⟨wv, bv', iv, ⟨hB, hv.wip.upd hU hv.sw, hb, hv.inn.upd hU (fun k hk => (hv.si k hk).1), hv.sw, fun k hk => ?_, hv.si⟩, fun k hk e => ?_, rfl⟩, ?_, hU.mono (fun k _ e => .inl e)⟩
  · have := hf k hk
    exact ⟨fun e2 => by have := hv.cb.lt; omega, fun e2 => by have := hv.wip.lt k e2; omega⟩
  · have := hf k e
    have := hv.inn.lt k hk
    omega
  · rintro k (e | e | e | e)
    · exact .inl (.inl e)
    · exact .inl (.inr (.inl e))
    · exact .inr (hf k e)
    · exact .inl (.inr (.inr (.inr e)))
theorem refat_loss {w : World} {b : Nat} {r : RSt} {S : Nat → Prop} (hA : RefAt w b r S) (hK : r.kind = 2 ∨ r.kind = 32 → r.Kept) (hs : r.a.size = 4096) (mask : ByteArray) (hm : mask.size ≤ 9223372036854775807) :
    Calls Tryz.prog 29 #[.pointer (some ⟨b, 0, none⟩), .string mask] w fun e w' => e = .returned (.tuple #[]) ∧ RefPost b (r.loss mask) S w w' := by
  obtain ⟨wv, bv, iv, hv, hx2, rfl⟩ := hA
  obtain ⟨ao, ac, rfl, -⟩ := hv.wip.form
  refine (ref_loss b r ao _ ac bv iv w hv.cb hK hs mask hm).mono ?_
  rintro e w' ⟨rfl, hB, hU⟩
  refine ⟨rfl, refSet b _ (.slice none 0 0) (.slice none 0 0), ⟨_, .slice none 0 0, .slice none 0 0, ⟨hB, hv.wip.upd hU hv.sw, Row.nil _ _, Row.nil _ _, hv.sw, fun k hk => by simp [Value.ownBlock] at hk, fun k hk => by simp [Value.ownBlock] at hk⟩, fun k hk => by simp [Value.ownBlock] at hk, rfl⟩, ?_, hU.mono (fun k _ e => .inl e)⟩
  rintro k (e | e | e | e)
  · exact .inl (.inl e)
  · exact .inl (.inr (.inl e))
  · simp [Value.ownBlock] at e
  · simp [Value.ownBlock] at e
end Go.Proofs.YteombggfmeilaaaGreat
namespace Go.Proofs.YteombggfmeilaaaGreat
open Go.RowKit
theorem r_post {Q : Own} {w0 w : World} {b : Nat} {s : St} {N M : Int} {rows : List (Value × List Value)} (hC : Ctx (RefP b s N) Q w0 w rows) (t : St) {f : Nat} {args : Array Value} {res : Ending}
    (h : ∀ S r, RefAt w b r S → Rel r s → s.InvW N → r.RInv N → ∃ r', Rel r' t ∧ t.InvW M ∧ r'.RInv M ∧ Calls Tryz.prog f args w fun e w' => e = res ∧ RefPost b r' S w w') :
    Calls Tryz.prog f args w fun e w' => e = res ∧ Ctx (RefP b t M) Q w0 w' rows := by
  refine (hC.run (X := fun e news => e = res ∧ news = []) (refP_ok b t M) (fun S hP _ _ => ?_)).mono ?_
  · obtain ⟨r, h1, h2, h3, h4⟩ := hP
    obtain ⟨r', g1, g2, g3, g4⟩ := h S r h1 h2 h3 h4
    refine g4.mono ?_
    rintro e w' ⟨rfl, S', hA, hS, hU⟩
    exact ⟨S', [], ⟨rfl, rfl⟩, fun r hr => by simp at hr, ⟨r', hA, g1, g2, g3⟩, hS, hU⟩
  · rintro e w' ⟨news, ⟨rfl, rfl⟩, h2⟩
    exact ⟨rfl, h2⟩
theorem c_rclock {Q : Own} {w0 w : World} {b : Nat} {s : St} {N : Int} {rows : List (Value × List Value)} (hC : Ctx (RefP b s N) Q w0 w rows) (x : Int) (hx : 0 ≤ x ∧ x ≤ 15) (hN : N ≤ 1048575) (t : St) (y : Int) (ht : s.clock x = (t, y)) :
    Calls Tryz.prog 22 #[.pointer (some ⟨b, 0, none⟩), .int .i64 x] w fun e w' => e = .returned (.tuple #[.int .i64 y, .int .i64 0]) ∧ Ctx (RefP b t (N + 1)) Q w0 w' rows := by
  have e1 : (s.clock x).1 = t := by rw [ht]
  have e2 : (s.clock x).2 = y := by rw [ht]
  subst e1
  subst e2
  exact r_post hC _ (fun S r h1 h2 h3 h4 => ⟨(r.clock x).1, (clock_rel h2 h3 x).1, clock_invW h3 x, rinv_clock h4 x, refat_clock h1 h2 h3 h4 (by omega) x hx⟩)
theorem c_rselect {Q : Own} {w0 w : World} {b : Nat} {s : St} {N : Int} {rows : List (Value × List Value)} (hC : Ctx (RefP b s N) Q w0 w rows) (hsel : s.sel = false) (t : St) (ht : s.select = t) :
    Calls Tryz.prog 18 #[.pointer (some ⟨b, 0, none⟩)] w fun e w' => e = .returned (.int .i64 0) ∧ Ctx (RefP b t N) Q w0 w' rows := by
  subst ht
  exact r_post hC _ (fun S r h1 h2 h3 h4 => ⟨r.select, select_rel h2, select_invW h3, rinv_select h4, refat_select h1 (h2.sel.trans hsel)⟩)
theorem c_rdeselect {Q : Own} {w0 w : World} {b : Nat} {s : St} {N : Int} {rows : List (Value × List Value)} (hC : Ctx (RefP b s N) Q w0 w rows) (hsel : s.sel = true) (hN : N ≤ 1048576) (t : St) (ht : s.deselect = t) :
    Calls Tryz.prog 20 #[.pointer (some ⟨b, 0, none⟩)] w fun e w' => e = .returned (.int .i64 0) ∧ Ctx (RefP b t (N + 1)) Q w0 w' rows := by
  subst ht
  refine r_post hC _ (fun S r h1 h2 h3 h4 => ⟨r.deselect, deselect_rel h2 hsel h3, deselect_invW h3 hsel, (rinv_deselect h4).mono (by omega), ?_⟩)
  have g := h2.cmd hsel
  obtain ⟨c, hc⟩ := h3.1.op
  have hl := h3.1.len
  refine refat_deselect h1 (h2.sel.trans hsel) ⟨h4.addr, by rw [h2.busy]; exact h3.1.busy.1, fun k => ?_, ?_, ?_⟩ c (g.op.trans hc)
  · rw [h2.wipes]
    have := h3.1.wipes k
    omega
  · rw [g.inn]
    omega
  · rw [g.inn]
    exact h3.1.data
theorem c_rnext {Q : Own} {w0 w : World} {b : Nat} {s : St} {N : Int} {rows : List (Value × List Value)} (hC : Ctx (RefP b s N) Q w0 w rows) (a : Option Addr) (n cap : Nat) (xs : List Int) (hr : RS w (.slice a n cap) (ints xs)) (hc : a = none → cap = 0) (hgood : xs.any badD = false) (hlen : xs.length ≤ 16) :
    Calls Tryz.prog 25 #[.pointer (some ⟨b, 0, none⟩), .slice a n cap] w fun e w' => e = .returned (.int .i64 0) ∧ Ctx (RefP b { s with busy := xs } N) Q w0 w' rows := by
  refine r_post hC _ (fun S r h1 h2 h3 h4 => ⟨{ r with busy := xs }, next_rel h2 xs, ?_, ⟨h4.addr, h4.out, h4.clk⟩, refat_next h1 a n cap xs hr hc hgood hlen⟩)
  refine ⟨⟨h3.1.size, h3.1.job, h3.1.addr, h3.1.told, h3.1.len, h3.1.data, h3.1.now, h3.1.mode, h3.1.op, h3.1.wipes, hlen, fun d hd => ?_⟩, h3.2⟩
  rw [List.any_eq_false] at hgood
  have := hgood d hd
  simp only [badD, decide_eq_true_eq] at this
  omega
theorem c_rloss {Q : Own} {w0 w : World} {b : Nat} {s : St} {N : Int} {rows : List (Value × List Value)} (hC : Ctx (RefP b s N) Q w0 w rows) (mask : ByteArray) (hm : mask.size ≤ 9223372036854775807) (t : St) (ht : s.loss mask = t) (hi : t.InvW N) :
    Calls Tryz.prog 29 #[.pointer (some ⟨b, 0, none⟩), .string mask] w fun e w' => e = .returned (.tuple #[]) ∧ Ctx (RefP b t N) Q w0 w' rows := by
  subst ht
  exact r_post hC _ (fun S r h1 h2 h3 h4 => ⟨r.loss mask, loss_rel h2 mask, hi, rinv_loss h4 mask, refat_loss h1 (kept_rel h2 h3).1 (by rw [h2.a]; exact h3.1.size) mask hm⟩)
theorem c_rselect_no {Q : Own} {w0 w : World} {b : Nat} {s : St} {N : Int} {rows : List (Value × List Value)} (hC : Ctx (RefP b s N) Q w0 w rows) (hsel : s.sel = true) :
    Calls Tryz.prog 18 #[.pointer (some ⟨b, 0, none⟩)] w fun e w' => e = .returned (.int .i64 600) ∧ w = w' := by
  obtain ⟨S, ⟨A, B, ⟨r, hA, h2, -⟩, _⟩, _⟩ := hC.all
  obtain ⟨wv, bv, iv, hv, -, -⟩ := hA
  exact ref_select_no b r wv bv iv w hv.cb (h2.sel.trans hsel)
theorem c_rdeselect_no {Q : Own} {w0 w : World} {b : Nat} {s : St} {N : Int} {rows : List (Value × List Value)} (hC : Ctx (RefP b s N) Q w0 w rows) (hsel : s.sel = false) :
    Calls Tryz.prog 20 #[.pointer (some ⟨b, 0, none⟩)] w fun e w' => e = .returned (.int .i64 600) ∧ w = w' := by
  obtain ⟨S, ⟨A, B, ⟨r, hA, h2, -⟩, _⟩, _⟩ := hC.all
  obtain ⟨wv, bv, iv, hv, -, -⟩ := hA
  exact ref_deselect_no b r wv bv iv w hv.cb (h2.sel.trans hsel)
theorem c_rstatus {Q : Own} {w0 w : World} {b : Nat} {s : St} {N : Int} {rows : List (Value × List Value)} (hC : Ctx (RefP b s N) Q w0 w rows) :
    Calls Tryz.prog 31 #[.pointer (some ⟨b, 0, none⟩)] w fun e w' => e = .returned (.tuple #[.int .i64 s.first, .int .i64 s.second]) ∧ Upd none' w w' := by
  obtain ⟨S, ⟨A, B, ⟨r, hA, h2, -⟩, _⟩, _⟩ := hC.all
  exact refat_status hA h2
theorem c_rfields {Q : Own} {w0 w : World} {b : Nat} {s : St} {N : Int} {rows : List (Value × List Value)} (hC : Ctx (RefP b s N) Q w0 w rows) :
    b < w.heap.size ∧ w.cell? ⟨b, 0, none⟩ = some (.string s.a) ∧ ∃ a c, w.cell? ⟨b, 3, none⟩ = some (.slice a 8 c) ∧ RS w (.slice a 8 c) (ints (wl s.wipes)) := by
  obtain ⟨S, ⟨A, B, ⟨r, hA, h2, -⟩, _⟩, _⟩ := hC.all
  obtain ⟨wv, bv, iv, hv, -, -⟩ := hA
  have c0 := hv.cb.cell 0
  have c3 := hv.cb.cell 3
  simp only [RSt.list, List.getElem?_cons_succ, List.getElem?_cons_zero] at c0 c3
  have hw := hv.wip
  rw [h2.wipes] at hw
  obtain ⟨a, c, e, -⟩ := hw.form
  rw [show (ints (wl s.wipes)).length = 8 from rfl] at e
  subst e
  exact ⟨hv.cb.lt, by rw [c0, h2.a], a, c, c3, hw.rs (by show 8 ≤ 1048576; decide)⟩
theorem c_rclock_bad (b : Nat) (x : Int) (w : World) (hx : x < 0 ∨ 15 < x) :
    Calls Tryz.prog 22 #[.pointer (some ⟨b, 0, none⟩), .int .i64 x] w fun e w' => e = .returned (.tuple #[.int .i64 0, .int .i64 600]) ∧ w = w' := by
  rcases hx with h | h
  · go_enter Tryz.func22, Tryz.ntmps22
    go_wp2
    go_ret2
    exact ⟨rfl, rfl⟩
  · have h1 : ¬ x < 0 := by omega
    have h2 : x > 15 := h
    go_enter Tryz.func22, Tryz.ntmps22
    go_wp2
    go_ret2
    exact ⟨rfl, rfl⟩
theorem ref_new_no (a : ByteArray) (w : World) (ha : ¬ a.size = 4096) :
    Calls Tryz.prog 15 #[.string a] w fun e w' => e = .returned (.tuple #[.pointer none, .int .i64 600]) ∧ w = w' := by
  have hab : ((a.size : Int) == 4096) = false := by
    have : ¬ (a.size : Int) = 4096 := by omega
    simpa using this
  have hmay : ∀ w1, Calls Tryz.prog 91 #[.string a] w1 fun e w' => e = .returned (.bool false) ∧ w1 = w' := by
    intro w1
    go_enter Tryz.func91, Tryz.ntmps91
    go_wp2
    go_ret
    exact ⟨rfl, rfl⟩
  go_enter Tryz.func15, Tryz.ntmps15
  go_wp2_with (go_at_call 91; refine (hmay _).mono ?_; rintro e w1 ⟨rfl, rfl⟩)
  go_ret2
  exact ⟨rfl, rfl⟩
theorem Ctx.besideR {P P' Q : Own} {w0 w w' : World} {rows : List (Value × List Value)} (hC : Ctx P Q w0 w rows) (hP' : P'.Ok) (hu : Upd none' w w') {A' : Nat → Prop} (hA' : P' w' A') (hs : ∀ k, A' k → w.heap.size ≤ k) : Ctx P' (P.star Q) w0 w' rows := by
  obtain ⟨S, h1, h2, h3⟩ := hC.all
  have h0 := hC.upd.size
  have hlt := (hC.okP.star hC.okQ).lt h1
  refine ⟨hP', hC.okP.star hC.okQ, hC.upd.trans hu (fun _ _ f => f), fun k => A' k ∨ S k, ⟨A', S, hA', (hC.okP.star hC.okQ).frame h1 hu (fun _ _ f => f), fun k ha hb => ?_, fun _ => Iff.rfl⟩, ?_, ?_⟩
  · have := hs k ha; have := hlt k hb; omega
  · rintro k (h4 | h4)
    · have := hs k h4; omega
    · exact h2 k h4
  · intro r hr
    refine (h3 r hr).upd hu (fun _ f => f.elim) ?_
    rintro k (h6 | h6)
    · exact .inr (hs k h6)
    · exact .inl h6
/-- A new chip of the document's, beside all others. -/
theorem c_rnew {P Q : Own} {w0 w : World} {rows : List (Value × List Value)} (hC : Ctx P Q w0 w rows) (a : ByteArray) (ha : a.size = 4096) :
    Calls Tryz.prog 15 #[.string a] w fun e w' => ∃ b, e = .returned (.tuple #[.pointer (some ⟨b, 0, none⟩), .int .i64 0]) ∧ Ctx (RefP b (St.new a) 0) (P.star Q) w0 w' rows := by
  refine (ref_new a w ha).mono ?_
  rintro e w' ⟨r, v, rfl, hr, hB, hR, hv, hU⟩
  refine ⟨r, rfl, hC.besideR (refP_ok r (St.new a) 0) hU (A' := refSet r v (.slice none 0 0) (.slice none 0 0)) ⟨RSt.new a, ⟨v, .slice none 0 0, .slice none 0 0, ⟨hB, hR, Row.nil _ _, Row.nil _ _, fun k hk => (hv k hk).2, fun k hk => by simp [Value.ownBlock] at hk, fun k hk => by simp [Value.ownBlock] at hk⟩, fun k hk => by simp [Value.ownBlock] at hk, rfl⟩, new_rel a, new_inv a ha, rinv_new a⟩ ?_⟩
  rintro k (e | e | e | e)
  · omega
  · exact (hv k e).1
  · simp [Value.ownBlock] at e
  · simp [Value.ownBlock] at e
end Go.Proofs.YteombggfmeilaaaGreat
