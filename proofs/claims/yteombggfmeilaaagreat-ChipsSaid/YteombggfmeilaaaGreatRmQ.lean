/- The walk over the document's chip's Deselect. -/
import Derived.Test.YteombggfmeilaaaGreatRmJ
namespace Go.Proofs.YteombggfmeilaaaGreat
open Go.RowKit
/-- The document's chip in memory, whole. -/
structure RefV (w : World) (b : Nat) (r : RSt) (wv bv iv : Value) : Prop where
  cb : RB w b r wv bv iv
  wip : Row w 3 wv (ints (wl r.wipes))
  busy : Row w 3 bv (ints r.busy)
  inn : Row w 3 iv (ints r.inn)
  sw : ∀ k, wv.ownBlock = some k → k ≠ b
  sb : ∀ k, bv.ownBlock = some k → k ≠ b ∧ wv.ownBlock ≠ some k
  si : ∀ k, iv.ownBlock = some k → k ≠ b ∧ wv.ownBlock ≠ some k
def DPost (b : Nat) (wv bv iv : Value) (w : World) (r' : RSt) (e : Ending) (w' : World) : Prop :=
  e = .returned (.int .i64 0) ∧ ∃ bv', RB w' b r' wv bv' iv ∧ Row w' 3 bv' (ints r'.busy) ∧ Row w' 3 wv (ints (wl r'.wipes)) ∧ (∀ k, bv'.ownBlock = some k → bv.ownBlock = some k ∨ w.heap.size ≤ k) ∧ Upd (fun k => k = b ∨ wv.ownBlock = some k) w w'
theorem dsame {b : Nat} {wv bv iv : Value} {w w' : World} {r r' : RSt} (h : RefV w b r wv bv iv) (e : Ending) (he : e = .returned (.int .i64 0)) (hB : RB w' b r' wv bv iv) (hU : Upd (fun k => k = b) w w') (h1 : r'.busy = r.busy) (h2 : r'.wipes = r.wipes) : DPost b wv bv iv w r' e w' :=
  ⟨he, bv, hB, by rw [h1]; exact h.busy.upd hU (fun k hk => (h.sb k hk).1), by rw [h2]; exact h.wip.upd hU h.sw, fun k hk => .inl hk, hU.mono (fun _ _ e => .inl e)⟩
set_option maxRecDepth 100000 in
theorem ref_deselect_no (b : Nat) (r : RSt) (wv bv iv : Value) (w : World) (h : RB w b r wv bv iv) (hs : r.sel = false) :
    Calls Tryz.prog 20 #[.pointer (some ⟨b, 0, none⟩)] w fun e w' => e = .returned (.int .i64 600) ∧ w = w' := by
  have c4 := h.cell 4
  simp only [RSt.list, List.getElem?_cons_succ, List.getElem?_cons_zero] at c4
  rw [hs] at c4
  clear hs h
  go_enter Tryz.func20, Tryz.ntmps20
  go_wp2
  go_ret
  exact ⟨rfl, rfl⟩
theorem rendsO0 {r : RSt} (ht : r.taken = true) (ho : r.op = opOf 0) : r.ends = r := by unfold RSt.ends; rw [ht, ho]; rfl
def RSt.off (r : RSt) : RSt := { r with sel := false }
set_option maxRecDepth 100000 in
set_option maxHeartbeats 1000000 in
theorem ref_des_untaken (b : Nat) (r : RSt) (wv bv iv : Value) (w : World) (h : RefV w b r wv bv iv) (hs : r.sel = true) (ht : r.taken = false) :
    Calls Tryz.prog 20 #[.pointer (some ⟨b, 0, none⟩)] w (DPost b wv bv iv w r.deselect) := by
  have c4 := h.cb.cell 4
  have c19 := h.cb.cell 19
  have f4 := h.cb.frozen 4
  have hlt := h.cb.lt
  simp only [RSt.list, List.getElem?_cons_succ, List.getElem?_cons_zero] at c4 c19
  rw [hs] at c4
  rw [ht] at c19
  have HR : Hid (r.deselect = r.off) := Lib.hid (by unfold RSt.deselect RSt.ends; rw [if_pos ht]; rfl)
  have HH := Lib.hid h
  clear hs ht h
  go_enter Tryz.func20, Tryz.ntmps20
  go_wp2
  go_ret
  rw [HR.out]
  exact dsame HH.out _ rfl (HH.out.cb.set 4 _) ((Upd.refl (fun k => k = b) w).setCell ⟨b, 4, none⟩ _ (fun _ => rfl)) rfl rfl
set_option maxRecDepth 100000 in
set_option maxHeartbeats 4000000 in
theorem ref_des_none (b : Nat) (r : RSt) (wv bv iv : Value) (w : World) (h : RefV w b r wv bv iv) (hs : r.sel = true) (ht : r.taken = true) (k : Int) (hk : k = 0 ∨ k = 3 ∨ k = 5 ∨ k = 53 ∨ k = 90 ∨ k = 107 ∨ k = 159) (hop : r.op = opOf k) :
    Calls Tryz.prog 20 #[.pointer (some ⟨b, 0, none⟩)] w (DPost b wv bv iv w r.deselect) := by
  have hfr : ∀ i, w.frozen? ⟨b, i, none⟩ = false := fun i => h.cb.frozen i
  have c4 := h.cb.cell 4
  have c13 := h.cb.cell 13
  have c18 := h.cb.cell 18
  have c19 := h.cb.cell 19
  have c23 := h.cb.cell 23
  have c28 := h.cb.cell 28
  have f4 := hfr 4
  have hlt := h.cb.lt
  simp only [RSt.list, List.getElem?_cons_succ, List.getElem?_cons_zero] at c4 c13 c18 c19 c23 c28
  rw [hs] at c4
  rw [ht] at c19
  have HR : Hid (r.deselect = r.off) := Lib.hid (by
    rcases hk with e | e
    · subst e
      exact rendsO0 (r := { r with sel := false }) ht hop
    · exact rendsO (r := { r with sel := false }) ht e hop)
  rw [hop] at c13 c18
  have HH := Lib.hid h
  clear hs ht h hfr hop
  by_cases hp : r.part = 4
  · rw [hp] at c23
    clear hp
    rcases hk with e | e | e | e | e | e | e <;> subst e
    all_goals
      go_enter Tryz.func20, Tryz.ntmps20
      go_wp2
      go_ret
      rw [HR.out]
      exact dsame HH.out _ rfl (HH.out.cb.set 4 _) ((Upd.refl (fun k => k = b) w).setCell ⟨b, 4, none⟩ _ (fun _ => rfl)) rfl rfl
  · have hpb : (r.part == 4) = false := by simpa using hp
    clear hp
    rcases hk with e | e | e | e | e | e | e <;> subst e
    all_goals
      go_enter Tryz.func20, Tryz.ntmps20
      go_wp2
      go_ret
      rw [HR.out]
      exact dsame HH.out _ rfl (HH.out.cb.set 4 _) ((Upd.refl (fun k => k = b) w).setCell ⟨b, 4, none⟩ _ (fun _ => rfl)) rfl rfl
set_option maxRecDepth 100000 in
set_option maxHeartbeats 4000000 in
theorem ref_des_goes (b : Nat) (r : RSt) (wv bv iv : Value) (w : World) (h : RefV w b r wv bv iv) (hs : r.sel = true) (ht : r.taken = true) (hop : r.op = opOf 235) :
    Calls Tryz.prog 20 #[.pointer (some ⟨b, 0, none⟩)] w (DPost b wv bv iv w r.deselect) := by
  have hfr : ∀ i, w.frozen? ⟨b, i, none⟩ = false := fun i => h.cb.frozen i
  have c4 := h.cb.cell 4
  have c6 := h.cb.cell 6
  have c13 := h.cb.cell 13
  have c19 := h.cb.cell 19
  have c25 := h.cb.cell 25
  have c26 := h.cb.cell 26
  have f4 := hfr 4
  have f6 := hfr 6
  have hlt := h.cb.lt
  simp only [RSt.list, List.getElem?_cons_succ, List.getElem?_cons_zero] at c4 c6 c13 c19 c25 c26
  rw [hs] at c4
  rw [ht] at c19
  rw [hop] at c13
  have HR : Hid (r.deselect = { r with sel := false, goes := r.modes && decide (r.mode = 160) }) := Lib.hid (rends235 (r := { r with sel := false }) ht hop)
  have HH := Lib.hid h
  clear hs ht h hfr hop
  have hU : ∀ x : Bool, Upd (fun k => k = b) w ((w.setCell ⟨b, 4, none⟩ (.bool false)).setCell ⟨b, 6, none⟩ (.bool x)) := fun x => ((Upd.refl (fun k => k = b) w).setCell ⟨b, 4, none⟩ _ (fun _ => rfl)).setCell ⟨b, 6, none⟩ _ (fun _ => rfl)
  cases hm : r.modes with
  | false =>
    have hg : (r.modes && decide (r.mode = 160)) = false := by rw [hm]; rfl
    rw [hm] at c26
    rw [hg] at HR
    clear hm hg
    go_enter Tryz.func20, Tryz.ntmps20
    go_wp2
    go_ret
    rw [HR.out]
    exact dsame HH.out _ rfl ((HH.out.cb.set 4 _).set 6 (.bool false)) (hU _) rfl rfl
  | true =>
    have hg : (r.modes && decide (r.mode = 160)) = (r.mode == 160) := by
      rw [hm]
      by_cases h1 : r.mode = 160 <;> simp [h1]
    rw [hm] at c26
    rw [hg] at HR
    clear hm hg
    go_enter Tryz.func20, Tryz.ntmps20
    go_wp2
    go_ret
    rw [HR.out]
    exact dsame HH.out _ rfl ((HH.out.cb.set 4 _).set 6 (.bool (r.mode == 160))) (hU _) rfl rfl
set_option maxRecDepth 100000 in
set_option maxHeartbeats 4000000 in
theorem ref_des_en (b : Nat) (r : RSt) (wv bv iv : Value) (w : World) (h : RefV w b r wv bv iv) (hs : r.sel = true) (ht : r.taken = true) (hop : r.op = opOf 6) :
    Calls Tryz.prog 20 #[.pointer (some ⟨b, 0, none⟩)] w (DPost b wv bv iv w r.deselect) := by
  have hfr : ∀ i, w.frozen? ⟨b, i, none⟩ = false := fun i => h.cb.frozen i
  have c4 := h.cb.cell 4
  have c5 := h.cb.cell 5
  have c13 := h.cb.cell 13
  have c18 := h.cb.cell 18
  have c19 := h.cb.cell 19
  have c23 := h.cb.cell 23
  have c28 := h.cb.cell 28
  have f4 := hfr 4
  have f5 := hfr 5
  have hlt := h.cb.lt
  simp only [RSt.list, List.getElem?_cons_succ, List.getElem?_cons_zero] at c4 c5 c13 c18 c19 c23 c28
  rw [hs] at c4
  rw [ht] at c19
  rw [hop] at c13 c18
  have HR : Hid (r.deselect = { r with sel := false, en := r.en || r.alone }) := Lib.hid (rends6 (r := { r with sel := false }) ht hop)
  have HH := Lib.hid h
  clear hs ht h hfr hop
  have hU : ∀ x : Bool, Upd (fun k => k = b) w ((w.setCell ⟨b, 4, none⟩ (.bool false)).setCell ⟨b, 5, none⟩ (.bool x)) := fun x => ((Upd.refl (fun k => k = b) w).setCell ⟨b, 4, none⟩ _ (fun _ => rfl)).setCell ⟨b, 5, none⟩ _ (fun _ => rfl)
  have HU := Lib.hid hU
  have hal : ∀ x y : Bool, (r.part == 4) = x → (r.clocks == 0) = y → r.alone = (x && y) := by
    intro x y e1 e2
    unfold RSt.alone
    rw [← e1, ← e2]
    by_cases h1 : r.part = 4 <;> by_cases h2 : r.clocks = 0 <;> simp [h1, h2]
  obtain ⟨x, hx⟩ : ∃ x, (r.part == 4) = x := ⟨_, rfl⟩
  obtain ⟨y, hy⟩ : ∃ y, (r.clocks == 0) = y := ⟨_, rfl⟩
  obtain ⟨z, hz⟩ : ∃ z, r.en = z := ⟨_, rfl⟩
  have ha := hal x y hx hy
  rw [ha, hz] at HR
  rw [hz] at c5
  clear hU hal ha
  cases x <;> cases y <;> cases z
  all_goals
    go_enter Tryz.func20, Tryz.ntmps20
    go_wp2
    go_ret
    rw [HR.out]
    exact dsame HH.out _ rfl ((HH.out.cb.set 4 _).set 5 (.bool _)) (HU.out _) rfl rfl
set_option maxRecDepth 100000 in
set_option maxHeartbeats 4000000 in
theorem ref_des_dis (b : Nat) (r : RSt) (wv bv iv : Value) (w : World) (h : RefV w b r wv bv iv) (hs : r.sel = true) (ht : r.taken = true) (hop : r.op = opOf 4) :
    Calls Tryz.prog 20 #[.pointer (some ⟨b, 0, none⟩)] w (DPost b wv bv iv w r.deselect) := by
  have hfr : ∀ i, w.frozen? ⟨b, i, none⟩ = false := fun i => h.cb.frozen i
  have c4 := h.cb.cell 4
  have c5 := h.cb.cell 5
  have c13 := h.cb.cell 13
  have c18 := h.cb.cell 18
  have c19 := h.cb.cell 19
  have c23 := h.cb.cell 23
  have c28 := h.cb.cell 28
  have f4 := hfr 4
  have f5 := hfr 5
  have hlt := h.cb.lt
  simp only [RSt.list, List.getElem?_cons_succ, List.getElem?_cons_zero] at c4 c5 c13 c18 c19 c23 c28
  rw [hs] at c4
  rw [ht] at c19
  rw [hop] at c13 c18
  have HR : Hid (r.deselect = { r with sel := false, en := r.en && !r.alone }) := Lib.hid (rends4 (r := { r with sel := false }) ht hop)
  have HH := Lib.hid h
  clear hs ht h hfr hop
  have hU : ∀ x : Bool, Upd (fun k => k = b) w ((w.setCell ⟨b, 4, none⟩ (.bool false)).setCell ⟨b, 5, none⟩ (.bool x)) := fun x => ((Upd.refl (fun k => k = b) w).setCell ⟨b, 4, none⟩ _ (fun _ => rfl)).setCell ⟨b, 5, none⟩ _ (fun _ => rfl)
  have HU := Lib.hid hU
  have hal : ∀ x y : Bool, (r.part == 4) = x → (r.clocks == 0) = y → r.alone = (x && y) := by
    intro x y e1 e2
    unfold RSt.alone
    rw [← e1, ← e2]
    by_cases h1 : r.part = 4 <;> by_cases h2 : r.clocks = 0 <;> simp [h1, h2]
  obtain ⟨x, hx⟩ : ∃ x, (r.part == 4) = x := ⟨_, rfl⟩
  obtain ⟨y, hy⟩ : ∃ y, (r.clocks == 0) = y := ⟨_, rfl⟩
  obtain ⟨z, hz⟩ : ∃ z, r.en = z := ⟨_, rfl⟩
  have ha := hal x y hx hy
  rw [ha, hz] at HR
  rw [hz] at c5
  clear hU hal ha
  cases x <;> cases y <;> cases z
  all_goals
    go_enter Tryz.func20, Tryz.ntmps20
    go_wp2
    go_ret
    rw [HR.out]
    exact dsame HH.out _ rfl ((HH.out.cb.set 4 _).set 5 (.bool _)) (HU.out _) rfl rfl
set_option maxRecDepth 100000 in
set_option maxHeartbeats 4000000 in
theorem ref_des_susp (b : Nat) (r : RSt) (wv bv iv : Value) (w : World) (h : RefV w b r wv bv iv) (hs : r.sel = true) (ht : r.taken = true) (hop : r.op = opOf 117) :
    Calls Tryz.prog 20 #[.pointer (some ⟨b, 0, none⟩)] w (DPost b wv bv iv w r.deselect) := by
  have hfr : ∀ i, w.frozen? ⟨b, i, none⟩ = false := fun i => h.cb.frozen i
  have c4 := h.cb.cell 4
  have c7 := h.cb.cell 7
  have c11 := h.cb.cell 11
  have c13 := h.cb.cell 13
  have c18 := h.cb.cell 18
  have c19 := h.cb.cell 19
  have c23 := h.cb.cell 23
  have c28 := h.cb.cell 28
  have f4 := hfr 4
  have f11 := hfr 11
  have hlt := h.cb.lt
  simp only [RSt.list, List.getElem?_cons_succ, List.getElem?_cons_zero] at c4 c7 c11 c13 c18 c19 c23 c28
  rw [hs] at c4
  rw [ht] at c19
  rw [hop] at c13 c18
  have HR : Hid (r.deselect = { r with sel := false, susp := r.susp || (r.alone && decide (r.kind = 32)) }) := Lib.hid (rends117 (r := { r with sel := false }) ht hop)
  have HH := Lib.hid h
  clear hs ht h hfr hop
  have hU : ∀ x : Bool, Upd (fun k => k = b) w ((w.setCell ⟨b, 4, none⟩ (.bool false)).setCell ⟨b, 11, none⟩ (.bool x)) := fun x => ((Upd.refl (fun k => k = b) w).setCell ⟨b, 4, none⟩ _ (fun _ => rfl)).setCell ⟨b, 11, none⟩ _ (fun _ => rfl)
  have HU := Lib.hid hU
  have hal : ∀ x y : Bool, (r.part == 4) = x → (r.clocks == 0) = y → r.alone = (x && y) := by
    intro x y e1 e2
    unfold RSt.alone
    rw [← e1, ← e2]
    by_cases h1 : r.part = 4 <;> by_cases h2 : r.clocks = 0 <;> simp [h1, h2]
  obtain ⟨x, hx⟩ : ∃ x, (r.part == 4) = x := ⟨_, rfl⟩
  obtain ⟨y, hy⟩ : ∃ y, (r.clocks == 0) = y := ⟨_, rfl⟩
  obtain ⟨z, hz⟩ : ∃ z, r.susp = z := ⟨_, rfl⟩
  have ha := hal x y hx hy
  rw [ha, hz] at HR
  rw [hz] at c11
  clear hU hal ha
  obtain ⟨u, hu⟩ : ∃ u, (r.kind == 32) = u := ⟨_, rfl⟩
  have hud : decide (r.kind = 32) = u := by rw [← hu]; by_cases h1 : r.kind = 32 <;> simp [h1]
  rw [hud] at HR
  clear hud
  cases x <;> cases y <;> cases z <;> cases u
  all_goals
    go_enter Tryz.func20, Tryz.ntmps20
    go_wp2
    go_ret
    rw [HR.out]
    exact dsame HH.out _ rfl ((HH.out.cb.set 4 _).set 11 (.bool _)) (HU.out _) rfl rfl
set_option maxRecDepth 100000 in
set_option maxHeartbeats 4000000 in
theorem ref_des_resume (b : Nat) (r : RSt) (wv bv iv : Value) (w : World) (h : RefV w b r wv bv iv) (hs : r.sel = true) (ht : r.taken = true) (hop : r.op = opOf 122) :
    Calls Tryz.prog 20 #[.pointer (some ⟨b, 0, none⟩)] w (DPost b wv bv iv w r.deselect) := by
  have hfr : ∀ i, w.frozen? ⟨b, i, none⟩ = false := fun i => h.cb.frozen i
  have c4 := h.cb.cell 4
  have c11 := h.cb.cell 11
  have c13 := h.cb.cell 13
  have c18 := h.cb.cell 18
  have c19 := h.cb.cell 19
  have c23 := h.cb.cell 23
  have c28 := h.cb.cell 28
  have f4 := hfr 4
  have f11 := hfr 11
  have hlt := h.cb.lt
  simp only [RSt.list, List.getElem?_cons_succ, List.getElem?_cons_zero] at c4 c11 c13 c18 c19 c23 c28
  rw [hs] at c4
  rw [ht] at c19
  rw [hop] at c13 c18
  have HR : Hid (r.deselect = { r with sel := false, susp := r.susp && !r.alone }) := Lib.hid (rends122 (r := { r with sel := false }) ht hop)
  have HH := Lib.hid h
  clear hs ht h hfr hop
  have hU : ∀ x : Bool, Upd (fun k => k = b) w ((w.setCell ⟨b, 4, none⟩ (.bool false)).setCell ⟨b, 11, none⟩ (.bool x)) := fun x => ((Upd.refl (fun k => k = b) w).setCell ⟨b, 4, none⟩ _ (fun _ => rfl)).setCell ⟨b, 11, none⟩ _ (fun _ => rfl)
  have HU := Lib.hid hU
  have hal : ∀ x y : Bool, (r.part == 4) = x → (r.clocks == 0) = y → r.alone = (x && y) := by
    intro x y e1 e2
    unfold RSt.alone
    rw [← e1, ← e2]
    by_cases h1 : r.part = 4 <;> by_cases h2 : r.clocks = 0 <;> simp [h1, h2]
  obtain ⟨x, hx⟩ : ∃ x, (r.part == 4) = x := ⟨_, rfl⟩
  obtain ⟨y, hy⟩ : ∃ y, (r.clocks == 0) = y := ⟨_, rfl⟩
  obtain ⟨z, hz⟩ : ∃ z, r.susp = z := ⟨_, rfl⟩
  have ha := hal x y hx hy
  rw [ha, hz] at HR
  rw [hz] at c11
  clear hU hal ha
  cases x <;> cases y <;> cases z
  all_goals
    go_enter Tryz.func20, Tryz.ntmps20
    go_wp2
    go_ret
    rw [HR.out]
    exact dsame HH.out _ rfl ((HH.out.cb.set 4 _).set 11 (.bool _)) (HU.out _) rfl rfl
end Go.Proofs.YteombggfmeilaaaGreat
