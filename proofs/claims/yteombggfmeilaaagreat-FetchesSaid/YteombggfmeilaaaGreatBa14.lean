/- Law0 ChipWp PureG WaitP Awake14 -/
import Derived.Test.YteombggfmeilaaaGreatBa00
import Derived.Lib.SliceRun
import Derived.Test.YteombggfmeilaaaGreatBa05
import Derived.Test.YteombggfmeilaaaGreatBa12
import Derived.Test.YteombggfmeilaaaGreatBa13
import Derived.Test.YteombggfmeilaaaGreatBa09
import Derived.Test.YteombggfmeilaaaGreatBa06
/- Law0. -/
namespace Go.Proofs.YteombggfmeilaaaGreat
open Go.RowKit
theorem num_any (n : Int) (w : World) :
    Calls Tryz.prog 16 #[.int .i64 n] w fun e w' => e = .returned (.int .i64 n) ∧ w = w' := by
  go_enter Tryz.func16, Tryz.ntmps16
  go_wp2
  go_ret
  exact ⟨rfl, rfl⟩
def sameB {α : Type} [DecidableEq α] (xs ys : List α) : Bool := decide (xs = ys)
theorem same_all {α : Type} [DecidableEq α] [Inhabited α] (d : α) (xs ys : List α) (hl : xs.length = ys.length) (h : ∀ j, j < xs.length → xs.getD j d = ys.getD j d) : sameB xs ys = true := by
  refine decide_eq_true (List.ext_getElem hl fun j h1 h2 => ?_)
  have := h j h1
  simpa [List.getD_eq_getElem?_getD, List.getElem?_eq_getElem h1, List.getElem?_eq_getElem h2] using this
theorem same_not {α : Type} [DecidableEq α] [Inhabited α] (d : α) (xs ys : List α) (j : Nat) (h : xs.getD j d ≠ ys.getD j d) : sameB xs ys = false :=
  decide_eq_false fun e => h (by rw [e])
set_option maxHeartbeats 1000000 in
theorem same_ints (w : World) (v u : Value) (xs ys : List Int) (hv : RS w v (ints xs)) (hu : RS w u (ints ys)) :
    Calls Tryz.prog 33 #[v, u] w fun e w' => e = .returned (.bool (sameB xs ys)) ∧ Upd none' w w' := by
  obtain ⟨h1, a, cap, rfl, h4, h5⟩ := hv
  obtain ⟨h1', a', cap', rfl, h4', h5'⟩ := hu
  have hlen : (ints xs).length = xs.length := by simp [ints]
  have hlen' : (ints ys).length = ys.length := by simp [ints]
  rw [hlen] at h1 h4 h5
  rw [hlen'] at h1' h4' h5'
  rw [hlen, hlen']
  clear hlen hlen'
  by_cases hl : xs.length = ys.length
  · obtain ⟨n, hn⟩ : ∃ n, ys.length = n := ⟨_, rfl⟩
    rw [hn] at hl h1' h4' h5' ⊢
    rw [hl] at h1 h4 h5 ⊢
    have hxs : xs ≠ [] ∨ n = 0 := by by_cases h : xs = []; exact .inr (by rw [← hl, h]; rfl); exact .inl h
    have hys : ys ≠ [] ∨ n = 0 := by by_cases h : ys = []; exact .inr (by rw [← hn, h]; rfl); exact .inl h
    have HXS := Lib.hid hxs
    have HYS := Lib.hid hys
    clear hxs hys
    have HX := Lib.hid hl
    have HY := Lib.hid hn
    clear hl hn
    go_enter Tryz.func33, Tryz.ntmps33
    go_wp2_with fail
    go_loopw [5] (fun iv wr => ∃ i : Nat, i ≤ n ∧ iv = .int .i64 i ∧ Upd none' w wr ∧ ∀ j, j < i → xs.getD j 0 = ys.getD j 0) (fun iv _ => n - (intOf iv).toNat)
    case atStart => exact ⟨0, by omega, rfl, Upd.refl _ _, fun j hj => by omega⟩
    case round =>
      obtain ⟨i, hi, rfl, hU, hno⟩ := hrel
      by_cases hlt : i < n
      · obtain ⟨bb, oo, rfl, hbb, hcc⟩ := h5 (by intro h; rcases HXS.out with e | e; exact e (by simpa [ints] using h); omega)
        obtain ⟨bb', oo', rfl, hbb', hcc'⟩ := h5' (by intro h; rcases HYS.out with e | e; exact e (by simpa [ints] using h); omega)
        have hcell : wr.cell? ⟨bb, oo + i, none⟩ = some (.int .i64 (xs.getD i 0)) := by
          rw [hU.cell (p := ⟨bb, oo + i, none⟩) hbb (fun f => f), hcc i hlt]; simp [ints, List.getD_eq_getElem?_getD, List.getElem?_eq_getElem (show i < xs.length by rw [HX.out]; exact hlt)]
        have hcell' : wr.cell? ⟨bb', oo' + i, none⟩ = some (.int .i64 (ys.getD i 0)) := by
          rw [hU.cell (p := ⟨bb', oo' + i, none⟩) hbb' (fun f => f), hcc' i hlt]; simp [ints, List.getD_eq_getElem?_getD, List.getElem?_eq_getElem (show i < ys.length by rw [HY.out]; exact hlt)]
        clear hcc hcc'
        have HN : Hid (xs.getD i 0 ≠ ys.getD i 0 → sameB xs ys = false) := same_not 0 xs ys i
        have HS : Hid (xs.getD i 0 = ys.getD i 0 → ∀ j, j < i + 1 → xs.getD j 0 = ys.getD j 0) := fun e j hj => by
          rcases Nat.lt_succ_iff_lt_or_eq.1 hj with h | h
          · exact hno j h
          · subst h; exact e
        obtain ⟨x, hx⟩ : ∃ x, xs.getD i 0 = x := ⟨_, rfl⟩
        obtain ⟨y, hy⟩ : ∃ y, ys.getD i 0 = y := ⟨_, rfl⟩
        rw [hx] at hcell HN HS
        rw [hy] at hcell' HN HS
        clear hx hy hno
        by_cases he : x = y
        · subst he
          go_wp2_with fail
          go_region
          all_goals go_wp2
          all_goals exact ⟨⟨i + 1, by omega, by go_num, hU.drew, HS.out trivial⟩, by simp [intOf]; omega⟩
        · have hxy : (x == y) = false := by simpa using he
          go_wp2_with fail
          go_region
          all_goals go_wp2
          all_goals go_ret
          all_goals exact ⟨by rw [HN.out he]; rfl, hU.drew⟩
      · have hieq : i = n := by omega
        subst hieq
        go_wp2
        go_ret
        exact ⟨by rw [same_all 0 xs ys (by rw [HX.out, HY.out]) (fun j hj => hno j (by rw [HX.out] at hj; exact hj))]; rfl, hU⟩
  · have hs : sameB xs ys = false := decide_eq_false fun e => hl (by rw [e])
    have hb : ((xs.length : Int) == (ys.length : Int)) = false := by simp; omega
    have hne : ¬ ((xs.length : Int) = (ys.length : Int)) := by omega
    go_enter Tryz.func33, Tryz.ntmps33
    go_wp2
    go_ret
    exact ⟨by rw [hs]; rfl, Upd.refl _ _⟩
theorem RS.drop {w : World} {g o n c : Nat} {vs : List Value} (h : RS w (.slice (some ⟨g, o, none⟩) n c) vs) (k : Nat) (hk : k ≤ n) : RS w (.slice (some ⟨g, o + k, none⟩) (n - k) (c - k)) (vs.drop k) := by
  obtain ⟨h1, a, cap, e, h4, h5⟩ := h
  simp only [Value.slice.injEq] at e
  obtain ⟨rfl, rfl, rfl⟩ := e
  refine ⟨by rw [List.length_drop]; omega, some ⟨g, o + k, none⟩, c - k, by rw [List.length_drop], by rw [List.length_drop]; omega, fun hn => ?_⟩
  obtain ⟨b, o', e2, h7, h8⟩ := h5 (by intro h; rw [h] at hn; simp at hn)
  simp only [Option.some.injEq, Addr.mk.injEq] at e2
  obtain ⟨rfl, rfl, _⟩ := e2
  refine ⟨g, o + k, rfl, h7, fun j hj => ?_⟩
  rw [List.length_drop] at hj
  rw [List.getElem?_drop, show o + k + j = o + (k + j) by omega]
  exact h8 (k + j) (by omega)
end Go.Proofs.YteombggfmeilaaaGreat
/- ChipWp. -/
namespace Go.Proofs.YteombggfmeilaaaGreat
open Go.RowKit
def St.wipesL (s : St) : List Int := [s.wipes 0, s.wipes 1, s.wipes 2, s.wipes 3, s.wipes 4, s.wipes 5, s.wipes 6, s.wipes 7]
set_option maxHeartbeats 1000000 in
theorem chip_wipes (b : Nat) (s : St) (S : Nat → Prop) (w : World) (hA : ChipAt w b s S) :
    Calls Tryz.prog 32 #[.pointer (some ⟨b, 0, none⟩)] w fun e w' => ∃ v', e = .returned v' ∧ Row w' 3 v' (ints s.wipesL) ∧ (∀ k, v'.ownBlock = some k → w.heap.size ≤ k) ∧ Upd none' w w' := by
  obtain ⟨jv, bv, dv, hv, rfl⟩ := hA
  have hr : RS w (.slice (some ⟨b, 3, none⟩) 8 8) (ints s.wipesL) := by
    refine ⟨by show (8 : Nat) * 8 ≤ _; decide, some ⟨b, 3, none⟩, 8, rfl, Nat.le_refl _, fun _ => ⟨b, 3, rfl, hv.cb.lt, fun j hj => ?_⟩⟩
    have hj8 : j < 8 := hj
    rw [hv.cb.cell]
    rcases (show j = 0 ∨ j = 1 ∨ j = 2 ∨ j = 3 ∨ j = 4 ∨ j = 5 ∨ j = 6 ∨ j = 7 by omega) with rfl | rfl | rfl | rfl | rfl | rfl | rfl | rfl <;> rfl
  have HC := Lib.hid (clone_ints w _ s.wipesL hr (by unfold St.wipesL; exact List.cons_ne_nil _ _) (by show (8 : Nat) ≤ 4096; decide))
  clear hr
  go_enter Tryz.func32, Tryz.ntmps32
  go_wp2_with (go_at_call 105; refine HC.out.mono ?_; rintro e w1 ⟨v', rfl, hR, hf, hU⟩)
  go_ret
  exact ⟨v', rfl, hR, hf, hU⟩
end Go.Proofs.YteombggfmeilaaaGreat
/- PureG. -/
namespace Go.Proofs.YteombggfmeilaaaGreat
open Go.RowKit
def St.er (s : St) (A : Int) : St := { s with sel := true, op := opOf 32, stage := 7, left := 0, got := 0, addr := A, mode := 0, moded := false, data := [], told := 0, now := 0, beyond := false }
theorem er_head (s : St) (hg : s.goes = false) (hj : s.job = none) (k : Int) : (runI s.select (wordL [32, 0, k / 256, k % 256])).1 = s.er (addrOf k) := by
  obtain ⟨a, prot, quad, wipes, tabled, sel, en, goes, job, busy, op, stage, left, got, addr, mode, moded, data, told, now, beyond⟩ := s
  change goes = false at hg
  change job = none at hj
  subst hg
  subst hj
  kernel_rfl
theorem er_off (s : St) (A : Int) : (s.er A).deselect = ({ (s.er A) with sel := false } : St).starts ⟨A / 512, 0, ⟨#[]⟩, 0, false⟩ := by
  obtain ⟨a, prot, quad, wipes, tabled, sel, en, goes, job, busy, op, stage, left, got, addr, mode, moded, data, told, now, beyond⟩ := s
  kernel_rfl
section
variable (a : ByteArray) (k : Int)
end
end Go.Proofs.YteombggfmeilaaaGreat
/- WaitP. -/
namespace Go.Proofs.YteombggfmeilaaaGreat
open Go.RowKit
def Cor.pass (c : Cor) (n : Int) : Cor := match c.job with
  | none => c
  | some j => if j.susp then c else if j.left ≤ n then { c with a := j.cells c.a all255, job := none, en := false } else { c with job := some { j with left := j.left - n } }
def Cor.works (c : Cor) : Bool := match c.job with
  | none => false
  | some j => !j.susp
def Cor.first (c : Cor) : Int := Go.Proofs.YteombggfmeilaaaGreat.first c.works c.en c.prot
theorem cor_pass {c : Cor} {j : Job} (hj : c.job = some j) (hs : j.susp = false) (n : Int) : c.pass n = if j.left ≤ n then { c with a := j.cells c.a all255, job := none, en := false } else { c with job := some { j with left := j.left - n } } := by
  unfold Cor.pass
  rw [hj]
  dsimp only
  rw [hs, if_neg (by decide)]
set_option maxRecDepth 100000 in
theorem ask_rest {c : Cor} {t : St} (h : At c t) (hg : c.goes = false) (hj : c.job = none) :
    ∃ d : Drv, Drv.phases ⟨t.select, [], 0, -1⟩ (cmdPhs (opOf 5) 0 [] 1) = (d, true) ∧ d.clocks = 16 ∧ d.out = [c.first] ∧ At c d.s.deselect := by
  have htg := h.goes.trans hg
  have htj := h.job.trans hj
  obtain ⟨hcor, hsel⟩ := h
  obtain ⟨a, prot, quad, wipes, tabled, sel, en, goes, job, busy, op, stage, left, got, addr, mode, moded, data, told, now, beyond⟩ := t
  change goes = false at htg
  change job = none at htj
  subst htg
  subst htj
  subst hcor
  refine ⟨_, (Prod.ext rfl (by kernel_rfl) : _ = (_, true)), by kernel_rfl, ?_, by kernel_rfl, by kernel_rfl⟩
  cases en <;> cases prot <;> kernel_rfl
set_option maxRecDepth 100000 in
theorem ask_susp {c : Cor} {t : St} (h : At c t) (hg : c.goes = false) (j : Job) (hj : c.job = some j) (hs : j.susp = true) :
    ∃ d : Drv, Drv.phases ⟨t.select, [], 0, -1⟩ (cmdPhs (opOf 5) 0 [] 1) = (d, true) ∧ d.clocks = 16 ∧ d.out = [c.first] ∧ At c d.s.deselect := by
  have htg := h.goes.trans hg
  have htj := h.job.trans hj
  obtain ⟨hcor, hsel⟩ := h
  obtain ⟨a, prot, quad, wipes, tabled, sel, en, goes, job, busy, op, stage, left, got, addr, mode, moded, data, told, now, beyond⟩ := t
  obtain ⟨js, jp, jd, jl, ju⟩ := j
  change goes = false at htg
  change job = _ at htj
  change ju = true at hs
  subst hs
  subst htg
  subst htj
  subst hcor
  refine ⟨_, (Prod.ext rfl (by kernel_rfl) : _ = (_, true)), by kernel_rfl, ?_, by kernel_rfl, by kernel_rfl⟩
  cases en <;> cases prot <;> kernel_rfl
set_option maxRecDepth 100000 in
theorem ask_near {c : Cor} {t : St} (h : At c t) (hg : c.goes = false) (j : Job) (hj : c.job = some j) (hs : j.susp = false) (h1 : 1 ≤ j.left) (h16 : j.left ≤ 16) :
    ∃ d : Drv, Drv.phases ⟨t.select, [], 0, -1⟩ (cmdPhs (opOf 5) 0 [] 1) = (d, true) ∧ d.clocks = 16 ∧ d.out = [(c.pass 9).first] ∧ At (c.pass 16) d.s.deselect := by
  have htg := h.goes.trans hg
  have htj := h.job.trans hj
  obtain ⟨hcor, hsel⟩ := h
  obtain ⟨a, prot, quad, wipes, tabled, sel, en, goes, job, busy, op, stage, left, got, addr, mode, moded, data, told, now, beyond⟩ := t
  obtain ⟨js, jp, jd, jl, ju⟩ := j
  change goes = false at htg
  change job = _ at htj
  change ju = false at hs
  subst hs
  subst htg
  subst htj
  subst hcor
  dsimp only at h1 h16
  rcases (show jl = 1 ∨ jl = 2 ∨ jl = 3 ∨ jl = 4 ∨ jl = 5 ∨ jl = 6 ∨ jl = 7 ∨ jl = 8 ∨ jl = 9 ∨ jl = 10 ∨ jl = 11 ∨ jl = 12 ∨ jl = 13 ∨ jl = 14 ∨ jl = 15 ∨ jl = 16 by omega) with rfl | rfl | rfl | rfl | rfl | rfl | rfl | rfl | rfl | rfl | rfl | rfl | rfl | rfl | rfl | rfl
  all_goals
    refine ⟨_, (Prod.ext rfl (by kernel_rfl) : _ = (_, true)), by kernel_rfl, ?_, by kernel_rfl, by kernel_rfl⟩
    cases en <;> cases prot <;> kernel_rfl
set_option maxRecDepth 100000 in
theorem ask_far {c : Cor} {t : St} (h : At c t) (hg : c.goes = false) (j : Job) (hj : c.job = some j) (hs : j.susp = false) (h16 : 16 < j.left) :
    ∃ d : Drv, Drv.phases ⟨t.select, [], 0, -1⟩ (cmdPhs (opOf 5) 0 [] 1) = (d, true) ∧ d.clocks = 16 ∧ d.out = [(c.pass 9).first] ∧ At (c.pass 16) d.s.deselect := by
  rw [cor_pass hj hs, cor_pass hj hs, if_neg (by omega), if_neg (by omega)]
  have htg := h.goes.trans hg
  have htj := h.job.trans hj
  have hf := phases_free (cmdPhs (opOf 5) 0 [] 1) ⟨t.select, [], 0, -1⟩ (show (-1 : Int) < 0 by decide)
  dsimp only at hf
  have hins : phsIns (cmdPhs (opOf 5) 0 [] 1) = byteBits 5 ++ List.replicate 8 15 := by kernel_rfl
  have hsj : t.select.job = some j := by
    unfold St.select
    dsimp only
    rw [htg, if_neg (by decide)]
    exact htj
  have hss : t.select.sel = true := by
    unfold St.select
    dsimp only
    rw [htg, if_neg (by decide)]
  have hb := runC_busy (byteBits 5 ++ List.replicate 8 15) t.select j hsj hs (by show ((16 : Nat) : Int) < j.left; exact h16) hss
  rw [hins, hb] at hf
  obtain ⟨hcor, hsel⟩ := h
  obtain ⟨a, prot, quad, wipes, tabled, sel, en, goes, job, busy, op, stage, left, got, addr, mode, moded, data, told, now, beyond⟩ := t
  obtain ⟨js, jp, jd, jl, ju⟩ := j
  change goes = false at htg
  change job = _ at htj
  change ju = false at hs
  subst hs
  subst htg
  subst htj
  subst hcor
  refine ⟨_, hf, by kernel_rfl, ?_, by kernel_rfl, by kernel_rfl⟩
  cases en <;> cases prot <;> kernel_rfl
theorem cpass_none {c : Cor} (hj : c.job = none) (n : Int) : c.pass n = c := by
  unfold Cor.pass
  rw [hj]
theorem cpass_susp {c : Cor} {j : Job} (hj : c.job = some j) (hs : j.susp = true) (n : Int) : c.pass n = c := by
  unfold Cor.pass
  rw [hj]
  dsimp only
  rw [if_pos hs]
theorem cpass_zero {c : Cor} (h : ∀ j, c.job = some j → 1 ≤ j.left) : c.pass 0 = c := by
  unfold Cor.pass
  cases hj : c.job with
  | none => rfl
  | some j =>
    dsimp only
    split
    · rfl
    · rw [if_neg (by have := h j hj; omega), Int.sub_zero]
      obtain ⟨a, prot, quad, en, goes, job, busy, wipes⟩ := c
      subst hj
      rfl
def Cor.Ok (c : Cor) : Prop := c.goes = false ∧ ∀ j, c.job = some j → 1 ≤ j.left
theorem cpass_goes (c : Cor) (n : Int) : (c.pass n).goes = c.goes := by
  unfold Cor.pass
  repeat' split
  all_goals rfl
theorem Cor.Ok.pass {c : Cor} (h : c.Ok) (n : Int) : (c.pass n).Ok := by
  refine ⟨by rw [cpass_goes]; exact h.1, fun j hj => ?_⟩
  unfold Cor.pass at hj
  split at hj
  · exact h.2 j hj
  · rename_i k hk
    split at hj
    · exact h.2 j hj
    · split at hj
      · cases hj
      · simp only [Option.some.injEq] at hj
        subst hj
        dsimp only
        omega
theorem cpass_pass (c : Cor) (m n : Int) (_ : 0 ≤ m) (hn : 0 ≤ n) : (c.pass m).pass n = c.pass (m + n) := by
  cases hj : c.job with
  | none => rw [cpass_none hj, cpass_none hj, cpass_none hj]
  | some j =>
    cases hs : j.susp with
    | true => rw [cpass_susp hj hs, cpass_susp hj hs, cpass_susp hj hs]
    | false =>
      rw [cor_pass hj hs m]
      by_cases h1 : j.left ≤ m
      · rw [if_pos h1, cpass_none rfl, cor_pass hj hs, if_pos (by omega)]
      · rw [if_neg h1, cor_pass (j := { j with left := j.left - m }) rfl hs, cor_pass hj hs]
        by_cases h2 : j.left ≤ m + n
        · rw [if_pos h2, if_pos (by dsimp only; omega)]
          rfl
        · rw [if_neg h2, if_neg (by dsimp only; omega)]
          dsimp only
          rw [show j.left - m - n = j.left - (m + n) by omega]
theorem ask_all {c : Cor} {t : St} (h : At c t) (hc : c.Ok) :
    ∃ d : Drv, Drv.phases ⟨t.select, [], 0, -1⟩ (cmdPhs (opOf 5) 0 [] 1) = (d, true) ∧ d.clocks = 16 ∧ d.out = [(c.pass 9).first] ∧ At (c.pass 16) d.s.deselect := by
  cases hj : c.job with
  | none =>
    rw [cpass_none hj, cpass_none hj]
    exact ask_rest h hc.1 hj
  | some j =>
    cases hs : j.susp with
    | true =>
      rw [cpass_susp hj hs, cpass_susp hj hs]
      exact ask_susp h hc.1 j hj hs
    | false =>
      have h1 := hc.2 j hj
      by_cases h16 : j.left ≤ 16
      · exact ask_near h hc.1 j hj hs h1 h16
      · exact ask_far h hc.1 j hj hs (by omega)
theorem first_busy (w e p : Bool) : bits .and .i64 (Go.Proofs.YteombggfmeilaaaGreat.first w e p) 1 = if w then 1 else 0 := by cases w <;> cases e <;> cases p <;> decide
set_option maxRecDepth 100000 in
set_option maxHeartbeats 2000000 in
theorem rdy_ask {Q : Own} {c : Cor} {b k fo fi : Nat} {n q : Int} {w0 w : World} {rows : List (Value × List Value)} (h : Rdy Q c b k fo fi n q w0 w rows) (hc : c.Ok) (hn : n + 17 ≤ 1048575) (x : Bool) (hx : (c.pass 9).works = x) :
    Calls Tryz.prog 133 #[.pointer (some ⟨k, 0, none⟩)] w fun e w' => e = .returned (.tuple #[.bool x, .int .i64 0]) ∧ Rdy Q (c.pass 16) b k fo fi (n + 17) (q + 16) w0 w' rows := by
  have hr := rdy_run h.nil 5 (by decide) (by decide) 0 none 0 [] List.mem_cons_self 1 (by kernel_rfl) (c.pass 16) [(c.pass 9).first] 16 (by kernel_rfl) (by omega) (fun t ht => ask_all ht hc)
  have hf : bits .and .i64 (c.pass 9).first 1 = if x then 1 else 0 := by
    unfold Cor.first
    rw [first_busy, hx]
  generalize (c.pass 9).first = y at *
  rw [show n + 17 = n + 16 + 1 by omega]
  have HR := Lib.hid hr
  clear hr h hx hc hn
  go_enter Tryz.func133, Tryz.ntmps133
  go_upto_region 2 with (go_at_call 50; refine HR.out.mono ?_; rintro e w2 ⟨oa, oc, rfl, hR2⟩)
  obtain ⟨gx, ox, e1, hgx, hcc⟩ := (hR2.rs List.mem_cons_self).cells (Nat.lt_succ_self 0)
  subst e1
  have hcell := hcc 0 (Nat.lt_succ_self 0)
  rw [ints_at _ _ (Nat.lt_succ_self 0)] at hcell
  simp only [List.getD_cons_zero, Nat.add_zero] at hcell
  have HR2 := Lib.hid hR2
  clear hR2 hcc hgx HR
  cases x
  all_goals
    simp only [if_true, if_false, Bool.false_eq_true] at hf
    go_wp2
    go_ret2
    exact ⟨rfl, HR2.out.rowsub fun r hr => List.mem_cons_of_mem _ (List.mem_cons_of_mem _ hr)⟩
set_option maxRecDepth 100000 in
set_option maxHeartbeats 2000000 in
theorem rdy_wait {Q : Own} {c : Cor} {b k fo fi : Nat} {n q : Int} {w0 w : World} {rows : List (Value × List Value)} (h : Rdy Q c b k fo fi n q w0 w rows) (hc : c.Ok) (i : Nat) (hb : ∀ r, r < i → ((c.pass (16 * (r : Int))).pass 9).works = true) (he : ((c.pass (16 * (i : Int))).pass 9).works = false) (most : Int) (hm : (i : Int) < most) (hmm : most ≤ 1024) (hn : n + 17 * ((i : Int) + 1) ≤ 1048575) :
    Calls Tryz.prog 60 #[.pointer (some ⟨k, 0, none⟩), .int .i64 most] w fun e w' => e = .returned (.tuple #[.int .i64 ((i : Int) + 1), .int .i64 0]) ∧ Rdy Q (c.pass (16 * ((i : Int) + 1))) b k fo fi (n + 17 * ((i : Int) + 1)) (q + 16 * ((i : Int) + 1)) w0 w' rows := by
  have HB := Lib.hid (And.intro hb he)
  have HC := Lib.hid hc
  have hst : Rdy Q (c.pass (16 * ((0 : Nat) : Int))) b k fo fi (n + 17 * ((0 : Nat) : Int)) (q + 16 * ((0 : Nat) : Int)) w0 w rows := by
    rw [show 16 * ((0 : Nat) : Int) = 0 from rfl, show 17 * ((0 : Nat) : Int) = 0 from rfl, Int.add_zero, Int.add_zero, cpass_zero hc.2]
    exact h
  have HST := Lib.hid hst
  clear hb he h hst hc
  go_enter Tryz.func60, Tryz.ntmps60
  go_wp2
  go_loopw [6] (fun iv wr => ∃ r : Nat, r ≤ i ∧ iv = .int .i64 ((r : Int) + 1) ∧ Hid (Rdy Q (c.pass (16 * (r : Int))) b k fo fi (n + 17 * (r : Int)) (q + 16 * (r : Int)) w0 wr rows)) (fun iv _ => i + 1 - (intOf iv).toNat)
  case atStart => exact ⟨0, by omega, rfl, HST⟩
  case round =>
    obtain ⟨r, hr, rfl, hR⟩ := hrel
    by_cases hlt : r < i
    · have hask := rdy_ask hR.out (HC.out.pass _) (by omega) true (HB.out.1 r hlt)
      rw [cpass_pass _ _ _ (by omega) (by decide), show 16 * (r : Int) + 16 = 16 * ((r + 1 : Nat) : Int) by omega, show n + 17 * (r : Int) + 17 = n + 17 * ((r + 1 : Nat) : Int) by omega, show q + 16 * (r : Int) + 16 = q + 16 * ((r + 1 : Nat) : Int) by omega] at hask
      have HA := Lib.hid hask
      clear hask hR
      go_wp2_with (go_at_call 133; refine HA.out.mono ?_; rintro e w2 ⟨rfl, hR2⟩)
      refine ⟨?rel, ?measure⟩
      case rel => exact ⟨r + 1, by omega, by go_num, Lib.hid hR2⟩
      case measure => simp [intOf]; omega
    · obtain rfl : r = i := by omega
      have hask := rdy_ask hR.out (HC.out.pass _) (by omega) false HB.out.2
      rw [cpass_pass _ _ _ (by omega) (by decide), show 16 * (r : Int) + 16 = 16 * ((r : Int) + 1) by omega, show n + 17 * (r : Int) + 17 = n + 17 * ((r : Int) + 1) by omega, show q + 16 * (r : Int) + 16 = q + 16 * ((r : Int) + 1) by omega] at hask
      have HA := Lib.hid hask
      clear hask hR
      go_wp2_with (go_at_call 133; refine HA.out.mono ?_; rintro e w2 ⟨rfl, hR2⟩)
      go_ret2
      exact ⟨rfl, hR2⟩
set_option maxRecDepth 100000 in
set_option maxHeartbeats 2000000 in
theorem rdy_wait_no {Q : Own} {c : Cor} {b k fo fi : Nat} {n q : Int} {w0 w : World} {rows : List (Value × List Value)} (h : Rdy Q c b k fo fi n q w0 w rows) (hc : c.Ok) (i : Nat) (hb : ∀ r, r < i → ((c.pass (16 * (r : Int))).pass 9).works = true) (hmm : i ≤ 1024) (hn : n + 17 * (i : Int) ≤ 1048575) :
    Calls Tryz.prog 60 #[.pointer (some ⟨k, 0, none⟩), .int .i64 (i : Int)] w fun e w' => e = .returned (.tuple #[.int .i64 0, .int .i64 1400]) ∧ Rdy Q (c.pass (16 * (i : Int))) b k fo fi (n + 17 * (i : Int)) (q + 16 * (i : Int)) w0 w' rows := by
  have HB := Lib.hid hb
  have HC := Lib.hid hc
  have hst : Rdy Q (c.pass (16 * ((0 : Nat) : Int))) b k fo fi (n + 17 * ((0 : Nat) : Int)) (q + 16 * ((0 : Nat) : Int)) w0 w rows := by
    rw [show 16 * ((0 : Nat) : Int) = 0 from rfl, show 17 * ((0 : Nat) : Int) = 0 from rfl, Int.add_zero, Int.add_zero, cpass_zero hc.2]
    exact h
  have HST := Lib.hid hst
  clear hb h hst hc
  go_enter Tryz.func60, Tryz.ntmps60
  go_wp2
  go_loopw [6] (fun iv wr => ∃ r : Nat, r ≤ i ∧ iv = .int .i64 ((r : Int) + 1) ∧ Hid (Rdy Q (c.pass (16 * (r : Int))) b k fo fi (n + 17 * (r : Int)) (q + 16 * (r : Int)) w0 wr rows)) (fun iv _ => i + 1 - (intOf iv).toNat)
  case atStart => exact ⟨0, by omega, rfl, HST⟩
  case round =>
    obtain ⟨r, hr, rfl, hR⟩ := hrel
    by_cases hlt : r < i
    · have hask := rdy_ask hR.out (HC.out.pass _) (by omega) true (HB.out r hlt)
      rw [cpass_pass _ _ _ (by omega) (by decide), show 16 * (r : Int) + 16 = 16 * ((r + 1 : Nat) : Int) by omega, show n + 17 * (r : Int) + 17 = n + 17 * ((r + 1 : Nat) : Int) by omega, show q + 16 * (r : Int) + 16 = q + 16 * ((r + 1 : Nat) : Int) by omega] at hask
      have HA := Lib.hid hask
      clear hask hR
      go_wp2_with (go_at_call 133; refine HA.out.mono ?_; rintro e w2 ⟨rfl, hR2⟩)
      refine ⟨?rel, ?measure⟩
      case rel => exact ⟨r + 1, by omega, by go_num, Lib.hid hR2⟩
      case measure => simp [intOf]; omega
    · obtain rfl : r = i := by omega
      go_wp2
      go_ret2
      exact ⟨rfl, hR.out⟩
theorem wait_nil (most : Int) (w : World) : Calls Tryz.prog 60 #[.pointer none, .int .i64 most] w fun e w' => e = .returned (.tuple #[.int .i64 0, .int .i64 1]) ∧ w = w' := by
  go_enter Tryz.func60, Tryz.ntmps60
  go_wp2
  go_ret2
  exact ⟨rfl, rfl⟩
end Go.Proofs.YteombggfmeilaaaGreat
namespace Go.Proofs.YteombggfmeilaaaGreat
open Go.RowKit
def Cor.starts (c : Cor) (addr : Int) (j : Job) : Cor :=
  if !c.en then c
  else if c.prot ∧ addr < 2048 then { c with en := false }
  else { c with busy := c.busy.tail, wipes := fun k => if (k : Int) = j.sector then c.wipes k + 1 else c.wipes k, job := some { j with left := match c.busy with
    | [] => 8
    | d :: _ => d } }
theorem starts_at {s : St} {c : Cor} (h : At c s) (j : Job) : At (c.starts s.addr j) (s.starts j) := by
  obtain ⟨hcor, hsel⟩ := h
  subst hcor
  unfold Cor.starts St.starts
  show At (if !s.en then _ else if s.prot ∧ s.addr < 2048 then _ else _) _
  split
  · exact ⟨rfl, hsel⟩
  · split
    · exact ⟨rfl, hsel⟩
    · exact ⟨rfl, hsel⟩
theorem not_works {s : St} (hg : s.goes = false) (hj : s.job = none) : s.select.works = false ∧ s.select.sel = true := by
  rw [select_eq, hg]
  refine ⟨?_, rfl⟩
  show s.works = false
  unfold St.works
  rw [hj]
theorem erase_phs (k : Int) : cmdPhs (opOf 32) k [] 0 = [⟨1, [32], 0, 0⟩, ⟨1, [k / 65536, k / 256 % 256, k % 256], 0, 0⟩] := by
  have e : opOf 32 = ⟨32, 1, false, 0, 0, false⟩ := by kernel_rfl
  rw [e]
  rfl
theorem erase_all {c : Cor} {t : St} (h : At c t) (hg : c.goes = false) (hj : c.job = none) (k : Int) (hk : 0 ≤ k ∧ k < 4096) :
    ∃ d : Drv, Drv.phases ⟨t.select, [], 0, -1⟩ (cmdPhs (opOf 32) k [] 0) = (d, true) ∧ d.clocks = 32 ∧ d.out = [] ∧ At (c.starts k ⟨k / 512, 0, ⟨#[]⟩, 0, false⟩) d.s.deselect := by
  have htg := h.goes.trans hg
  have htj := h.job.trans hj
  obtain ⟨hw, hs⟩ := not_works htg htj
  have hf := phases_free (cmdPhs (opOf 32) k [] 0) ⟨t.select, [], 0, -1⟩ (show (-1 : Int) < 0 by decide)
  dsimp only at hf
  have hins : phsIns (cmdPhs (opOf 32) k [] 0) = wordL [32, 0, k / 256, k % 256] := by
    rw [erase_phs]
    unfold phsIns
    rw [List.flatMap_cons, List.flatMap_cons, List.flatMap_nil, ins_bytes1, ins_bytes1, List.append_nil, show k / 65536 = 0 by omega, show k / 256 % 256 = k / 256 by omega, ← wordL_app]
    rfl
  rw [hins, runC_still _ _ hw hs] at hf
  refine ⟨_, hf, ?_, ?_, ?_⟩
  · rfl
  · rw [erase_phs]
    rfl
  · dsimp only
    rw [er_head t htg htj k, addrOf_eq k hk, er_off]
    refine starts_at (s := { (t.er k) with sel := false }) ⟨?_, rfl⟩ _
    exact h.cor
theorem rdy_erase {Q : Own} {c : Cor} {b k fo fi : Nat} {n q : Int} {w0 w : World} {rows : List (Value × List Value)} (h : Rdy Q c b k fo fi n q w0 w rows) (hg : c.goes = false) (hj : c.job = none) (at_ : Int) (hk : 0 ≤ at_ ∧ at_ < 4096) (hn : n + 33 ≤ 1048575) :
    Calls Tryz.prog 50 #[.pointer (some ⟨k, 0, none⟩), .int .i64 32, .int .i64 at_, .slice none 0 0, .int .i64 0] w fun e w' => ∃ oa oc, e = .returned (.tuple #[.slice oa 0 oc, .int .i64 0]) ∧ Rdy Q (c.starts at_ ⟨at_ / 512, 0, ⟨#[]⟩, 0, false⟩) b k fo fi (n + 33) (q + 32) w0 w' rows := by
  have hmay : cmdMay (opOf 32) at_ [] 0 = true := by
    have e : opOf 32 = ⟨32, 1, false, 0, 0, false⟩ := by kernel_rfl
    rw [e]
    unfold cmdMay fitsB
    simp
    omega
  refine (rdy_run h.nil 32 (by decide) (by decide) at_ none 0 [] List.mem_cons_self 0 hmay _ [] 32 (by rw [erase_phs]; rfl) (by omega) (fun t ht => erase_all ht hg hj at_ hk)).mono ?_
  rintro e w' ⟨oa, oc, rfl, h2⟩
  refine ⟨oa, oc, rfl, ?_⟩
  rw [show n + 33 = n + 32 + 1 by omega]
  exact h2.rowsub fun r hr => List.mem_cons_of_mem _ (List.mem_cons_of_mem _ hr)
theorem works_pass {c : Cor} {j : Job} (hj : c.job = some j) (hs : j.susp = false) (n : Int) : (c.pass n).works = decide (n < j.left) := by
  rw [cor_pass hj hs]
  by_cases h : j.left ≤ n
  · rw [if_pos h]
    exact (decide_eq_false (by omega)).symm
  · rw [if_neg h, decide_eq_true (show n < j.left by omega)]
    show (!j.susp) = true
    rw [hs]
    rfl
theorem busy_asks {c : Cor} {j : Job} (_ : c.Ok) (hj : c.job = some j) (hs : j.susp = false) (r : Nat) : ((c.pass (16 * (r : Int))).pass 9).works = decide (16 * (r : Int) + 9 < j.left) := by
  rw [cpass_pass _ _ _ (by omega) (by decide), works_pass hj hs]
end Go.Proofs.YteombggfmeilaaaGreat
/- Awake14. -/
namespace Go.Proofs.YteombggfmeilaaaGreat
open Go.RowKit
set_option maxRecDepth 100000 in
set_option maxHeartbeats 8000000 in
theorem awake14 (w : World) :
    Calls Tryz.prog 63 #[] w fun e w' => e = .returned (.bool true) ∧ Upd none' w w' := by
  obtain ⟨fa, hfa⟩ : ∃ fa : ByteArray, (⟨(freshL ⟨#[120, 121, 122]⟩).toArray⟩ : ByteArray) = fa := ⟨_, rfl⟩
  have HFA := Lib.hid hfa
  clear hfa
  go_enter Tryz.func63, Tryz.ntmps63
  go_upto_region 2 with (go_at_call 59; refine (c_twins14 (Upd.refl none' w) _ (by decide) fa HFA.out).mono ?_; rintro e w1 ⟨b, r, rfl, hC1⟩)
  have HN := Lib.hid (rdy_new Own.emp_ok (at_new fa) hC1 (Int.le_refl 0) (by decide))
  clear hC1
  go_upto_region 5 with (first | (go_at_call 49; refine HN.out.mono ?_; rintro e w2 ⟨k, fo, fi, rfl, hR2⟩) | (go_at_call 16; refine (num_any _ _).mono ?_; rintro e w' ⟨rfl, rfl⟩))
  have HX := Lib.hid (rdy_next hR2 40 (by decide))
  clear hR2
  go_upto_region 6 with (go_at_call 24; refine HX.out.mono ?_; rintro e w3 ⟨rfl, hR3⟩)
  have HE := Lib.hid (rdy_en hR3 rfl rfl (by decide))
  clear hR3 HX HN
  go_upto_region 7 with (go_at_call 50; refine HE.out.mono ?_; rintro e w4 ⟨oa4, oc4, rfl, hR4⟩)
  have HP := Lib.hid (rdy_erase hR4 rfl rfl 2048 (by decide) (by decide))
  clear hR4 HE
  go_upto_region 8 with (go_at_call 50; refine HP.out.mono ?_; rintro e w5 ⟨oa5, oc5, rfl, hR5⟩)
  obtain ⟨c, hcj, hcg, hR6⟩ : ∃ c : Cor, c.job = some ⟨4, 0, ⟨#[]⟩, 40, false⟩ ∧ c.goes = false ∧ Rdy .emp c b k fo fi (0 + 9 + 33) (0 + 8 + 32) w w5 [] := ⟨_, rfl, rfl, hR5⟩
  have hok : c.Ok := ⟨hcg, fun j hj => by rw [hcj] at hj; simp only [Option.some.injEq] at hj; subst hj; decide⟩
  have hw := rdy_wait_no hR6 hok 2 (fun r hr => by rw [busy_asks hok hcj rfl]; exact decide_eq_true (by dsimp only; omega)) (by decide) (by decide)
  have HW := Lib.hid hw
  clear hR5 hR6 hw HP
  go_upto_region 9 with (go_at_call 60; refine HW.out.mono ?_; rintro e w6 ⟨rfl, hR6⟩)
  have hok2 := hok.pass (16 * ((2 : Nat) : Int))
  have hw := rdy_wait hR6 hok2 0 (fun r hr => absurd hr (Nat.not_lt_zero r)) (by rw [show 16 * ((0 : Nat) : Int) = 0 from rfl, cpass_zero hok2.2, busy_asks hok hcj rfl]; exact decide_eq_false (by decide)) 9 (by decide) (by decide) (by decide)
  have HW := Lib.hid hw
  clear hR6 hw
  go_upto_region 10 with (go_at_call 60; refine HW.out.mono ?_; rintro e w7 ⟨rfl, hR7⟩)
  have hok3 := hok2.pass (16 * (((0 : Nat) : Int) + 1))
  have hw := rdy_wait hR7 hok3 0 (fun r hr => absurd hr (Nat.not_lt_zero r)) (by rw [show 16 * ((0 : Nat) : Int) = 0 from rfl, cpass_zero hok3.2, cpass_pass _ _ _ (by decide) (by decide), cpass_pass _ _ _ (by decide) (by decide), works_pass hcj rfl]; exact decide_eq_false (by decide)) 1 (by decide) (by decide) (by decide)
  have HW := Lib.hid hw
  clear hR7 hw
  go_upto_region 11 with (go_at_call 60; refine HW.out.mono ?_; rintro e w8 ⟨rfl, hR8⟩)
  have hok4 := hok3.pass (16 * (((0 : Nat) : Int) + 1))
  have hw := rdy_wait_no hR8 hok4 0 (fun r hr => absurd hr (Nat.not_lt_zero r)) (by decide) (by decide)
  have HW := Lib.hid hw
  clear hR8 hw
  go_upto_region 12 with (go_at_call 60; refine HW.out.mono ?_; rintro e w9 ⟨rfl, hR9⟩)
  have HL := Lib.hid (wait_nil 1)
  have HU := Lib.hid hR9.up
  clear hR9 HW hok hok2 hok3 hok4 hcj hcg HFA
  go_upto_region 13 with (go_at_call 60; refine (HL.out _).mono ?_; rintro e w8 ⟨rfl, rfl⟩)
  go_wp2_with (go_at_call 16; refine (num_any _ _).mono ?_; rintro e w' ⟨rfl, rfl⟩)
  go_ret
  exact ⟨rfl, HU.out⟩
end Go.Proofs.YteombggfmeilaaaGreat
