/- Law0 ChipWp PureG WaitP BurnM Two BurnP -/
import Derived.Test.YteombggfmeilaaaGreatBu00
import Derived.Lib.SliceRun
import Derived.Test.YteombggfmeilaaaGreatBu05
import Derived.Test.YteombggfmeilaaaGreatBu06
import Derived.Test.YteombggfmeilaaaGreatBu12
/- Law0. -/
namespace Go.Proofs.YteombggfmeilaaaGreat
open Go.RowKit
theorem num_any (n : Int) (w : World) :
    Calls Tryz.prog 16 #[.int .i64 n] w fun e w' => e = .returned (.int .i64 n) ∧ w = w' := by
  go_enter Tryz.func16, Tryz.ntmps16
  go_wp2
  go_ret
  exact ⟨rfl, rfl⟩
theorem rs_lit (W : World) (xs : List Int) (h : xs.length ≤ 1048576) : RS (W.alloc (.cells (ints xs).toArray 3)) (.slice (some ⟨W.heap.size, 0, none⟩) xs.length xs.length) (ints xs) := by
  have hl := ints_len xs
  refine ⟨by omega, some ⟨W.heap.size, 0, none⟩, xs.length, by rw [hl], by omega, fun _ => ⟨W.heap.size, 0, rfl, by simp, fun j hj => ?_⟩⟩
  rw [Nat.zero_add]
  exact (Blk.new W (ints xs) 3).cell j
def sameB {α : Type} [DecidableEq α] (xs ys : List α) : Bool := decide (xs = ys)
theorem same_all {α : Type} [DecidableEq α] [Inhabited α] (d : α) (xs ys : List α) (hl : xs.length = ys.length) (h : ∀ j, j < xs.length → xs.getD j d = ys.getD j d) : sameB xs ys = true := by
  refine decide_eq_true (List.ext_getElem hl fun j h1 h2 => ?_)
  have := h j h1
  simpa [List.getD_eq_getElem?_getD, List.getElem?_eq_getElem h1, List.getElem?_eq_getElem h2] using this
theorem same_not {α : Type} [DecidableEq α] [Inhabited α] (d : α) (xs ys : List α) (j : Nat) (h : xs.getD j d ≠ ys.getD j d) : sameB xs ys = false :=
  decide_eq_false fun e => h (by rw [e])
set_option maxHeartbeats 1000000 in
theorem same_ints (w : World) (v u : Value) (xs ys : List Int) (hv : RS w v (ints xs)) (hu : RS w u (ints ys)) :
    Calls Tryz.prog 33 #[v, u] w fun e w' => e = .returned (.bool (sameB xs ys)) ∧ Upd none' w w' := by
  obtain ⟨h1, a, cap, rfl, h4, h5⟩ := hv
  obtain ⟨h1', a', cap', rfl, h4', h5'⟩ := hu
  have hlen : (ints xs).length = xs.length := by simp [ints]
  have hlen' : (ints ys).length = ys.length := by simp [ints]
  rw [hlen] at h1 h4 h5
  rw [hlen'] at h1' h4' h5'
  rw [hlen, hlen']
  clear hlen hlen'
  by_cases hl : xs.length = ys.length
  · obtain ⟨n, hn⟩ : ∃ n, ys.length = n := ⟨_, rfl⟩
    rw [hn] at hl h1' h4' h5' ⊢
    rw [hl] at h1 h4 h5 ⊢
    have hxs : xs ≠ [] ∨ n = 0 := by by_cases h : xs = []; exact .inr (by rw [← hl, h]; rfl); exact .inl h
    have hys : ys ≠ [] ∨ n = 0 := by by_cases h : ys = []; exact .inr (by rw [← hn, h]; rfl); exact .inl h
    have HXS := Lib.hid hxs
    have HYS := Lib.hid hys
    clear hxs hys
    have HX := Lib.hid hl
    have HY := Lib.hid hn
    clear hl hn
    go_enter Tryz.func33, Tryz.ntmps33
    go_wp2_with fail
    go_loopw [5] (fun iv wr => ∃ i : Nat, i ≤ n ∧ iv = .int .i64 i ∧ Upd none' w wr ∧ ∀ j, j < i → xs.getD j 0 = ys.getD j 0) (fun iv _ => n - (intOf iv).toNat)
    case atStart => exact ⟨0, by omega, rfl, Upd.refl _ _, fun j hj => by omega⟩
    case round =>
      obtain ⟨i, hi, rfl, hU, hno⟩ := hrel
      by_cases hlt : i < n
      · obtain ⟨bb, oo, rfl, hbb, hcc⟩ := h5 (by intro h; rcases HXS.out with e | e; exact e (by simpa [ints] using h); omega)
        obtain ⟨bb', oo', rfl, hbb', hcc'⟩ := h5' (by intro h; rcases HYS.out with e | e; exact e (by simpa [ints] using h); omega)
        have hcell : wr.cell? ⟨bb, oo + i, none⟩ = some (.int .i64 (xs.getD i 0)) := by
          rw [hU.cell (p := ⟨bb, oo + i, none⟩) hbb (fun f => f), hcc i hlt]; simp [ints, List.getD_eq_getElem?_getD, List.getElem?_eq_getElem (show i < xs.length by rw [HX.out]; exact hlt)]
        have hcell' : wr.cell? ⟨bb', oo' + i, none⟩ = some (.int .i64 (ys.getD i 0)) := by
          rw [hU.cell (p := ⟨bb', oo' + i, none⟩) hbb' (fun f => f), hcc' i hlt]; simp [ints, List.getD_eq_getElem?_getD, List.getElem?_eq_getElem (show i < ys.length by rw [HY.out]; exact hlt)]
        clear hcc hcc'
        have HN : Hid (xs.getD i 0 ≠ ys.getD i 0 → sameB xs ys = false) := same_not 0 xs ys i
        have HS : Hid (xs.getD i 0 = ys.getD i 0 → ∀ j, j < i + 1 → xs.getD j 0 = ys.getD j 0) := fun e j hj => by
          rcases Nat.lt_succ_iff_lt_or_eq.1 hj with h | h
          · exact hno j h
          · subst h; exact e
        obtain ⟨x, hx⟩ : ∃ x, xs.getD i 0 = x := ⟨_, rfl⟩
        obtain ⟨y, hy⟩ : ∃ y, ys.getD i 0 = y := ⟨_, rfl⟩
        rw [hx] at hcell HN HS
        rw [hy] at hcell' HN HS
        clear hx hy hno
        by_cases he : x = y
        · subst he
          go_wp2_with fail
          go_region
          all_goals go_wp2
          all_goals exact ⟨⟨i + 1, by omega, by go_num, hU.drew, HS.out trivial⟩, by simp [intOf]; omega⟩
        · have hxy : (x == y) = false := by simpa using he
          go_wp2_with fail
          go_region
          all_goals go_wp2
          all_goals go_ret
          all_goals exact ⟨by rw [HN.out he]; rfl, hU.drew⟩
      · have hieq : i = n := by omega
        subst hieq
        go_wp2
        go_ret
        exact ⟨by rw [same_all 0 xs ys (by rw [HX.out, HY.out]) (fun j hj => hno j (by rw [HX.out] at hj; exact hj))]; rfl, hU⟩
  · have hs : sameB xs ys = false := decide_eq_false fun e => hl (by rw [e])
    have hb : ((xs.length : Int) == (ys.length : Int)) = false := by simp; omega
    have hne : ¬ ((xs.length : Int) = (ys.length : Int)) := by omega
    go_enter Tryz.func33, Tryz.ntmps33
    go_wp2
    go_ret
    exact ⟨by rw [hs]; rfl, Upd.refl _ _⟩
theorem RS.drop {w : World} {g o n c : Nat} {vs : List Value} (h : RS w (.slice (some ⟨g, o, none⟩) n c) vs) (k : Nat) (hk : k ≤ n) : RS w (.slice (some ⟨g, o + k, none⟩) (n - k) (c - k)) (vs.drop k) := by
  obtain ⟨h1, a, cap, e, h4, h5⟩ := h
  simp only [Value.slice.injEq] at e
  obtain ⟨rfl, rfl, rfl⟩ := e
  refine ⟨by rw [List.length_drop]; omega, some ⟨g, o + k, none⟩, c - k, by rw [List.length_drop], by rw [List.length_drop]; omega, fun hn => ?_⟩
  obtain ⟨b, o', e2, h7, h8⟩ := h5 (by intro h; rw [h] at hn; simp at hn)
  simp only [Option.some.injEq, Addr.mk.injEq] at e2
  obtain ⟨rfl, rfl, _⟩ := e2
  refine ⟨g, o + k, rfl, h7, fun j hj => ?_⟩
  rw [List.length_drop] at hj
  rw [List.getElem?_drop, show o + k + j = o + (k + j) by omega]
  exact h8 (k + j) (by omega)
end Go.Proofs.YteombggfmeilaaaGreat
/- ChipWp. -/
namespace Go.Proofs.YteombggfmeilaaaGreat
open Go.RowKit
def St.wipesL (s : St) : List Int := [s.wipes 0, s.wipes 1, s.wipes 2, s.wipes 3, s.wipes 4, s.wipes 5, s.wipes 6, s.wipes 7]
set_option maxHeartbeats 1000000 in
theorem chip_wipes (b : Nat) (s : St) (S : Nat → Prop) (w : World) (hA : ChipAt w b s S) :
    Calls Tryz.prog 32 #[.pointer (some ⟨b, 0, none⟩)] w fun e w' => ∃ v', e = .returned v' ∧ Row w' 3 v' (ints s.wipesL) ∧ (∀ k, v'.ownBlock = some k → w.heap.size ≤ k) ∧ Upd none' w w' := by
  obtain ⟨jv, bv, dv, hv, rfl⟩ := hA
  have hr : RS w (.slice (some ⟨b, 3, none⟩) 8 8) (ints s.wipesL) := by
    refine ⟨by show (8 : Nat) * 8 ≤ _; decide, some ⟨b, 3, none⟩, 8, rfl, Nat.le_refl _, fun _ => ⟨b, 3, rfl, hv.cb.lt, fun j hj => ?_⟩⟩
    have hj8 : j < 8 := hj
    rw [hv.cb.cell]
    rcases (show j = 0 ∨ j = 1 ∨ j = 2 ∨ j = 3 ∨ j = 4 ∨ j = 5 ∨ j = 6 ∨ j = 7 by omega) with rfl | rfl | rfl | rfl | rfl | rfl | rfl | rfl <;> rfl
  have HC := Lib.hid (clone_ints w _ s.wipesL hr (by unfold St.wipesL; exact List.cons_ne_nil _ _) (by show (8 : Nat) ≤ 4096; decide))
  clear hr
  go_enter Tryz.func32, Tryz.ntmps32
  go_wp2_with (go_at_call 105; refine HC.out.mono ?_; rintro e w1 ⟨v', rfl, hR, hf, hU⟩)
  go_ret
  exact ⟨v', rfl, hR, hf, hU⟩
end Go.Proofs.YteombggfmeilaaaGreat
/- PureG. -/
namespace Go.Proofs.YteombggfmeilaaaGreat
open Go.RowKit
structure Rest (a : ByteArray) (t : St) : Prop where
  sel : t.sel = false
  goes : t.goes = false
  job : t.job = none
  busy : t.busy = []
  a : t.a = a
  wipes : t.wipesL = [0, 0, 0, 0, 0, 0, 0, 0]
theorem inn_off (s : St) (A x : Int) (xs : List Int) : (s.inn A (x :: xs)).deselect = ({ (s.inn A (x :: xs)) with sel := false } : St).starts ⟨-1, A - A % 32, ⟨(pageOf A (x :: xs)).toArray⟩, 0, false⟩ := by
  obtain ⟨a, prot, quad, wipes, tabled, sel, en, goes, job, busy, op, stage, left, got, addr, mode, moded, data, told, now, beyond⟩ := s
  kernel_rfl
section
variable (a : ByteArray) (k : Int)
end
end Go.Proofs.YteombggfmeilaaaGreat
/- WaitP. -/
namespace Go.Proofs.YteombggfmeilaaaGreat
open Go.RowKit
def Cor.pass (c : Cor) (n : Int) : Cor := match c.job with
  | none => c
  | some j => if j.susp then c else if j.left ≤ n then { c with a := j.cells c.a all255, job := none, en := false } else { c with job := some { j with left := j.left - n } }
def Cor.works (c : Cor) : Bool := match c.job with
  | none => false
  | some j => !j.susp
def Cor.first (c : Cor) : Int := Go.Proofs.YteombggfmeilaaaGreat.first c.works c.en c.prot
theorem cor_pass {c : Cor} {j : Job} (hj : c.job = some j) (hs : j.susp = false) (n : Int) : c.pass n = if j.left ≤ n then { c with a := j.cells c.a all255, job := none, en := false } else { c with job := some { j with left := j.left - n } } := by
  unfold Cor.pass
  rw [hj]
  dsimp only
  rw [hs, if_neg (by decide)]
set_option maxRecDepth 100000 in
theorem ask_rest {c : Cor} {t : St} (h : At c t) (hg : c.goes = false) (hj : c.job = none) :
    ∃ d : Drv, Drv.phases ⟨t.select, [], 0, -1⟩ (cmdPhs (opOf 5) 0 [] 1) = (d, true) ∧ d.clocks = 16 ∧ d.out = [c.first] ∧ At c d.s.deselect := by
  have htg := h.goes.trans hg
  have htj := h.job.trans hj
  obtain ⟨hcor, hsel⟩ := h
  obtain ⟨a, prot, quad, wipes, tabled, sel, en, goes, job, busy, op, stage, left, got, addr, mode, moded, data, told, now, beyond⟩ := t
  change goes = false at htg
  change job = none at htj
  subst htg
  subst htj
  subst hcor
  refine ⟨_, (Prod.ext rfl (by kernel_rfl) : _ = (_, true)), by kernel_rfl, ?_, by kernel_rfl, by kernel_rfl⟩
  cases en <;> cases prot <;> kernel_rfl
set_option maxRecDepth 100000 in
theorem ask_susp {c : Cor} {t : St} (h : At c t) (hg : c.goes = false) (j : Job) (hj : c.job = some j) (hs : j.susp = true) :
    ∃ d : Drv, Drv.phases ⟨t.select, [], 0, -1⟩ (cmdPhs (opOf 5) 0 [] 1) = (d, true) ∧ d.clocks = 16 ∧ d.out = [c.first] ∧ At c d.s.deselect := by
  have htg := h.goes.trans hg
  have htj := h.job.trans hj
  obtain ⟨hcor, hsel⟩ := h
  obtain ⟨a, prot, quad, wipes, tabled, sel, en, goes, job, busy, op, stage, left, got, addr, mode, moded, data, told, now, beyond⟩ := t
  obtain ⟨js, jp, jd, jl, ju⟩ := j
  change goes = false at htg
  change job = _ at htj
  change ju = true at hs
  subst hs
  subst htg
  subst htj
  subst hcor
  refine ⟨_, (Prod.ext rfl (by kernel_rfl) : _ = (_, true)), by kernel_rfl, ?_, by kernel_rfl, by kernel_rfl⟩
  cases en <;> cases prot <;> kernel_rfl
set_option maxRecDepth 100000 in
theorem ask_near {c : Cor} {t : St} (h : At c t) (hg : c.goes = false) (j : Job) (hj : c.job = some j) (hs : j.susp = false) (h1 : 1 ≤ j.left) (h16 : j.left ≤ 16) :
    ∃ d : Drv, Drv.phases ⟨t.select, [], 0, -1⟩ (cmdPhs (opOf 5) 0 [] 1) = (d, true) ∧ d.clocks = 16 ∧ d.out = [(c.pass 9).first] ∧ At (c.pass 16) d.s.deselect := by
  have htg := h.goes.trans hg
  have htj := h.job.trans hj
  obtain ⟨hcor, hsel⟩ := h
  obtain ⟨a, prot, quad, wipes, tabled, sel, en, goes, job, busy, op, stage, left, got, addr, mode, moded, data, told, now, beyond⟩ := t
  obtain ⟨js, jp, jd, jl, ju⟩ := j
  change goes = false at htg
  change job = _ at htj
  change ju = false at hs
  subst hs
  subst htg
  subst htj
  subst hcor
  dsimp only at h1 h16
  rcases (show jl = 1 ∨ jl = 2 ∨ jl = 3 ∨ jl = 4 ∨ jl = 5 ∨ jl = 6 ∨ jl = 7 ∨ jl = 8 ∨ jl = 9 ∨ jl = 10 ∨ jl = 11 ∨ jl = 12 ∨ jl = 13 ∨ jl = 14 ∨ jl = 15 ∨ jl = 16 by omega) with rfl | rfl | rfl | rfl | rfl | rfl | rfl | rfl | rfl | rfl | rfl | rfl | rfl | rfl | rfl | rfl
  all_goals
    refine ⟨_, (Prod.ext rfl (by kernel_rfl) : _ = (_, true)), by kernel_rfl, ?_, by kernel_rfl, by kernel_rfl⟩
    cases en <;> cases prot <;> kernel_rfl
set_option maxRecDepth 100000 in
theorem ask_far {c : Cor} {t : St} (h : At c t) (hg : c.goes = false) (j : Job) (hj : c.job = some j) (hs : j.susp = false) (h16 : 16 < j.left) :
    ∃ d : Drv, Drv.phases ⟨t.select, [], 0, -1⟩ (cmdPhs (opOf 5) 0 [] 1) = (d, true) ∧ d.clocks = 16 ∧ d.out = [(c.pass 9).first] ∧ At (c.pass 16) d.s.deselect := by
  rw [cor_pass hj hs, cor_pass hj hs, if_neg (by omega), if_neg (by omega)]
  have htg := h.goes.trans hg
  have htj := h.job.trans hj
  have hf := phases_free (cmdPhs (opOf 5) 0 [] 1) ⟨t.select, [], 0, -1⟩ (show (-1 : Int) < 0 by decide)
  dsimp only at hf
  have hins : phsIns (cmdPhs (opOf 5) 0 [] 1) = byteBits 5 ++ List.replicate 8 15 := by kernel_rfl
  have hsj : t.select.job = some j := by
    unfold St.select
    dsimp only
    rw [htg, if_neg (by decide)]
    exact htj
  have hss : t.select.sel = true := by
    unfold St.select
    dsimp only
    rw [htg, if_neg (by decide)]
  have hb := runC_busy (byteBits 5 ++ List.replicate 8 15) t.select j hsj hs (by show ((16 : Nat) : Int) < j.left; exact h16) hss
  rw [hins, hb] at hf
  obtain ⟨hcor, hsel⟩ := h
  obtain ⟨a, prot, quad, wipes, tabled, sel, en, goes, job, busy, op, stage, left, got, addr, mode, moded, data, told, now, beyond⟩ := t
  obtain ⟨js, jp, jd, jl, ju⟩ := j
  change goes = false at htg
  change job = _ at htj
  change ju = false at hs
  subst hs
  subst htg
  subst htj
  subst hcor
  refine ⟨_, hf, by kernel_rfl, ?_, by kernel_rfl, by kernel_rfl⟩
  cases en <;> cases prot <;> kernel_rfl
theorem cpass_none {c : Cor} (hj : c.job = none) (n : Int) : c.pass n = c := by
  unfold Cor.pass
  rw [hj]
theorem cpass_susp {c : Cor} {j : Job} (hj : c.job = some j) (hs : j.susp = true) (n : Int) : c.pass n = c := by
  unfold Cor.pass
  rw [hj]
  dsimp only
  rw [if_pos hs]
theorem cpass_zero {c : Cor} (h : ∀ j, c.job = some j → 1 ≤ j.left) : c.pass 0 = c := by
  unfold Cor.pass
  cases hj : c.job with
  | none => rfl
  | some j =>
    dsimp only
    split
    · rfl
    · rw [if_neg (by have := h j hj; omega), Int.sub_zero]
      obtain ⟨a, prot, quad, en, goes, job, busy, wipes⟩ := c
      subst hj
      rfl
def Cor.Ok (c : Cor) : Prop := c.goes = false ∧ ∀ j, c.job = some j → 1 ≤ j.left
theorem cpass_goes (c : Cor) (n : Int) : (c.pass n).goes = c.goes := by
  unfold Cor.pass
  repeat' split
  all_goals rfl
theorem Cor.Ok.pass {c : Cor} (h : c.Ok) (n : Int) : (c.pass n).Ok := by
  refine ⟨by rw [cpass_goes]; exact h.1, fun j hj => ?_⟩
  unfold Cor.pass at hj
  split at hj
  · exact h.2 j hj
  · rename_i k hk
    split at hj
    · exact h.2 j hj
    · split at hj
      · cases hj
      · simp only [Option.some.injEq] at hj
        subst hj
        dsimp only
        omega
theorem cpass_pass (c : Cor) (m n : Int) (_ : 0 ≤ m) (hn : 0 ≤ n) : (c.pass m).pass n = c.pass (m + n) := by
  cases hj : c.job with
  | none => rw [cpass_none hj, cpass_none hj, cpass_none hj]
  | some j =>
    cases hs : j.susp with
    | true => rw [cpass_susp hj hs, cpass_susp hj hs, cpass_susp hj hs]
    | false =>
      rw [cor_pass hj hs m]
      by_cases h1 : j.left ≤ m
      · rw [if_pos h1, cpass_none rfl, cor_pass hj hs, if_pos (by omega)]
      · rw [if_neg h1, cor_pass (j := { j with left := j.left - m }) rfl hs, cor_pass hj hs]
        by_cases h2 : j.left ≤ m + n
        · rw [if_pos h2, if_pos (by dsimp only; omega)]
          rfl
        · rw [if_neg h2, if_neg (by dsimp only; omega)]
          dsimp only
          rw [show j.left - m - n = j.left - (m + n) by omega]
theorem ask_all {c : Cor} {t : St} (h : At c t) (hc : c.Ok) :
    ∃ d : Drv, Drv.phases ⟨t.select, [], 0, -1⟩ (cmdPhs (opOf 5) 0 [] 1) = (d, true) ∧ d.clocks = 16 ∧ d.out = [(c.pass 9).first] ∧ At (c.pass 16) d.s.deselect := by
  cases hj : c.job with
  | none =>
    rw [cpass_none hj, cpass_none hj]
    exact ask_rest h hc.1 hj
  | some j =>
    cases hs : j.susp with
    | true =>
      rw [cpass_susp hj hs, cpass_susp hj hs]
      exact ask_susp h hc.1 j hj hs
    | false =>
      have h1 := hc.2 j hj
      by_cases h16 : j.left ≤ 16
      · exact ask_near h hc.1 j hj hs h1 h16
      · exact ask_far h hc.1 j hj hs (by omega)
theorem first_busy (w e p : Bool) : bits .and .i64 (Go.Proofs.YteombggfmeilaaaGreat.first w e p) 1 = if w then 1 else 0 := by cases w <;> cases e <;> cases p <;> decide
set_option maxRecDepth 100000 in
set_option maxHeartbeats 2000000 in
theorem rdy_ask {Q : Own} {c : Cor} {b k fo fi : Nat} {n q : Int} {w0 w : World} {rows : List (Value × List Value)} (h : Rdy Q c b k fo fi n q w0 w rows) (hc : c.Ok) (hn : n + 17 ≤ 1048575) (x : Bool) (hx : (c.pass 9).works = x) :
    Calls Tryz.prog 133 #[.pointer (some ⟨k, 0, none⟩)] w fun e w' => e = .returned (.tuple #[.bool x, .int .i64 0]) ∧ Rdy Q (c.pass 16) b k fo fi (n + 17) (q + 16) w0 w' rows := by
  have hr := rdy_run h.nil 5 (by decide) (by decide) 0 none 0 [] List.mem_cons_self 1 (by kernel_rfl) (c.pass 16) [(c.pass 9).first] 16 (by kernel_rfl) (by omega) (fun t ht => ask_all ht hc)
  have hf : bits .and .i64 (c.pass 9).first 1 = if x then 1 else 0 := by
    unfold Cor.first
    rw [first_busy, hx]
  generalize (c.pass 9).first = y at *
  rw [show n + 17 = n + 16 + 1 by omega]
  have HR := Lib.hid hr
  clear hr h hx hc hn
  go_enter Tryz.func133, Tryz.ntmps133
  go_upto_region 2 with (go_at_call 50; refine HR.out.mono ?_; rintro e w2 ⟨oa, oc, rfl, hR2⟩)
  obtain ⟨gx, ox, e1, hgx, hcc⟩ := (hR2.rs List.mem_cons_self).cells (Nat.lt_succ_self 0)
  subst e1
  have hcell := hcc 0 (Nat.lt_succ_self 0)
  rw [ints_at _ _ (Nat.lt_succ_self 0)] at hcell
  simp only [List.getD_cons_zero, Nat.add_zero] at hcell
  have HR2 := Lib.hid hR2
  clear hR2 hcc hgx HR
  cases x
  all_goals
    simp only [if_true, if_false, Bool.false_eq_true] at hf
    go_wp2
    go_ret2
    exact ⟨rfl, HR2.out.rowsub fun r hr => List.mem_cons_of_mem _ (List.mem_cons_of_mem _ hr)⟩
set_option maxRecDepth 100000 in
set_option maxHeartbeats 2000000 in
theorem rdy_wait {Q : Own} {c : Cor} {b k fo fi : Nat} {n q : Int} {w0 w : World} {rows : List (Value × List Value)} (h : Rdy Q c b k fo fi n q w0 w rows) (hc : c.Ok) (i : Nat) (hb : ∀ r, r < i → ((c.pass (16 * (r : Int))).pass 9).works = true) (he : ((c.pass (16 * (i : Int))).pass 9).works = false) (most : Int) (hm : (i : Int) < most) (hmm : most ≤ 1024) (hn : n + 17 * ((i : Int) + 1) ≤ 1048575) :
    Calls Tryz.prog 60 #[.pointer (some ⟨k, 0, none⟩), .int .i64 most] w fun e w' => e = .returned (.tuple #[.int .i64 ((i : Int) + 1), .int .i64 0]) ∧ Rdy Q (c.pass (16 * ((i : Int) + 1))) b k fo fi (n + 17 * ((i : Int) + 1)) (q + 16 * ((i : Int) + 1)) w0 w' rows := by
  have HB := Lib.hid (And.intro hb he)
  have HC := Lib.hid hc
  have hst : Rdy Q (c.pass (16 * ((0 : Nat) : Int))) b k fo fi (n + 17 * ((0 : Nat) : Int)) (q + 16 * ((0 : Nat) : Int)) w0 w rows := by
    rw [show 16 * ((0 : Nat) : Int) = 0 from rfl, show 17 * ((0 : Nat) : Int) = 0 from rfl, Int.add_zero, Int.add_zero, cpass_zero hc.2]
    exact h
  have HST := Lib.hid hst
  clear hb he h hst hc
  go_enter Tryz.func60, Tryz.ntmps60
  go_wp2
  go_loopw [6] (fun iv wr => ∃ r : Nat, r ≤ i ∧ iv = .int .i64 ((r : Int) + 1) ∧ Hid (Rdy Q (c.pass (16 * (r : Int))) b k fo fi (n + 17 * (r : Int)) (q + 16 * (r : Int)) w0 wr rows)) (fun iv _ => i + 1 - (intOf iv).toNat)
  case atStart => exact ⟨0, by omega, rfl, HST⟩
  case round =>
    obtain ⟨r, hr, rfl, hR⟩ := hrel
    by_cases hlt : r < i
    · have hask := rdy_ask hR.out (HC.out.pass _) (by omega) true (HB.out.1 r hlt)
      rw [cpass_pass _ _ _ (by omega) (by decide), show 16 * (r : Int) + 16 = 16 * ((r + 1 : Nat) : Int) by omega, show n + 17 * (r : Int) + 17 = n + 17 * ((r + 1 : Nat) : Int) by omega, show q + 16 * (r : Int) + 16 = q + 16 * ((r + 1 : Nat) : Int) by omega] at hask
      have HA := Lib.hid hask
      clear hask hR
      go_wp2_with (go_at_call 133; refine HA.out.mono ?_; rintro e w2 ⟨rfl, hR2⟩)
      refine ⟨?rel, ?measure⟩
      case rel => exact ⟨r + 1, by omega, by go_num, Lib.hid hR2⟩
      case measure => simp [intOf]; omega
    · obtain rfl : r = i := by omega
      have hask := rdy_ask hR.out (HC.out.pass _) (by omega) false HB.out.2
      rw [cpass_pass _ _ _ (by omega) (by decide), show 16 * (r : Int) + 16 = 16 * ((r : Int) + 1) by omega, show n + 17 * (r : Int) + 17 = n + 17 * ((r : Int) + 1) by omega, show q + 16 * (r : Int) + 16 = q + 16 * ((r : Int) + 1) by omega] at hask
      have HA := Lib.hid hask
      clear hask hR
      go_wp2_with (go_at_call 133; refine HA.out.mono ?_; rintro e w2 ⟨rfl, hR2⟩)
      go_ret2
      exact ⟨rfl, hR2⟩
end Go.Proofs.YteombggfmeilaaaGreat
namespace Go.Proofs.YteombggfmeilaaaGreat
open Go.RowKit
def Cor.starts (c : Cor) (addr : Int) (j : Job) : Cor :=
  if !c.en then c
  else if c.prot ∧ addr < 2048 then { c with en := false }
  else { c with busy := c.busy.tail, wipes := fun k => if (k : Int) = j.sector then c.wipes k + 1 else c.wipes k, job := some { j with left := match c.busy with
    | [] => 8
    | d :: _ => d } }
theorem starts_at {s : St} {c : Cor} (h : At c s) (j : Job) : At (c.starts s.addr j) (s.starts j) := by
  obtain ⟨hcor, hsel⟩ := h
  subst hcor
  unfold Cor.starts St.starts
  show At (if !s.en then _ else if s.prot ∧ s.addr < 2048 then _ else _) _
  split
  · exact ⟨rfl, hsel⟩
  · split
    · exact ⟨rfl, hsel⟩
    · exact ⟨rfl, hsel⟩
theorem not_works {s : St} (hg : s.goes = false) (hj : s.job = none) : s.select.works = false ∧ s.select.sel = true := by
  rw [select_eq, hg]
  refine ⟨?_, rfl⟩
  show s.works = false
  unfold St.works
  rw [hj]
theorem prog_phs (k : Int) (bs : List Int) (hb : bs ≠ []) : cmdPhs (opOf 2) k bs 0 = [⟨1, [2], 0, 0⟩, ⟨1, [k / 65536, k / 256 % 256, k % 256], 0, 0⟩, ⟨1, bs, 0, 0⟩] := by
  have e : opOf 2 = ⟨2, 1, false, 0, 1, true⟩ := by kernel_rfl
  rw [e]
  unfold cmdPhs
  dsimp only
  rw [if_pos (by decide), if_neg (by decide), if_neg (by decide), if_pos ⟨rfl, hb⟩, if_neg (by decide)]
  rfl
theorem prog_many (k : Int) (bs : List Int) (hb : bs ≠ []) : phsMany (cmdPhs (opOf 2) k bs 0) = 32 + 8 * (bs.length : Int) := by
  rw [prog_phs k bs hb, phsMany_cons, phsMany_cons, phsMany_cons, many1, many1, many1]
  show ((1 : Int) + 0) * 8 + (((3 : Int) + 0) * 8 + (((bs.length : Int) + 0) * 8 + 0)) = _
  omega
theorem prog_all {c : Cor} {t : St} (h : At c t) (hg : c.goes = false) (hj : c.job = none) (k : Int) (hk : 0 ≤ k ∧ k < 4096) (bs : List Int) (hne : bs ≠ []) (hb : ∀ x ∈ bs, 0 ≤ x ∧ x ≤ 255) :
    ∃ d : Drv, Drv.phases ⟨t.select, [], 0, -1⟩ (cmdPhs (opOf 2) k bs 0) = (d, true) ∧ d.clocks = 32 + 8 * (bs.length : Int) ∧ d.out = [] ∧ At (c.starts k ⟨-1, k - k % 32, ⟨(pageOf k bs).toArray⟩, 0, false⟩) d.s.deselect := by
  have htg := h.goes.trans hg
  have htj := h.job.trans hj
  obtain ⟨hw, hs⟩ := not_works htg htj
  have hf := phases_free (cmdPhs (opOf 2) k bs 0) ⟨t.select, [], 0, -1⟩ (show (-1 : Int) < 0 by decide)
  dsimp only at hf
  have hins : phsIns (cmdPhs (opOf 2) k bs 0) = wordL [2, 0, k / 256, k % 256] ++ wordL bs := by
    rw [prog_phs k bs hne]
    unfold phsIns
    rw [List.flatMap_cons, List.flatMap_cons, List.flatMap_cons, List.flatMap_nil, ins_bytes1, ins_bytes1, ins_bytes1, List.append_nil, show k / 65536 = 0 by omega, show k / 256 % 256 = k / 256 by omega, ← List.append_assoc, ← wordL_app]
    rfl
  rw [hins, runC_still _ _ hw hs, runI_app, inn_head t htg htj k] at hf
  dsimp only at hf
  refine ⟨_, hf, ?_, ?_, ?_⟩
  · dsimp only
    rw [List.length_append, wordL_len, wordL_len]
    show (0 : Int) + ((8 * 4 + 8 * bs.length : Nat) : Int) = _
    omega
  · dsimp only
    rw [prog_phs k bs hne]
    rfl
  · dsimp only
    rw [inn_word _ _ _ _ hb, List.nil_append, addrOf_eq k hk]
    cases bs with
    | nil => exact absurd rfl hne
    | cons x xs =>
      rw [inn_off]
      refine starts_at (s := { (t.inn k (x :: xs)) with sel := false }) ⟨?_, rfl⟩ _
      exact h.cor
theorem rdy_prog {Q : Own} {c : Cor} {b k fo fi : Nat} {n q : Int} {w0 w : World} {rows : List (Value × List Value)} (h : Rdy Q c b k fo fi n q w0 w rows) (hg : c.goes = false) (hj : c.job = none) (at_ : Int) (hk : 0 ≤ at_ ∧ at_ < 4096) (a : Option Addr) (cp : Nat) (bs : List Int) (hdd : (.slice a bs.length cp, ints bs) ∈ rows) (hne : bs ≠ []) (hb : ∀ x ∈ bs, 0 ≤ x ∧ x ≤ 255) (hl : bs.length ≤ 512) (hn : n + (33 + 8 * (bs.length : Int)) ≤ 1048575) :
    Calls Tryz.prog 50 #[.pointer (some ⟨k, 0, none⟩), .int .i64 2, .int .i64 at_, .slice a bs.length cp, .int .i64 0] w fun e w' => ∃ oa oc, e = .returned (.tuple #[.slice oa 0 oc, .int .i64 0]) ∧ Rdy Q (c.starts at_ ⟨-1, at_ - at_ % 32, ⟨(pageOf at_ bs).toArray⟩, 0, false⟩) b k fo fi (n + (33 + 8 * (bs.length : Int))) (q + (32 + 8 * (bs.length : Int))) w0 w' rows := by
  have hby : bs.all byteB = true := by
    rw [List.all_eq_true]
    intro x hx
    have := hb x hx
    simp [byteB]
    omega
  have hmay : cmdMay (opOf 2) at_ bs 0 = true := by
    have e : opOf 2 = ⟨2, 1, false, 0, 1, true⟩ := by kernel_rfl
    rw [e]
    unfold cmdMay fitsB
    rw [hby]
    simp
    omega
  refine (rdy_run h 2 (by decide) (by decide) at_ a cp bs hdd 0 hmay _ [] (32 + 8 * (bs.length : Int)) (prog_many at_ bs hne) (by omega) (fun t ht => prog_all ht hg hj at_ hk bs hne hb)).mono ?_
  rintro e w' ⟨oa, oc, rfl, h2⟩
  refine ⟨oa, oc, rfl, ?_⟩
  rw [show n + (33 + 8 * (bs.length : Int)) = n + (32 + 8 * (bs.length : Int)) + 1 by omega]
  exact h2.rowsub fun r hr => List.mem_cons_of_mem _ hr
theorem works_pass {c : Cor} {j : Job} (hj : c.job = some j) (hs : j.susp = false) (n : Int) : (c.pass n).works = decide (n < j.left) := by
  rw [cor_pass hj hs]
  by_cases h : j.left ≤ n
  · rw [if_pos h]
    exact (decide_eq_false (by omega)).symm
  · rw [if_neg h, decide_eq_true (show n < j.left by omega)]
    show (!j.susp) = true
    rw [hs]
    rfl
theorem busy_asks {c : Cor} {j : Job} (_ : c.Ok) (hj : c.job = some j) (hs : j.susp = false) (r : Nat) : ((c.pass (16 * (r : Int))).pass 9).works = decide (16 * (r : Int) + 9 < j.left) := by
  rw [cpass_pass _ _ _ (by omega) (by decide), works_pass hj hs]
end Go.Proofs.YteombggfmeilaaaGreat
/- BurnM. -/
namespace Go.Proofs.YteombggfmeilaaaGreat
open Go.RowKit
def pagesF : Nat → Nat → Nat → List Nat
  | 0, _, _ => []
  | f + 1, a, n => if n = 0 then [] else min n (32 - a % 32) :: pagesF f (a + min n (32 - a % 32)) (n - min n (32 - a % 32))
def pagesL (a n : Nat) : List Nat := pagesF n a n
theorem pagesF_fuel : ∀ (f n g a : Nat), n ≤ f → n ≤ g → pagesF f a n = pagesF g a n := by
  intro f
  induction f with
  | zero =>
    intro n g a h1 h2
    obtain rfl : n = 0 := by omega
    cases g with
    | zero => rfl
    | succ g => rfl
  | succ f ih =>
    intro n g a h1 h2
    by_cases h0 : n = 0
    · subst h0
      cases g with
      | zero => rfl
      | succ g => rfl
    · cases g with
      | zero => omega
      | succ g =>
        unfold pagesF
        rw [if_neg h0, if_neg h0, ih _ g _ (by omega) (by omega)]
theorem pagesL_zero (a : Nat) : pagesL a 0 = [] := rfl
theorem pagesL_step (a n : Nat) (h : 0 < n) : pagesL a n = min n (32 - a % 32) :: pagesL (a + min n (32 - a % 32)) (n - min n (32 - a % 32)) := by
  unfold pagesL
  cases n with
  | zero => omega
  | succ n =>
    rw [pagesF, if_neg (by omega), pagesF_fuel n _ (n + 1 - min (n + 1) (32 - a % 32)) _ (by omega) (Nat.le_refl _)]
theorem pagesL_len (n : Nat) : ∀ a, (pagesL a n).length ≤ n ∧ (pagesL a n).length ≤ (n + a % 32 + 31) / 32 := by
  induction n using Nat.strongRecOn with
  | ind n ih =>
    intro a
    by_cases h : n = 0
    · subst h
      rw [pagesL_zero]
      exact ⟨Nat.le_refl _, Nat.zero_le _⟩
    · rw [pagesL_step a n (by omega), List.length_cons]
      have := ih (n - min n (32 - a % 32)) (by omega) (a + min n (32 - a % 32))
      by_cases hb : n ≤ 32 - a % 32
      · rw [Nat.min_eq_left hb, Nat.sub_self] at this ⊢
        rw [pagesL_zero] at *
        exact ⟨by show 0 + 1 ≤ n; omega, by show 0 + 1 ≤ _; omega⟩
      · rw [Nat.min_eq_right (by omega)] at this ⊢
        omega
def toI (bs : List UInt8) : List Int := bs.map fun c => ((c.toNat : Nat) : Int)
theorem toI_len (bs : List UInt8) : (toI bs).length = bs.length := List.length_map _
theorem toI_byte (bs : List UInt8) : ∀ x ∈ toI bs, 0 ≤ x ∧ x ≤ 255 := by
  intro x hx
  obtain ⟨c, -, rfl⟩ := List.mem_map.1 hx
  have := c.toNat_lt
  omega
theorem page_in (k : Int) (n : Nat) : ∀ (ds : List Int) (m : Nat), ds.length = n → n ≤ 32 → m < n → (pageOf k ds).getD ((k + (m : Int)) % 32).toNat 0 = UInt8.ofNat (ds.getD m 0 % 256).toNat := by
  induction n with
  | zero => intro ds m _ _ hm; omega
  | succ n ih =>
    intro ds m h0 h1 hm
    have hne : ds ≠ [] := by rintro rfl; simp at h0
    have hcat := List.dropLast_concat_getLast hne
    have hdl : ds.dropLast.length = n := by rw [List.length_dropLast]; omega
    rw [← hcat, page_snoc, getD_set _ _ _ _ (by rw [page_len]; omega), hdl]
    by_cases hmn : m = n
    · subst hmn
      rw [if_pos rfl, List.getD_eq_getElem?_getD, List.getElem?_append_right (by omega), hdl, Nat.sub_self]
      rfl
    · rw [if_neg (by omega), ih _ m hdl (by omega) (by omega), List.getD_eq_getElem?_getD, List.getD_eq_getElem?_getD, List.getElem?_append_left (by omega)]
def burnB (a : List UInt8) (k : Nat) (bs : List UInt8) : List UInt8 := a.mapIdx fun j x => if k ≤ j ∧ j < k + bs.length then x &&& bs.getD (j - k) 0 else x
theorem burnB_len (a : List UInt8) (k : Nat) (bs : List UInt8) : (burnB a k bs).length = a.length := List.length_mapIdx
theorem burnB_at (a : List UInt8) (k : Nat) (bs : List UInt8) (j : Nat) (hj : j < a.length) : (burnB a k bs).getD j 0 = if k ≤ j ∧ j < k + bs.length then a.getD j 0 &&& bs.getD (j - k) 0 else a.getD j 0 := by
  unfold burnB
  rw [List.getD_eq_getElem?_getD, List.getElem?_mapIdx, List.getElem?_eq_getElem hj, Option.map_some, Option.getD_some, show a.getD j 0 = a[j] from by rw [List.getD_eq_getElem?_getD, List.getElem?_eq_getElem hj, Option.getD_some]]
theorem burnB_nil (a : List UInt8) (k : Nat) : burnB a k [] = a := by
  refine ext_getD _ _ (burnB_len _ _ _) fun j hj => ?_
  rw [burnB_len] at hj
  rw [burnB_at _ _ _ _ hj, if_neg (by show ¬ (k ≤ j ∧ j < k + 0); omega)]
theorem burnB_parts (a : List UInt8) (k i : Nat) (bs : List UInt8) (hi : i ≤ bs.length) : burnB (burnB a k (bs.take i)) (k + i) (bs.drop i) = burnB a k bs := by
  refine ext_getD _ _ (by rw [burnB_len, burnB_len, burnB_len]) fun j hj => ?_
  rw [burnB_len, burnB_len] at hj
  rw [burnB_at _ _ _ _ (by rw [burnB_len]; exact hj), burnB_at _ _ _ _ hj, burnB_at _ _ _ _ hj, List.length_take, List.length_drop, Nat.min_eq_left hi]
  by_cases h1 : k ≤ j ∧ j < k + i
  · rw [if_neg (by omega), if_pos h1, if_pos (by omega), List.getD_eq_getElem?_getD (l := bs.take i), List.getElem?_take_of_lt (by omega), ← List.getD_eq_getElem?_getD]
  · by_cases h2 : k + i ≤ j ∧ j < k + i + (bs.length - i)
    · rw [if_pos h2, if_neg h1, if_pos (by omega), List.getD_eq_getElem?_getD (l := bs.drop i), List.getElem?_drop, show i + (j - (k + i)) = j - k by omega, ← List.getD_eq_getElem?_getD]
    · rw [if_neg h2, if_neg h1, if_neg (by omega)]
theorem page_cut (a : ByteArray) (ha : a.size = 4096) (k : Nat) (hk : k < 4096) (bs : List UInt8) (hb : k % 32 + bs.length ≤ 32) : (progCut a ((k : Int) - (k : Int) % 32).toNat ⟨(pageOf (k : Int) (toI bs)).toArray⟩ all255).data.toList = burnB a.data.toList k bs := by
  have hal : a.data.toList.length = 4096 := ha
  show wantN a (k : Int) (toI bs) = _
  refine ext_getD _ _ (by rw [wantN_len, burnB_len, hal, ha]) fun j hj => ?_
  rw [wantN_len, ha] at hj
  rw [wantN_at _ _ _ _ (by omega), burnB_at _ _ _ _ (by omega)]
  by_cases h1 : k ≤ j ∧ j < k + bs.length
  · rw [if_pos (by omega), if_pos h1]
    have := page_in (k : Int) bs.length (toI bs) (j - k) (toI_len bs) (by omega) (by omega)
    rw [show (j - ((k : Int) - (k : Int) % 32).toNat) = (((k : Int) + ((j - k : Nat) : Int)) % 32).toNat by omega, this]
    congr 1
    unfold toI
    rw [List.getD_eq_getElem?_getD, List.getElem?_map, List.getElem?_eq_getElem (show j - k < bs.length by omega), List.getD_eq_getElem?_getD, List.getElem?_eq_getElem (show j - k < bs.length by omega)]
    simp only [Option.map_some, Option.getD_some]
    apply UInt8.toNat_inj.1
    have := (bs[j - k]).toNat_lt
    rw [UInt8.toNat_ofNat']
    omega
  · rw [if_neg h1]
    by_cases h2 : ((k : Int) - (k : Int) % 32).toNat ≤ j ∧ j < ((k : Int) - (k : Int) % 32).toNat + 32
    · rw [if_pos h2]
      by_cases h3 : j < k
      · have := page_blank (k : Int) bs.length (toI bs) (j + 32 - k) (toI_len bs) (by omega) (by omega)
        rw [show (j - ((k : Int) - (k : Int) % 32).toNat) = (((k : Int) + ((j + 32 - k : Nat) : Int)) % 32).toNat by omega, this]
        exact andA _
      · have := page_blank (k : Int) bs.length (toI bs) (j - k) (toI_len bs) (by omega) (by omega)
        rw [show (j - ((k : Int) - (k : Int) % 32).toNat) = (((k : Int) + ((j - k : Nat) : Int)) % 32).toNat by omega, this]
        exact andA _
    · rw [if_neg h2]
end Go.Proofs.YteombggfmeilaaaGreat
/- Two. -/
namespace Go.Proofs.YteombggfmeilaaaGreat
open Go.RowKit
theorem Ctx.mapQ {P Q Q' : Own} {w0 w : World} {rows : List (Value × List Value)} (hC : Ctx P Q w0 w rows) (hQ' : Q'.Ok) (h : ∀ S, Q w S → Q' w S) : Ctx P Q' w0 w rows := by
  obtain ⟨S, ⟨A, B, hA, hB, hd, hS⟩, h2, h3⟩ := hC.all
  exact ⟨hC.okP, hQ', hC.upd, S, ⟨A, B, hA, h B hB, hd, hS⟩, h2, h3⟩
theorem Ctx.assoc {P Q R : Own} {w0 w : World} {rows : List (Value × List Value)} (hP : P.Ok) (hQ : Q.Ok) (hC : Ctx (P.star Q) R w0 w rows) : Ctx P (Q.star R) w0 w rows := by
  obtain ⟨S, ⟨A, B, ⟨C, D, hCC, hD, hd2, hS2⟩, hB, hd, hS⟩, h2, h3⟩ := hC.all
  refine ⟨hP, hQ.star hC.okQ, hC.upd, S, ⟨C, fun k => D k ∨ B k, hCC, ⟨D, B, hD, hB, fun k hk hb => hd k ((hS2 k).2 (.inr hk)) hb, fun _ => Iff.rfl⟩, ?_, fun k => ?_⟩, h2, h3⟩
  · rintro k hk (h | h)
    · exact hd2 k hk h
    · exact hd k ((hS2 k).2 (.inl hk)) h
  · rw [hS k, hS2 k, or_assoc]
theorem Ctx.assocR {P Q R : Own} {w0 w : World} {rows : List (Value × List Value)} (hQ : Q.Ok) (hR : R.Ok) (hC : Ctx P (Q.star R) w0 w rows) : Ctx (P.star Q) R w0 w rows := by
  obtain ⟨S, ⟨A, B, hA, ⟨C, D, hCC, hD, hd2, hS2⟩, hd, hS⟩, h2, h3⟩ := hC.all
  refine ⟨hC.okP.star hQ, hR, hC.upd, S, ⟨fun k => A k ∨ C k, D, ⟨A, C, hA, hCC, fun k hk hc => hd k hk ((hS2 k).2 (.inl hc)), fun _ => Iff.rfl⟩, hD, ?_, fun k => ?_⟩, h2, h3⟩
  · rintro k (hk | hk) h
    · exact hd k hk ((hS2 k).2 (.inr h))
    · exact hd2 k hk h
  · rw [hS k, hS2 k, or_assoc]
def RdyP (c : Cor) (b k fo fi : Nat) (n q : Int) : Own := fun w S => ∃ (s : St) (N : Int) (K : KS), At c s ∧ ((ChipP b s N).star (CtlC k b fo fi K)) w S ∧ 0 ≤ N ∧ N ≤ n ∧ K.left = -1 ∧ K.lost = false ∧ K.goes = false ∧ K.clocks = q ∧ 0 ≤ q ∧ q ≤ n ∧ n ≤ 1048575
theorem rdyP_ok (c : Cor) (b k fo fi : Nat) (n q : Int) : (RdyP c b k fo fi n q).Ok := by
  refine ⟨?_, ?_⟩
  · rintro w w' S T ⟨s, N, K, h1, h2, h3⟩ hu hT
    exact ⟨s, N, K, h1, ((chipP_ok b s N).star (ctlC_ok k b fo fi K)).frame h2 hu hT, h3⟩
  · rintro w S ⟨s, N, K, h1, h2, h3⟩ j hj
    exact ((chipP_ok b s N).star (ctlC_ok k b fo fi K)).lt h2 j hj
theorem Rdy.asP {Q : Own} {c : Cor} {b k fo fi : Nat} {n q : Int} {w0 w : World} {rows : List (Value × List Value)} (h : Rdy Q c b k fo fi n q w0 w rows) : Ctx (RdyP c b k fo fi n q) Q w0 w rows := by
  obtain ⟨s, N, K, hQ, hA, hC, h4⟩ := h
  have h1 := (hC.assocR (ctlC_ok k b fo fi K) hQ).commQ
  exact (h1.mapQ (rdyP_ok c b k fo fi n q) fun S hS => ⟨s, N, K, hA, hS, h4⟩).commQ
theorem Rdy.ofP {Q : Own} {c : Cor} {b k fo fi : Nat} {n q : Int} {w0 w : World} {rows : List (Value × List Value)} (h : Ctx (RdyP c b k fo fi n q) Q w0 w rows) : Rdy Q c b k fo fi n q w0 w rows := by
  obtain ⟨S, ⟨A, B, ⟨s, N, K, hA, hS, h4⟩, hB, hd, hSS⟩, h2, h3⟩ := h.all
  have hC : Ctx ((ChipP b s N).star (CtlC k b fo fi K)) Q w0 w rows := ⟨(chipP_ok b s N).star (ctlC_ok k b fo fi K), h.okQ, h.upd, S, ⟨A, B, hS, hB, hd, hSS⟩, h2, h3⟩
  exact ⟨s, N, K, h.okQ, hA, hC.assoc (chipP_ok b s N) (ctlC_ok k b fo fi K), h4⟩
theorem Rdy.swap {c c2 : Cor} {b k fo fi b2 k2 fo2 fi2 : Nat} {n q n2 q2 : Int} {w0 w : World} {rows : List (Value × List Value)} (h : Rdy (RdyP c2 b2 k2 fo2 fi2 n2 q2) c b k fo fi n q w0 w rows) : Rdy (RdyP c b k fo fi n q) c2 b2 k2 fo2 fi2 n2 q2 w0 w rows := Rdy.ofP h.asP.commQ
theorem Rdy.most {Q : Own} {c : Cor} {b k fo fi : Nat} {n m q : Int} {w0 w : World} {rows : List (Value × List Value)} (h : Rdy Q c b k fo fi n q w0 w rows) (hm : n ≤ m) (hm2 : m ≤ 1048575) : Rdy Q c b k fo fi m q w0 w rows := by
  obtain ⟨s, N, K, hQ, hA, hC, hN0, hN, hl, hlo, hgo, hkc, hq0, hqn, hn⟩ := h
  exact ⟨s, N, K, hQ, hA, hC, hN0, by omega, hl, hlo, hgo, hkc, hq0, by omega, hm2⟩
end Go.Proofs.YteombggfmeilaaaGreat
/- BurnP. -/
namespace Go.Proofs.YteombggfmeilaaaGreat
open Go.RowKit
def natI (xs : List Nat) : List Int := xs.map fun (m : Nat) => (m : Int)
theorem natI_len (xs : List Nat) : (natI xs).length = xs.length := List.length_map _
theorem natI_app (xs ys : List Nat) : natI (xs ++ ys) = natI xs ++ natI ys := List.map_append
set_option maxRecDepth 100000 in
set_option maxHeartbeats 4000000 in
theorem pages_ok (a n : Nat) (hn : n ≤ 512) (ha : a + n ≤ 4096) (w : World) :
    Calls Tryz.prog 67 #[.int .i64 (a : Int), .int .i64 (n : Int)] w fun e w' => ∃ v, e = .returned (.tuple #[v, .int .i64 0]) ∧ Row w' 3 v (ints (natI (pagesL a n))) ∧ (∀ g, v.ownBlock = some g → w.heap.size ≤ g) ∧ Upd none' w w' := by
  have hm := fetch_may (a : Int) (n : Int)
  rw [show fmayB (a : Int) (n : Int) = true from decide_eq_true (by omega)] at hm
  go_enter Tryz.func67, Tryz.ntmps67
  go_wp2_with (go_at_call 129; refine (hm _).mono ?_; rintro e w1 ⟨rfl, rfl⟩)
  clear hm
  go_loopw [0, 1, 6] (fun av nv ov wr => ∃ (p q : Nat) (D : List Nat), p + q = n ∧ D.length ≤ p ∧ av = .int .i64 ((a + p : Nat) : Int) ∧ nv = .int .i64 (q : Int) ∧ Hid (D ++ pagesL (a + p) q = pagesL a n) ∧ Row wr 3 ov (ints (natI D)) ∧ (∀ g, ov.ownBlock = some g → w.heap.size ≤ g) ∧ Upd none' w wr) (fun _ nv _ _ => (intOf nv).toNat)
  case atStart => exact ⟨0, n, [], by omega, Nat.le_refl 0, rfl, rfl, Lib.hid rfl, Row.nil _ _, fun k hk => (by simp [Value.ownBlock] at hk), Upd.refl _ _⟩
  case round =>
    obtain ⟨p, q, D, hpq, hDl, rfl, rfl, hD, hrow, hown, hU⟩ := hrel
    obtain ⟨oa, oc, rfl, -⟩ := hrow.form
    have hol : (ints (natI D)).length = D.length := by rw [ints_len, natI_len]
    rw [hol] at hrow hown ⊢
    obtain ⟨x, hx⟩ : ∃ x, a + p = x := ⟨_, rfl⟩
    rw [hx]
    by_cases hlt : 0 < q
    · obtain ⟨m, hm⟩ : ∃ m, min q (32 - x % 32) = m := ⟨_, rfl⟩
      have hst := pagesL_step x q hlt
      rw [hm] at hst
      have hmin1 : min (q : Int) (32 - (x : Int) % 32) = (m : Int) := by omega
      have hmin : (if (32 : Int) - (x : Int) % 32 < (q : Int) then (32 : Int) - (x : Int) % 32 else (q : Int)) = (m : Int) := by split <;> omega
      have hw2 : IntKind.i64.wrap ((x : Int) + (m : Int)) = ((x + m : Nat) : Int) := by rw [IntWalk.i64_in _ (by omega)]; omega
      have hw3 : IntKind.i64.wrap ((q : Int) - (m : Int)) = ((q - m : Nat) : Int) := by rw [IntWalk.i64_in _ (by omega)]; omega
      have HROW := Lib.hid hrow
      have HOWN := Lib.hid hown
      have HU := Lib.hid hU
      have HOL := Lib.hid hol
      have HST := Lib.hid hst
      have HD := Lib.hid hD.out
      have HM := Lib.hid (show 1 ≤ m ∧ m ≤ q by omega)
      clear hrow hown hU hol hst hD hm
      rename World => W2
      go_wp2_with (at_builtin; go_must (refine wpList_app1 rfl _ _ 33 rfl 3 (.int .i64 0) 8 Tryz.underlying33 info_int rfl _ (ints (natI D)) D.length HOL.out rfl W2 (.int .i64 (m : Int)) ⟨rfl, rfl, rfl⟩ HROW.out rfl rfl (by omega) (by omega) ?_); intro g cap w3 hR3 hU3 hg3 hgs3)
      refine ⟨?rel, ?measure⟩
      case rel =>
        have hg : w.heap.size ≤ g := by
          rcases hg3 with e | e
          · exact HOWN.out g e
          · have := HU.out.size; omega
        refine ⟨p + m, q - m, D ++ [m], by have := HM.out; omega, by rw [List.length_append]; have := HM.out; show D.length + 1 ≤ _; omega, by rw [← hx]; go_num, by go_num, Lib.hid ?_, ?_, ?_, ?_⟩
        · rw [← HD.out, hx, HST.out, List.append_assoc, ← Nat.add_assoc, hx]
          rfl
        · rw [natI_app, ints_app]
          exact hR3
        · intro k hk
          simp [Value.ownBlock] at hk
          rw [← hk]
          exact hg
        · exact HU.out.trans hU3 (fun k h1 h2 => absurd (HOWN.out k h2) (by omega))
      case measure => have := HM.out; simp [intOf]; omega
    · obtain rfl : q = 0 := by omega
      have hfin : D = pagesL a n := by
        have := hD.out
        rw [pagesL_zero, List.append_nil] at this
        exact this
      subst hfin
      go_wp2
      go_ret2
      exact ⟨.slice oa _ oc, rfl, hrow, hown, hU⟩
theorem Ctx.row {P Q : Own} {w0 w w' : World} {rows : List (Value × List Value)} (hC : Ctx P Q w0 w rows) (u : Upd none' w w') {r : Value × List Value} (hr : RS w' r.1 r.2) (hn : ∀ k, r.1.ownBlock = some k → w.heap.size ≤ k ∧ k < w'.heap.size) (hz : Mk w' r.1) : Ctx P Q w0 w' (r :: rows) := by
  obtain ⟨S, g1, g2, g3⟩ := hC.all
  refine ⟨hC.okP, hC.okQ, (hC.frame u).upd, S, (hC.okP.star hC.okQ).frame g1 u (fun _ _ f => f), g2, fun x hx => ?_⟩
  rcases List.mem_cons.1 hx with rfl | hx
  · exact ⟨hr, fun k hk => ⟨(hn k hk).2, fun hs => by have := (hC.okP.star hC.okQ).lt g1 _ hs; have := (hn k hk).1; omega⟩, fun k hk _ => hz k hk⟩
  · exact (g3 x hx).upd u (fun _ f => f.elim) (fun _ f => .inl f)
theorem Rdy.row {Q : Own} {c : Cor} {b k fo fi : Nat} {n q : Int} {w0 w w' : World} {rows : List (Value × List Value)} (h : Rdy Q c b k fo fi n q w0 w rows) (u : Upd none' w w') {r : Value × List Value} (hr : RS w' r.1 r.2) (hn : ∀ k, r.1.ownBlock = some k → w.heap.size ≤ k ∧ k < w'.heap.size) (hz : Mk w' r.1) : Rdy Q c b k fo fi n q w0 w' (r :: rows) := by
  obtain ⟨s, N, K, h1, h2, h3, h4⟩ := h
  exact ⟨s, N, K, h1, h2, h3.row u hr hn hz, h4⟩
def burnA (a : ByteArray) (k : Nat) (bs : List UInt8) : ByteArray := ⟨(burnB a.data.toList k bs).toArray⟩
theorem burnA_list (a : ByteArray) (k : Nat) (bs : List UInt8) : (burnA a k bs).data.toList = burnB a.data.toList k bs := rfl
theorem burnA_size (a : ByteArray) (k : Nat) (bs : List UInt8) : (burnA a k bs).size = a.size := burnB_len _ _ _
theorem burnA_nil (a : ByteArray) (k : Nat) : burnA a k [] = a := by
  unfold burnA
  rw [burnB_nil]
theorem burnA_parts (a : ByteArray) (k i : Nat) (bs : List UInt8) (hi : i ≤ bs.length) : burnA (burnA a k (bs.take i)) (k + i) (bs.drop i) = burnA a k bs := by
  unfold burnA
  rw [show (⟨(burnB a.data.toList k (bs.take i)).toArray⟩ : ByteArray).data.toList = burnB a.data.toList k (bs.take i) from rfl, burnB_parts _ _ _ _ hi]
structure Cor.Rest (c : Cor) : Prop where
  goes : c.goes = false
  job : c.job = none
  prot : c.prot = false
  busy : ∀ x ∈ c.busy, 1 ≤ x ∧ x ≤ 400
theorem rest_new (a : ByteArray) : (Cor.new a).Rest := ⟨rfl, rfl, rfl, fun x hx => by cases hx⟩
def Cor.long (c : Cor) : Int := match c.busy with
  | [] => 8
  | d :: _ => d
theorem Cor.Rest.long {c : Cor} (h : c.Rest) : 1 ≤ c.long ∧ c.long ≤ 400 := by
  unfold Cor.long
  split
  · omega
  · rename_i d ds hd
    exact h.busy d (by rw [hd]; exact List.mem_cons_self)
def Cor.burned (c : Cor) (k : Nat) (bs : List UInt8) : Cor := { c with a := burnA c.a k bs, en := false, busy := c.busy.tail, job := none }
theorem Cor.Rest.burned {c : Cor} (h : c.Rest) (k : Nat) (bs : List UInt8) : (c.burned k bs).Rest := ⟨h.goes, rfl, h.prot, fun x hx => h.busy x (List.mem_of_mem_tail hx)⟩
def Cor.pageJob (c : Cor) (k : Nat) (bs : List UInt8) : Job := ⟨-1, (k : Int) - (k : Int) % 32, ⟨(pageOf (k : Int) (toI bs)).toArray⟩, c.long, false⟩
def Cor.paged (c : Cor) (k : Nat) (bs : List UInt8) : Cor := { c with en := true, busy := c.busy.tail, job := some (c.pageJob k bs) }
theorem paged_eq {c : Cor} (h : c.Rest) (k : Nat) (bs : List UInt8) : ({ c with en := true } : Cor).starts (k : Int) ⟨-1, (k : Int) - (k : Int) % 32, ⟨(pageOf (k : Int) (toI bs)).toArray⟩, 0, false⟩ = c.paged k bs := by
  obtain ⟨h1, h2, h3, h4⟩ := h
  obtain ⟨a, prot, quad, en, goes, job, busy, wipes⟩ := c
  dsimp only at h1 h2 h3
  subst h1 h2 h3
  unfold Cor.starts Cor.paged Cor.pageJob Cor.long
  dsimp only
  rw [if_neg (by decide), if_neg (by simp)]
  congr 1
theorem paged_done {c : Cor} (hsz : c.a.size = 4096) (k : Nat) (hk : k < 4096) (bs : List UInt8) (hb : k % 32 + bs.length ≤ 32) (n : Int) (hn : c.long ≤ n) : (c.paged k bs).pass n = c.burned k bs := by
  rw [cor_pass (j := c.pageJob k bs) rfl rfl, if_pos (show (c.pageJob k bs).left ≤ n from hn)]
  unfold Cor.paged Cor.burned
  dsimp only
  congr 1
  have := page_cut c.a hsz k hk bs hb
  show (c.pageJob k bs).cells c.a all255 = burnA c.a k bs
  have e : (c.pageJob k bs).cells c.a all255 = progCut c.a ((k : Int) - (k : Int) % 32).toNat ⟨(pageOf (k : Int) (toI bs)).toArray⟩ all255 := if_pos rfl
  rw [e]
  apply ByteArray.ext
  apply Array.toList_inj.1
  rw [this]
  rfl
theorem toI_snoc (bs : List UInt8) (i : Nat) (h : i < bs.length) : toI (bs.take (i + 1)) = toI (bs.take i) ++ [(((bs.getD i 0).toNat : Nat) : Int)] := by
  unfold toI
  rw [List.take_add_one, List.map_append]
  simp [List.getD_eq_getElem?_getD, List.getElem?_eq_getElem h]
set_option maxRecDepth 100000 in
set_option maxHeartbeats 8000000 in
theorem rdy_page {Q : Own} {c : Cor} {b k fo fi : Nat} {n q : Int} {w0 w : World} {rows : List (Value × List Value)} (h : Rdy Q c b k fo fi n q w0 w rows) (hc : c.Rest) (hsz : c.a.size = 4096) (p : Nat) (hp : p < 4096) (t : ByteArray) (h1 : 1 ≤ t.size) (h2 : p % 32 + t.size ≤ 32) (hn : n + 800 ≤ 1048575) :
    Calls Tryz.prog 135 #[.pointer (some ⟨k, 0, none⟩), .int .i64 (p : Int), .string t] w fun e w' => e = .returned (.int .i64 0) ∧ ∃ q', Rdy Q (c.burned p t.data.toList) b k fo fi (n + 800) q' w0 w' rows := by
  obtain ⟨m, hm⟩ : ∃ m, t.size = m := ⟨_, rfl⟩
  have hml : t.data.toList.length = m := hm
  have hlo := hc.long
  obtain ⟨i, hi⟩ : ∃ i : Nat, i = ((c.long + 6) / 16).toNat := ⟨_, rfl⟩
  have hib : i ≤ 25 := by omega
  have HEN : Hid (∀ (w1 : World) (v : Value), Upd none' w w1 → Row w1 3 v (ints (toI t.data.toList)) → (∀ g, v.ownBlock = some g → w.heap.size < g) → Calls Tryz.prog 50 #[.pointer (some ⟨k, 0, none⟩), .int .i64 6, .int .i64 0, .slice none 0 0, .int .i64 0] w1 fun e w' => ∃ oa oc, e = .returned (.tuple #[.slice oa 0 oc, .int .i64 0]) ∧ Rdy Q { c with en := true } b k fo fi (n + 9) (q + 8) w0 w' ((v, ints (toI t.data.toList)) :: rows)) := Lib.hid (fun w1 v hu hr ho => rdy_en (h.row hu (hr.rs (by rw [ints_len, toI_len, hml]; omega)) (fun g hg => ⟨Nat.le_of_lt (ho g hg), hr.lt g hg⟩) hr.mk) hc.goes hc.job (by omega))
  have HPR : Hid (∀ (w1 : World) (a : Option Addr) (cp : Nat), Rdy Q { c with en := true } b k fo fi (n + 9) (q + 8) w0 w1 ((.slice a m cp, ints (toI t.data.toList)) :: rows) → Calls Tryz.prog 50 #[.pointer (some ⟨k, 0, none⟩), .int .i64 2, .int .i64 (p : Int), .slice a m cp, .int .i64 0] w1 fun e w' => ∃ oa oc, e = .returned (.tuple #[.slice oa 0 oc, .int .i64 0]) ∧ Rdy Q (c.paged p t.data.toList) b k fo fi (n + 9 + (33 + 8 * (m : Int))) (q + 8 + (32 + 8 * (m : Int))) w0 w' rows) := Lib.hid (fun w1 a cp hr => by
    have hl : (toI t.data.toList).length = m := by rw [toI_len, hml]
    have := rdy_prog hr hc.goes hc.job (p : Int) (by omega) a cp (toI t.data.toList) (by rw [hl]; exact List.mem_cons_self) (by rintro e; rw [e] at hl; simp at hl; omega) (toI_byte _) (by omega) (by omega)
    rw [hl, paged_eq hc] at this
    refine this.mono ?_
    rintro e w' ⟨oa, oc, rfl, hR⟩
    exact ⟨oa, oc, rfl, hR.rowsub fun r hr => List.mem_cons_of_mem _ hr⟩)
  have hok : (c.paged p t.data.toList).Ok := ⟨hc.goes, fun j hj => by
    have : c.pageJob p t.data.toList = j := Option.some.inj hj
    subst this
    exact hlo.1⟩
  have HW : Hid (∀ (w1 : World), Rdy Q (c.paged p t.data.toList) b k fo fi (n + 9 + (33 + 8 * (m : Int))) (q + 8 + (32 + 8 * (m : Int))) w0 w1 rows → Calls Tryz.prog 60 #[.pointer (some ⟨k, 0, none⟩), .int .i64 256] w1 fun e w' => e = .returned (.tuple #[.int .i64 ((i : Int) + 1), .int .i64 0]) ∧ ∃ q', Rdy Q (c.burned p t.data.toList) b k fo fi (n + 800) q' w0 w' rows) := Lib.hid (fun w1 hr => by
    have := rdy_wait hr hok i (fun r hr => by rw [busy_asks hok (j := c.pageJob p t.data.toList) rfl rfl]; exact decide_eq_true (show 16 * (r : Int) + 9 < c.long by omega)) (by rw [busy_asks hok (j := c.pageJob p t.data.toList) rfl rfl]; exact decide_eq_false (show ¬ 16 * (i : Int) + 9 < c.long by omega)) 256 (by omega) (by decide) (by omega)
    rw [paged_done hsz p hp _ (by rw [hml]; omega) _ (by omega)] at this
    refine this.mono ?_
    rintro e w' ⟨rfl, hR⟩
    exact ⟨rfl, _, hR.most (by omega) hn⟩)
  have kc := Lib.run_convert_string_bytes (P := Tryz.prog) w 9 23 5 t Tryz.underlying9 Tryz.underlying23 Tryz.underlying5
  have hBz := Buf.of_bytes w 5 t
  have hUz := upd_bytes w 5 t
  have HML := Lib.hid hml
  clear h hok hi hsz hc hml
  go_enter Tryz.func135, Tryz.ntmps135
  go_wp2
  clear kc
  go_loopw [7, 19] (fun dv iv wr => ∃ i : Nat, i ≤ m ∧ iv = .int .i64 (i : Int) ∧ Row wr 3 dv (ints (toI (t.data.toList.take i))) ∧ (∀ g, dv.ownBlock = some g → w.heap.size < g) ∧ Buf wr w.heap.size t.data.toList 5 ∧ Upd none' w wr) (fun _ iv _ => m - (intOf iv).toNat)
  case atStart => exact ⟨0, Nat.zero_le _, rfl, by rw [List.take_zero]; exact Row.nil _ _, fun k hk => (by simp [Value.ownBlock] at hk), hBz, hUz⟩
  case round =>
    clear hBz hUz
    obtain ⟨r, hr, rfl, hrow, hown, hB, hU⟩ := hrel
    obtain ⟨oa, oc, rfl, -⟩ := hrow.form
    have hol : (ints (toI (t.data.toList.take r))).length = r := by rw [ints_len, toI_len, List.length_take, HML.out, Nat.min_eq_left hr]
    rw [hol] at hrow hown ⊢
    rename World => W2
    by_cases hlt : r < m
    · obtain ⟨c0, hc0⟩ : ∃ c0, t.data.toList.getD r 0 = c0 := ⟨_, rfl⟩
      have hcell := hB.cell (j := r) (by rw [HML.out]; exact hlt)
      rw [hc0] at hcell
      have hcb := c0.toNat_lt
      have hw8 : IntKind.i64.wrap ((c0.toNat : Nat) : Int) = ((c0.toNat : Nat) : Int) := IntWalk.i64_in _ (by omega)
      have hsn := toI_snoc t.data.toList r (by rw [HML.out]; exact hlt)
      rw [hc0] at hsn
      have HSN := Lib.hid hsn
      have HROW := Lib.hid hrow
      have HOWN := Lib.hid hown
      have HB := Lib.hid hB
      have HU := Lib.hid hU
      have HOL := Lib.hid hol
      clear hrow hown hB hU hol hsn hc0
      go_wp2_with (at_builtin; go_must (refine wpList_app1 rfl _ _ 33 rfl 3 (.int .i64 0) 8 Tryz.underlying33 info_int rfl _ (ints (toI (t.data.toList.take r))) r HOL.out rfl W2 (.int .i64 ((c0.toNat : Nat) : Int)) ⟨rfl, rfl, rfl⟩ HROW.out rfl rfl (by omega) (by omega) ?_); intro g cap w3 hR3 hU3 hg3 hgs3)
      have hg : w.heap.size < g := by
        rcases hg3 with e | e
        · exact HOWN.out g e
        · have := HB.out.lt; omega
      refine ⟨?rel, ?measure⟩
      case rel =>
        refine ⟨r + 1, by omega, by go_num, ?_, ?_, ?_, ?_⟩
        · rw [HSN.out, ints_app]
          exact hR3
        · intro k hk
          simp [Value.ownBlock] at hk
          rw [← hk]
          exact hg
        · exact HB.out.upd hU3 (fun h2 => absurd (HOWN.out _ h2) (by omega))
        · exact HU.out.trans hU3 (fun k h1 h2 => absurd (HOWN.out k h2) (by omega))
      case measure => simp [intOf]; omega
    · obtain rfl : r = m := by omega
      rw [List.take_of_length_le (by rw [HML.out]; exact Nat.le_refl _)] at hrow
      have HE := Lib.hid (HEN.out W2 _ hU hrow hown)
      clear hrow hown hB hU hol HEN
      go_upto_region 10 with (go_at_call 50; refine HE.out.mono ?_; rintro e w3 ⟨oa3, oc3, rfl, hR3⟩)
      have HP := Lib.hid (HPR.out w3 oa oc hR3)
      clear hR3 HE HPR
      go_upto_region 13 with (go_at_call 50; refine HP.out.mono ?_; rintro e w4 ⟨oa4, oc4, rfl, hR4⟩)
      have HWW := Lib.hid (HW.out w4 hR4)
      clear hR4 HP HW
      go_wp2_with (go_at_call 60; refine HWW.out.mono ?_; rintro e w5 ⟨rfl, hR5⟩)
      go_ret
      exact ⟨rfl, hR5⟩
theorem image_at (x : Int) (w : World) : Calls Tryz.prog 134 #[.int .i64 x] w fun e w' => e = .returned (.bool (decide (0 ≤ x ∧ x < 2048))) ∧ w = w' := by
  by_cases h1 : 0 ≤ x
  · by_cases h2 : x < 2048
    · rw [decide_eq_true (⟨h1, h2⟩ : 0 ≤ x ∧ x < 2048)]
      go_enter Tryz.func134, Tryz.ntmps134
      go_wp2
      go_ret
      exact ⟨rfl, rfl⟩
    · rw [decide_eq_false (by omega : ¬ (0 ≤ x ∧ x < 2048))]
      go_enter Tryz.func134, Tryz.ntmps134
      go_wp2
      go_ret
      exact ⟨rfl, rfl⟩
  · rw [decide_eq_false (by omega : ¬ (0 ≤ x ∧ x < 2048))]
    go_enter Tryz.func134, Tryz.ntmps134
    go_wp2
    go_ret
    exact ⟨rfl, rfl⟩
theorem pages_no (a n : Int) (h : fmayB a n = false) (w : World) :
    Calls Tryz.prog 67 #[.int .i64 a, .int .i64 n] w fun e w' => e = .returned (.tuple #[.slice none 0 0, .int .i64 1700]) ∧ w = w' := by
  have hm := fetch_may a n
  rw [h] at hm
  go_enter Tryz.func67, Tryz.ntmps67
  go_wp2_with (go_at_call 129; refine (hm _).mono ?_; rintro e w1 ⟨rfl, rfl⟩)
  go_ret2
  exact ⟨rfl, rfl⟩
theorem burn_nil (a : Int) (t : ByteArray) (w : World) :
    Calls Tryz.prog 66 #[.pointer none, .int .i64 a, .string t] w fun e w' => e = .returned (.int .i64 1) ∧ w = w' := by
  go_enter Tryz.func66, Tryz.ntmps66
  go_wp2
  go_ret
  exact ⟨rfl, rfl⟩
theorem burn_no (k : Nat) (a : Int) (t : ByteArray) (h : fmayB a (t.size : Int) = false) (w : World) :
    Calls Tryz.prog 66 #[.pointer (some ⟨k, 0, none⟩), .int .i64 a, .string t] w fun e w' => e = .returned (.int .i64 1700) ∧ w = w' := by
  have hm := pages_no a (t.size : Int) h
  clear h
  go_enter Tryz.func66, Tryz.ntmps66
  go_wp2_with (go_at_call 67; refine (hm _).mono ?_; rintro e w1 ⟨rfl, rfl⟩)
  go_ret
  exact ⟨rfl, rfl⟩
theorem burn_image (k : Nat) (a : Nat) (t : ByteArray) (hl : t.size ≤ 512) (ha : a + t.size ≤ 4096) (h1 : 1 ≤ t.size) (h2 : a < 2048) (w : World) :
    Calls Tryz.prog 66 #[.pointer (some ⟨k, 0, none⟩), .int .i64 (a : Int), .string t] w fun e w' => e = .returned (.int .i64 1701) ∧ Upd none' w w' := by
  have hm := pages_ok a t.size hl ha
  have hi := image_at (a : Int)
  rw [decide_eq_true (by omega : 0 ≤ (a : Int) ∧ (a : Int) < 2048)] at hi
  have hne := str_nonempty t h1
  go_enter Tryz.func66, Tryz.ntmps66
  go_wp2_with (first | (go_at_call 134; refine (hi _).mono ?_; rintro e w2 ⟨rfl, rfl⟩) | (go_at_call 67; refine (hm _).mono ?_; rintro e w1 ⟨v, rfl, hrow, hown, hU⟩))
  go_ret
  exact ⟨rfl, hU⟩
theorem burn_empty (k : Nat) (a : Nat) (ha : a ≤ 4096) (w : World) :
    Calls Tryz.prog 66 #[.pointer (some ⟨k, 0, none⟩), .int .i64 (a : Int), .string ⟨#[]⟩] w fun e w' => e = .returned (.int .i64 0) ∧ Upd none' w w' := by
  have hm := pages_ok a 0 (by omega) (by omega)
  rw [pagesL_zero] at hm
  go_enter Tryz.func66, Tryz.ntmps66
  go_wp2_with (go_at_call 67; refine (hm _).mono ?_; rintro e w1 ⟨v, rfl, hrow, hown, hU⟩; obtain ⟨oa, oc, rfl, -⟩ := hrow.form)
  clear hm
  go_loopw [34] (fun iv wr => iv = .int .i64 0 ∧ Upd none' w wr) (fun _ _ => 0)
  case atStart => exact ⟨rfl, hU⟩
  case round =>
    obtain ⟨rfl, hU2⟩ := hrel
    go_wp2
    go_ret
    exact ⟨rfl, hU2⟩
end Go.Proofs.YteombggfmeilaaaGreat
