/- What stands between the document's chip and the chip holds behind each call: a clock, a Select, a Deselect, a Loss, a Next. · The walks over the document's chip's Select, Next. · The walk over the document's chip's Next. · The walk over the document's chip's Loss. · The walk over the document's chip's begin. -/
import Derived.Test.YteombggfmeilaaaGreatRmM
import Derived.Test.YteombggfmeilaaaGreatChip
import Derived.Test.YteombggfmeilaaaGreatRmE
import Derived.Laws.AppendOwnNone
import Derived.Test.YteombggfmeilaaaGreatRefNew
import Derived.Deep.MidRow
namespace Go.Proofs.YteombggfmeilaaaGreat
open Go.RowKit
theorem pass_sel' (s : St) : s.pass.sel = s.sel ∧ s.pass.op = s.op ∧ s.pass.stage = s.stage ∧ s.pass.left = s.left ∧ s.pass.got = s.got := by
  unfold St.pass
  cases s.job with
  | none => exact ⟨rfl, rfl, rfl, rfl, rfl⟩
  | some j =>
    dsimp only
    split
    · exact ⟨rfl, rfl, rfl, rfl, rfl⟩
    · split <;> exact ⟨rfl, rfl, rfl, rfl, rfl⟩
theorem clock_rel {r : RSt} {s : St} {N : Int} (h : Rel r s) (hI : s.InvW N) (x : Int) : Rel (r.clock x).1 (s.clock x).1 ∧ (r.clock x).2 = (s.clock x).2 := by
  have hp := h.pass hI.1.job
  obtain ⟨e1, e2, e3, e4, e5⟩ := pass_sel' s
  obtain ⟨c, hc⟩ := hI.1.op
  unfold RSt.clock St.clock
  dsimp only
  rw [hp.sel]
  cases hs : s.pass.sel with
  | false =>
    simp only [Bool.false_eq_true, if_false]
    exact ⟨hp, trivial⟩
  | true =>
    simp only [if_true]
    refine clockIn_rel hp hs (c := c) (by rw [e2]; exact hc) ?_ x
    have := hI.2 (by rw [← e1]; exact hs)
    unfold St.Part at this ⊢
    rw [e2, e3, e4, e5]
    exact this
theorem new_rel (a : ByteArray) : Rel (RSt.new a) (St.new a) := ⟨rfl, rfl, rfl, rfl, rfl, rfl, rfl, rfl, ⟨rfl, rfl⟩, fun h => absurd h (by simp [St.new])⟩
theorem loss_rel {r : RSt} {s : St} (h : Rel r s) (mask : ByteArray) : Rel (r.loss mask) (s.loss mask) := by
  refine ⟨?_, h.prot, h.quad, h.wipes, rfl, rfl, rfl, rfl, ⟨rfl, rfl⟩, fun h => absurd h (by simp [St.loss, St.new])⟩
  have hj := h.job
  show (if r.kind = 2 then progCut r.a r.att.toNat r.jdata mask else if r.kind = 32 then eraseCut r.a (r.att / 512).toNat mask else r.a) = (match s.job with
    | some j => j.cells s.a mask
    | none => s.a)
  cases hjo : s.job with
  | none =>
    rw [hjo] at hj
    rw [if_neg (by rw [hj.1]; decide), if_neg (by rw [hj.1]; decide), h.a]
  | some j =>
    rw [hjo] at hj
    obtain ⟨_, _, h3⟩ := hj
    dsimp only
    unfold Job.cells
    rcases h3 with ⟨e1, e2, e3, e4⟩ | ⟨e1, e2, e3, e4, e5⟩
    · rw [if_pos e2, if_pos e1, e3, e4, h.a]
    · rw [if_neg (by omega), if_neg e1, if_pos e2, ← e5, h.a]
theorem next_rel {r : RSt} {s : St} (h : Rel r s) (xs : List Int) : Rel { r with busy := xs } { s with busy := xs } :=
  ⟨h.a, h.prot, h.quad, h.wipes, h.sel, h.en, h.goes, rfl, by
    have hj := h.job
    show RJob { r with busy := xs } s.job
    cases hjo : s.job <;> rw [hjo] at hj <;> exact hj, fun hh => by
    have g := h.cmd hh
    exact ⟨g.op, g.known, g.taken, g.modes, g.inn, g.sent, g.addr, g.mode, g.moded, g.clk, g.bey, g.dm, g.d0, g.ns, g.part⟩⟩
theorem begins_same (s : St) (c : Int) : SameS (s.begins c) s := by
  unfold St.begins
  dsimp only
  split
  · exact SameS.refl s
  · split
    · exact SameS.refl s
    · exact SameS.behind (SameS.refl s)
theorem select_rel {r : RSt} {s : St} (h : Rel r s) : Rel r.select s.select := by
  have h1 : Rel { r with sel := true, op := op0, taken := false, known := false, bits := 0, x := 0, part := 0, modes := false, inn := [], clocks := 0, sent := 0 } { s with sel := true, op := op0, stage := 0, left := 8, got := 0, addr := 0, mode := 0, moded := false, data := [], told := 0, now := 0, beyond := false } :=
    ⟨h.a, h.prot, h.quad, h.wipes, rfl, h.en, h.goes, h.busy, by
      have hj := h.job
      show RJob _ s.job
      cases hjo : s.job <;> rw [hjo] at hj <;> exact hj, fun _ =>
      ⟨rfl, rfl, rfl, rfl, rfl, rfl, fun h => absurd rfl h, fun h => absurd h (by simp), fun h => absurd h (by simp), Int.le_refl 0, fun _ => rfl, fun h => absurd h (by simp), fun h => absurd h (by simp), fun h => absurd rfl h, .inl ⟨rfl, rfl, rfl⟩⟩⟩
  unfold RSt.select St.select
  dsimp only
  by_cases hg : s.goes = true
  · rw [if_pos (h.goes.trans hg), if_pos hg]
    exact h1.next (SameR.refl _) (begins_same _ _) (fun _ => command_rel h1 235 rfl rfl rfl rfl rfl)
  · rw [if_neg (by rw [h.goes]; exact hg), if_neg hg]
    exact h1
theorem alone_whole {r : RSt} {s : St} (g : RCmd r s) (hp : s.Part) (hi : s.op.inn = false) (hd : s.op.data = 0) : s.stage = 0 ∨ s.stage = 1 ∨ s.whole = r.alone := by
  unfold St.whole RSt.alone
  rw [if_neg (by rw [hi]; decide), if_pos hd]
  rcases g.part with ⟨hst, _⟩ | hst | ⟨hst, p0, _⟩ | ⟨hst, p0, _⟩ | ⟨hst, p0, _⟩ | ⟨hst, p0, _⟩ | ⟨hst, p0, _⟩ | ⟨hst, p0, p1⟩
  · exact .inl hst
  · exact .inr (.inl hst)
  · exact .inr (.inr (by simp [hst, p0]))
  · exact .inr (.inr (by simp [hst, p0]))
  · exact .inr (.inr (by simp [hst, p0]))
  · rcases hp with k | k | k | k | k | k | k | k
    · omega
    · omega
    · omega
    · omega
    · omega
    · rw [hi] at k; exact absurd k.2.1 (by decide)
    · omega
    · omega
  · rcases hp with k | k | k | k | k | k | k | k
    · omega
    · omega
    · omega
    · omega
    · omega
    · omega
    · omega
    · omega
  · refine .inr (.inr ?_)
    rw [← p1]
    simp [hst, p0]
theorem in_whole {r : RSt} {s : St} (g : RCmd r s) (hp : s.Part) (hi : s.op.inn = true) (hd : s.op.data = 1) : s.stage = 0 ∨ s.stage = 1 ∨ s.whole = decide (r.part = 4 ∧ r.bits = 0) := by
  unfold St.whole
  rw [if_pos hi, hd]
  rcases g.part with ⟨hst, _⟩ | hst | ⟨hst, p0, _⟩ | ⟨hst, p0, _⟩ | ⟨hst, p0, _⟩ | ⟨hst, p0, _, p2⟩ | ⟨hst, p0, _⟩ | ⟨hst, p0, p1⟩
  · exact .inl hst
  · exact .inr (.inl hst)
  · exact .inr (.inr (by simp [hst, p0]))
  · exact .inr (.inr (by simp [hst, p0]))
  · exact .inr (.inr (by simp [hst, p0]))
  · refine .inr (.inr ?_)
    simp only [hst, p0, true_and]
    rw [p2]
    by_cases h8 : s.left = 8
    · simp [h8]
    · have e1 : ¬ (8 - s.left = 0) := by omega
      simp [e1, h8]
  · rcases hp with k | k | k | k | k | k | k | k
    · omega
    · omega
    · omega
    · omega
    · omega
    · omega
    · rw [hi] at k; exact absurd k.2.1 (by decide)
    · omega
  · have := g.d0 hst
    omega
theorem rends235 {r : RSt} (ht : r.taken = true) (ho : r.op = opOf 235) : r.ends = { r with goes := r.modes && decide (r.mode = 160) } := by unfold RSt.ends; rw [ht, ho]; rfl
theorem rends6 {r : RSt} (ht : r.taken = true) (ho : r.op = opOf 6) : r.ends = { r with en := r.en || r.alone } := by unfold RSt.ends; rw [ht, ho]; rfl
theorem rends4 {r : RSt} (ht : r.taken = true) (ho : r.op = opOf 4) : r.ends = { r with en := r.en && !r.alone } := by unfold RSt.ends; rw [ht, ho]; rfl
theorem rends117 {r : RSt} (ht : r.taken = true) (ho : r.op = opOf 117) : r.ends = { r with susp := r.susp || (r.alone && decide (r.kind = 32)) } := by unfold RSt.ends; rw [ht, ho]; rfl
theorem rends122 {r : RSt} (ht : r.taken = true) (ho : r.op = opOf 122) : r.ends = { r with susp := r.susp && !r.alone } := by unfold RSt.ends; rw [ht, ho]; rfl
theorem rends32 {r : RSt} (ht : r.taken = true) (ho : r.op = opOf 32) : r.ends = if r.alone then r.begins else r := by unfold RSt.ends; rw [ht, ho]; rfl
theorem rends2 {r : RSt} (ht : r.taken = true) (ho : r.op = opOf 2) : r.ends = if r.part = 4 ∧ r.bits = 0 then (if r.inn = [] then r else r.begins) else r := by
  unfold RSt.ends
  rw [ht, ho]
  rw [if_neg (by decide), if_neg (by decide)]
  by_cases h : r.part = 4 ∧ r.bits = 0
  · rw [if_neg (by intro hh; rcases hh.2 with e | e; exact e h.1; exact e h.2), if_pos h]
    rfl
  · rw [if_pos ⟨rfl, by omega⟩, if_neg h]
theorem rends1 {r : RSt} (ht : r.taken = true) (ho : r.op = opOf 1) : r.ends = if r.part = 4 ∧ r.bits = 0 then (if r.en ∧ r.inn.length = 2 then { r with prot := decide (r.inn.getD 0 0 / 4 % 2 = 1), quad := decide (r.inn.getD 1 0 / 2 % 2 = 1), en := false } else r) else r := by
  unfold RSt.ends
  rw [ht, ho]
  rw [if_neg (by decide), if_neg (by decide)]
  by_cases h : r.part = 4 ∧ r.bits = 0
  · rw [if_neg (by intro hh; rcases hh.2 with e | e; exact e h.1; exact e h.2), if_pos h]
    rfl
  · rw [if_pos ⟨rfl, by omega⟩, if_neg h]
theorem rendsO {r : RSt} (ht : r.taken = true) {k : Int} (hk : k = 3 ∨ k = 5 ∨ k = 53 ∨ k = 90 ∨ k = 107 ∨ k = 159) (ho : r.op = opOf k) : r.ends = r := by
  unfold RSt.ends
  rw [ht, ho]
  rcases hk with e | e | e | e | e | e <;> subst e <;> rfl
theorem sendsO {s : St} {k : Int} (hk : k = 3 ∨ k = 5 ∨ k = 53 ∨ k = 90 ∨ k = 107 ∨ k = 159) (ho : s.op = opOf k) : s.ends = s := by
  unfold St.ends
  rw [ho]
  split
  · rfl
  · rcases hk with e | e | e | e | e | e <;> subst e <;> rfl
theorem begins_rel {r : RSt} {s : St} (h : Rel r s) (hs : s.sel = false) (ho : r.op = s.op) (ha : r.addr = s.addr) (hb : 0 ≤ s.addr ∧ s.addr < 4096) (hsu : r.susp = false) (hi : r.inn = s.data) : (s.op.byte = 32 → Rel r.begins (s.starts ⟨s.addr / 512, 0, ⟨#[]⟩, 0, false⟩)) ∧
    (s.op.byte = 2 → Rel r.begins (s.starts ⟨-1, s.addr - s.addr % 32, ⟨(pageOf s.addr s.data).toArray⟩, 0, false⟩)) := by
  have hoff : Rel { r with en := false } { s with en := false } := ⟨h.a, h.prot, h.quad, h.wipes, h.sel, rfl, h.goes, h.busy, by
    have hj := h.job
    show RJob _ s.job
    cases hjo : s.job <;> rw [hjo] at hj <;> exact hj, fun hh => absurd hh (by show ¬ s.sel = true; rw [hs]; decide)⟩
  have hleft : (match r.busy with
      | [] => 8
      | d :: _ => d) = (match s.busy with
      | [] => (8 : Int)
      | d :: _ => d) := by rw [h.busy]
  by_cases he : s.en = true
  · have her : r.en = true := h.en.trans he
    by_cases hp : s.prot = true ∧ s.addr < 2048
    · have hpr : r.prot = true ∧ r.addr < 2048 := by rw [h.prot, ha]; exact hp
      have e1 : r.begins = { r with en := false } := by unfold RSt.begins; rw [if_neg (by rw [her]; decide), if_pos hpr]
      have e2 : ∀ j, s.starts j = { s with en := false } := fun j => by unfold St.starts; rw [if_neg (by rw [he]; decide), if_pos hp]
      rw [e1, e2, e2]
      exact ⟨fun _ => hoff, fun _ => hoff⟩
    · have hpr : ¬ (r.prot = true ∧ r.addr < 2048) := by rw [h.prot, ha]; exact hp
      refine ⟨fun hk => ?_, fun hk => ?_⟩
      · unfold RSt.begins St.starts
        rw [if_neg (show ¬ (!r.en) = true by rw [her]; decide), if_neg hpr, if_neg (show ¬ (!s.en) = true by rw [he]; decide), if_neg hp]
        dsimp only
        rw [if_pos (by rw [ho]; exact hk)]
        refine ⟨h.a, h.prot, h.quad, ?_, h.sel, h.en, h.goes, ?_, ⟨hleft, hsu, .inr ⟨?_, rfl, ?_, ?_, ?_⟩⟩, fun hh => absurd hh (by show ¬ s.sel = true; rw [hs]; decide)⟩
        · show (fun k : Nat => if (k : Int) = r.addr / 512 then r.wipes k + 1 else r.wipes k) = fun k : Nat => if (k : Int) = s.addr / 512 then s.wipes k + 1 else s.wipes k
          rw [h.wipes, ha]
        · show r.busy.tail = s.busy.tail
          rw [h.busy]
        · show s.addr / 512 ≠ -1
          omega
        · show 0 ≤ r.addr
          omega
        · show r.addr < 4096
          omega
        · show s.addr / 512 = r.addr / 512
          rw [ha]
      · unfold RSt.begins St.starts
        rw [if_neg (show ¬ (!r.en) = true by rw [her]; decide), if_neg hpr, if_neg (show ¬ (!s.en) = true by rw [he]; decide), if_neg hp]
        dsimp only
        rw [if_neg (by rw [ho]; omega)]
        refine ⟨h.a, h.prot, h.quad, ?_, h.sel, h.en, h.goes, ?_, ⟨hleft, hsu, .inl ⟨rfl, ?_, ?_, ?_⟩⟩, fun hh => absurd hh (by show ¬ s.sel = true; rw [hs]; decide)⟩
        · show r.wipes = fun k : Nat => if (k : Int) = -1 then s.wipes k + 1 else s.wipes k
          rw [h.wipes]
          funext k
          rw [if_neg (by omega)]
        · show r.busy.tail = s.busy.tail
          rw [h.busy]
        · show r.op.byte = 2
          rw [ho]
          exact hk
        · show r.addr / 32 * 32 = s.addr - s.addr % 32
          omega
        · show (⟨(pageOf r.addr r.inn).toArray⟩ : ByteArray) = ⟨(pageOf s.addr s.data).toArray⟩
          rw [ha, hi]
  · have her : ¬ r.en = true := by rw [h.en]; exact he
    have e1 : r.begins = r := by unfold RSt.begins; rw [if_pos (by simpa using her)]
    have e2 : ∀ j, s.starts j = s := fun j => by unfold St.starts; rw [if_pos (by simpa using he)]
    rw [e1, e2, e2]
    exact ⟨fun _ => h, fun _ => h⟩
theorem sendsW {s : St} (hw : s.whole = false) : s.ends = s := by unfold St.ends; rw [if_pos (.inr (.inr hw))]
theorem sends_in {s : St} (hst : ¬ (s.stage = 0 ∨ s.stage = 1)) (hw : s.whole = true) : ¬ (s.stage = 0 ∨ s.stage = 1 ∨ s.whole = false) := by
  rw [hw]
  intro h
  rcases h with h | h | h
  · exact hst (.inl h)
  · exact hst (.inr h)
  · exact absurd h (by decide)
theorem sends6 {s : St} (hst : ¬ (s.stage = 0 ∨ s.stage = 1)) (hw : s.whole = true) (ho : s.op = opOf 6) : s.ends = { s with en := true } := by unfold St.ends; rw [if_neg (sends_in hst hw), ho]; rfl
theorem sends4 {s : St} (hst : ¬ (s.stage = 0 ∨ s.stage = 1)) (hw : s.whole = true) (ho : s.op = opOf 4) : s.ends = { s with en := false } := by unfold St.ends; rw [if_neg (sends_in hst hw), ho]; rfl
theorem sends235 {s : St} (hst : ¬ (s.stage = 0 ∨ s.stage = 1)) (hw : s.whole = true) (ho : s.op = opOf 235) : s.ends = { s with goes := s.moded && decide (s.mode = 160) } := by unfold St.ends; rw [if_neg (sends_in hst hw), ho]; rfl
theorem sends117 {s : St} (hst : ¬ (s.stage = 0 ∨ s.stage = 1)) (hw : s.whole = true) (ho : s.op = opOf 117) : s.ends = (match s.job with
    | some j => if j.sector = -1 then s else { s with job := some { j with susp := true } }
    | none => s) := by unfold St.ends; rw [if_neg (sends_in hst hw), ho]; rfl
theorem sends122 {s : St} (hst : ¬ (s.stage = 0 ∨ s.stage = 1)) (hw : s.whole = true) (ho : s.op = opOf 122) : s.ends = (match s.job with
    | some j => { s with job := some { j with susp := false } }
    | none => s) := by unfold St.ends; rw [if_neg (sends_in hst hw), ho]; rfl
theorem sends1 {s : St} (hst : ¬ (s.stage = 0 ∨ s.stage = 1)) (hw : s.whole = true) (ho : s.op = opOf 1) : s.ends = if s.en ∧ s.data.length = 2 then { s with prot := decide (s.data.getD 0 0 / 4 % 2 = 1), quad := decide (s.data.getD 1 0 / 2 % 2 = 1), en := false } else s := by unfold St.ends; rw [if_neg (sends_in hst hw), ho]; rfl
theorem sends2 {s : St} (hst : ¬ (s.stage = 0 ∨ s.stage = 1)) (hw : s.whole = true) (ho : s.op = opOf 2) : s.ends = if s.data = [] then s else s.starts ⟨-1, s.addr - s.addr % 32, ⟨(pageOf s.addr s.data).toArray⟩, 0, false⟩ := by unfold St.ends; rw [if_neg (sends_in hst hw), ho]; rfl
theorem sends32 {s : St} (hst : ¬ (s.stage = 0 ∨ s.stage = 1)) (hw : s.whole = true) (ho : s.op = opOf 32) : s.ends = s.starts ⟨s.addr / 512, 0, ⟨#[]⟩, 0, false⟩ := by unfold St.ends; rw [if_neg (sends_in hst hw), ho]; rfl
theorem rsame {r : RSt} {s : St} (h : Rel r s) (hs : s.sel = false) (r' : RSt) (s' : St) (e1 : r'.a = r.a) (e2 : r'.prot = s'.prot) (e3 : r'.quad = s'.quad) (e4 : r'.wipes = r.wipes) (e5 : r'.sel = r.sel) (e6 : r'.en = s'.en) (e7 : r'.goes = s'.goes) (e8 : r'.busy = r.busy)
    (f1 : s'.a = s.a) (f4 : s'.wipes = s.wipes) (f5 : s'.sel = s.sel) (f8 : s'.busy = s.busy) (hj : RJob r' s'.job) : Rel r' s' :=
  ⟨e1.trans (h.a.trans f1.symm), e2, e3, e4.trans (h.wipes.trans f4.symm), e5.trans (h.sel.trans f5.symm), e6, e7, e8.trans (h.busy.trans f8.symm), hj, fun hh => absurd hh (by rw [f5, hs]; decide)⟩
theorem ends_rel {r : RSt} {s : St} (h : Rel r s) (hs : s.sel = false) (ht : r.taken = true) (hst : ¬ (s.stage = 0 ∨ s.stage = 1)) (c : Int) (hc : s.op = opOf c) (ho : r.op = s.op) (hw0 : s.op.inn = false → s.op.data = 0 → s.whole = r.alone) (hw1 : s.op.inn = true → s.op.data = 1 → s.whole = decide (r.part = 4 ∧ r.bits = 0))
    (hi : r.inn = s.data) (hm : r.modes = s.moded) (hmo : s.moded = true → r.mode = s.mode) (haw : s.stage ≠ 2 → s.op.addr ≠ 0 → r.addr = s.addr) (hab : 0 ≤ s.addr ∧ s.addr < 4096) (hns : s.op.byte = 2 ∨ s.op.byte = 32 → r.susp = false) : Rel r.ends s.ends := by
  have hro : r.op = opOf c := ho.trans hc
  have hj0 := h.job
  cases hb : opIs c with
  | false =>
    have e0 : opOf c = op0 := by
      simp only [opIs, decide_eq_false_iff_not] at hb
      unfold opOf
      rw [if_neg (by omega), if_neg (by omega), if_neg (by omega), if_neg (by omega), if_neg (by omega), if_neg (by omega), if_neg (by omega), if_neg (by omega), if_neg (by omega)]
    rw [e0] at hc hro
    have k1 : r.ends = r := by unfold RSt.ends; rw [ht, hro]; rfl
    have k2 : s.ends = s := by
      unfold St.ends
      rw [hc]
      split
      · rfl
      · rfl
    rw [k1, k2]
    exact h
  | true =>
    simp only [opIs, decide_eq_true_eq] at hb
    rcases hb with hb | hb | hb | hb | hb | hb | hb | hb | hb | hb | hb | hb | hb | hb
    · -- 1
      subst hb
      have hw := hw1 (by rw [hc]; rfl) (by rw [hc]; rfl)
      rw [rends1 ht hro]
      cases hq : s.whole with
      | false =>
        rw [hq] at hw
        rw [sendsW hq, if_neg (by simpa using hw.symm)]
        exact h
      | true =>
        rw [hq] at hw
        rw [sends1 hst hq hc, if_pos (by simpa using hw.symm), h.en, hi]
        by_cases hh : s.en = true ∧ s.data.length = 2
        · rw [if_pos hh, if_pos hh]
          exact rsame h hs _ _ rfl rfl rfl rfl rfl rfl h.goes rfl rfl rfl rfl rfl (by
            cases hjo : s.job <;> rw [hjo] at hj0 <;> exact hj0)
        · rw [if_neg hh, if_neg hh]
          exact h
    · -- 2
      subst hb
      have hw := hw1 (by rw [hc]; rfl) (by rw [hc]; rfl)
      rw [rends2 ht hro]
      cases hq : s.whole with
      | false =>
        rw [hq] at hw
        rw [sendsW hq, if_neg (by simpa using hw.symm)]
        exact h
      | true =>
        rw [hq] at hw
        rw [sends2 hst hq hc, if_pos (by simpa using hw.symm), hi]
        by_cases hh : s.data = []
        · rw [if_pos hh, if_pos hh]
          exact h
        · rw [if_neg hh, if_neg hh]
          have h2 : s.stage ≠ 2 := by
            unfold St.whole at hq
            rw [if_pos (by rw [hc]; rfl)] at hq
            have := of_decide_eq_true hq
            omega
          exact (begins_rel h hs ho (haw h2 (by rw [hc]; decide)) hab (hns (.inl (by rw [hc]; rfl))) hi).2 (by rw [hc]; rfl)
    · subst hb; rw [rendsO ht (k := 3) (by decide) hro, sendsO (k := 3) (by decide) hc]; exact h
    · -- 4
      subst hb
      have hw := hw0 (by rw [hc]; rfl) (by rw [hc]; rfl)
      rw [rends4 ht hro]
      cases hq : s.whole with
      | false =>
        rw [hq] at hw
        rw [sendsW hq, ← hw]
        exact rsame h hs _ _ rfl h.prot h.quad rfl rfl (by show (r.en && !false) = s.en; rw [h.en]; simp) h.goes rfl rfl rfl rfl rfl (by
            cases hjo : s.job <;> rw [hjo] at hj0 <;> exact hj0)
      | true =>
        rw [hq] at hw
        rw [sends4 hst hq hc, ← hw]
        exact rsame h hs _ _ rfl h.prot h.quad rfl rfl (by show (r.en && !true) = false; simp) h.goes rfl rfl rfl rfl rfl (by
            cases hjo : s.job <;> rw [hjo] at hj0 <;> exact hj0)
    · subst hb; rw [rendsO ht (k := 5) (by decide) hro, sendsO (k := 5) (by decide) hc]; exact h
    · -- 6
      subst hb
      have hw := hw0 (by rw [hc]; rfl) (by rw [hc]; rfl)
      rw [rends6 ht hro]
      cases hq : s.whole with
      | false =>
        rw [hq] at hw
        rw [sendsW hq, ← hw]
        exact rsame h hs _ _ rfl h.prot h.quad rfl rfl (by show (r.en || false) = s.en; rw [h.en]; simp) h.goes rfl rfl rfl rfl rfl (by
            cases hjo : s.job <;> rw [hjo] at hj0 <;> exact hj0)
      | true =>
        rw [hq] at hw
        rw [sends6 hst hq hc, ← hw]
        exact rsame h hs _ _ rfl h.prot h.quad rfl rfl (by show (r.en || true) = true; simp) h.goes rfl rfl rfl rfl rfl (by
            cases hjo : s.job <;> rw [hjo] at hj0 <;> exact hj0)
    · -- 32
      subst hb
      have hw := hw0 (by rw [hc]; rfl) (by rw [hc]; rfl)
      rw [rends32 ht hro]
      cases hq : s.whole with
      | false =>
        rw [hq] at hw
        rw [sendsW hq, ← hw]
        exact h
      | true =>
        have h2 : s.stage ≠ 2 := by
          unfold St.whole at hq
          rw [if_neg (by rw [hc]; decide), if_pos (by rw [hc]; rfl)] at hq
          simp at hq
          omega
        rw [hq] at hw
        rw [sends32 hst hq hc, ← hw, if_pos rfl]
        exact (begins_rel h hs ho (haw h2 (by rw [hc]; decide)) hab (hns (.inr (by rw [hc]; rfl))) hi).1 (by rw [hc]; rfl)
    · subst hb; rw [rendsO ht (k := 53) (by decide) hro, sendsO (k := 53) (by decide) hc]; exact h
    · subst hb; rw [rendsO ht (k := 90) (by decide) hro, sendsO (k := 90) (by decide) hc]; exact h
    · subst hb; rw [rendsO ht (k := 107) (by decide) hro, sendsO (k := 107) (by decide) hc]; exact h
    · -- 117
      subst hb
      have hw := hw0 (by rw [hc]; rfl) (by rw [hc]; rfl)
      rw [rends117 ht hro]
      cases hq : s.whole with
      | false =>
        rw [hq] at hw
        rw [sendsW hq, ← hw]
        exact rsame h hs _ _ rfl h.prot h.quad rfl rfl h.en h.goes rfl rfl rfl rfl rfl (by
            cases hjo : s.job <;> rw [hjo] at hj0 <;> simpa [RJob] using hj0)
      | true =>
        rw [hq] at hw
        rw [sends117 hst hq hc, ← hw]
        cases hjo : s.job with
        | none =>
          rw [hjo] at hj0
          dsimp only
          exact rsame h hs _ _ rfl h.prot h.quad rfl rfl h.en h.goes rfl rfl rfl rfl rfl (by
            rw [hjo]
            refine ⟨hj0.1, ?_⟩
            show (r.susp || (true && decide (r.kind = 32))) = false
            rw [hj0.1, hj0.2]
            rfl)
        | some j =>
          rw [hjo] at hj0
          dsimp only
          obtain ⟨j1, j2, j3⟩ := hj0
          rcases j3 with ⟨q1, q2, q3, q4⟩ | ⟨q1, q2, q3, q4, q5⟩
          · rw [if_pos q1]
            exact rsame h hs _ _ rfl h.prot h.quad rfl rfl h.en h.goes rfl rfl rfl rfl rfl (by
              rw [hjo]
              refine ⟨j1, ?_, .inl ⟨q1, q2, q3, q4⟩⟩
              show (r.susp || (true && decide (r.kind = 32))) = j.susp
              rw [q2, j2]
              simp)
          · rw [if_neg q1]
            exact rsame h hs _ _ rfl h.prot h.quad rfl rfl h.en h.goes rfl rfl rfl rfl rfl (by
              refine ⟨j1, ?_, .inr ⟨q1, q2, q3, q4, q5⟩⟩
              show (r.susp || (true && decide (r.kind = 32))) = true
              rw [q2]
              simp)
    · -- 122
      subst hb
      have hw := hw0 (by rw [hc]; rfl) (by rw [hc]; rfl)
      rw [rends122 ht hro]
      cases hq : s.whole with
      | false =>
        rw [hq] at hw
        rw [sendsW hq, ← hw]
        exact rsame h hs _ _ rfl h.prot h.quad rfl rfl h.en h.goes rfl rfl rfl rfl rfl (by
            cases hjo : s.job <;> rw [hjo] at hj0 <;> simpa [RJob] using hj0)
      | true =>
        rw [hq] at hw
        rw [sends122 hst hq hc, ← hw]
        cases hjo : s.job with
        | none =>
          rw [hjo] at hj0
          dsimp only
          exact rsame h hs _ _ rfl h.prot h.quad rfl rfl h.en h.goes rfl rfl rfl rfl rfl (by
            rw [hjo]
            exact ⟨hj0.1, by show (r.susp && !true) = false; simp⟩)
        | some j =>
          rw [hjo] at hj0
          dsimp only
          obtain ⟨j1, j2, j3⟩ := hj0
          exact rsame h hs _ _ rfl h.prot h.quad rfl rfl h.en h.goes rfl rfl rfl rfl rfl ⟨j1, by show (r.susp && !true) = false; simp, j3⟩
    · subst hb; rw [rendsO ht (k := 159) (by decide) hro, sendsO (k := 159) (by decide) hc]; exact h
    · -- 235
      subst hb
      have hq : s.whole = true := by
        unfold St.whole
        rw [if_neg (by rw [hc]; decide), if_neg (by rw [hc]; decide)]
      rw [rends235 ht hro, sends235 hst hq hc]
      exact rsame h hs _ _ rfl h.prot h.quad rfl rfl h.en (by
        show (r.modes && decide (r.mode = 160)) = (s.moded && decide (s.mode = 160))
        rw [hm]
        cases hmd : s.moded with
        | false => rfl
        | true => rw [hmo hmd]) rfl rfl rfl rfl rfl (by
            cases hjo : s.job <;> rw [hjo] at hj0 <;> exact hj0)
theorem deselect_rel {r : RSt} {s : St} {N : Int} (h : Rel r s) (hsel : s.sel = true) (hI : s.InvW N) : Rel r.deselect s.deselect := by
  have hp := hI.2 hsel
  have g := h.cmd hsel
  have h0 : Rel { r with sel := false } { s with sel := false } := ⟨h.a, h.prot, h.quad, h.wipes, rfl, h.en, h.goes, h.busy, by
    have hj := h.job
    show RJob _ s.job
    cases hjo : s.job <;> rw [hjo] at hj <;> exact hj, fun hh => absurd hh (by simp)⟩
  unfold RSt.deselect St.deselect
  by_cases hst : s.stage = 0 ∨ s.stage = 1
  · have ht : r.taken = false := by rw [g.taken]; simp; omega
    have e1 : ({ r with sel := false } : RSt).ends = { r with sel := false } := by unfold RSt.ends; rw [if_pos ht]
    have e2 : ({ s with sel := false } : St).ends = { s with sel := false } := by
      unfold St.ends
      rw [if_pos ?_]
      rcases hst with e | e
      · exact .inl e
      · exact .inr (.inl e)
    rw [e1, e2]
    exact h0
  · have ht : r.taken = true := by rw [g.taken]; simp; omega
    obtain ⟨c, hc⟩ := hI.1.op
    refine ends_rel h0 rfl ht hst c hc g.op (fun a b => ?_) (fun a b => ?_) g.inn g.modes g.mode (fun a b => g.addr (fun e => hst (.inl e)) (fun e => hst (.inr e)) a b) hI.1.addr (g.ns (fun e => hst (.inl e)) (fun e => hst (.inr e)))
    · rcases alone_whole g hp a b with e | e | e
      · exact absurd (.inl e) hst
      · exact absurd (.inr e) hst
      · exact e
    · rcases in_whole g hp a b with e | e | e
      · exact absurd (.inl e) hst
      · exact absurd (.inr e) hst
      · exact e
end Go.Proofs.YteombggfmeilaaaGreat
namespace Go.Proofs.YteombggfmeilaaaGreat
open Go.RowKit
theorem ref_select_no (b : Nat) (r : RSt) (wv bv iv : Value) (w : World) (h : RB w b r wv bv iv) (hs : r.sel = true) :
    Calls Tryz.prog 18 #[.pointer (some ⟨b, 0, none⟩)] w fun e w' => e = .returned (.int .i64 600) ∧ w = w' := by
  have c4 := h.cell 4
  simp only [RSt.list, List.getElem?_cons_succ, List.getElem?_cons_zero] at c4
  rw [hs] at c4
  clear hs h
  go_enter Tryz.func18, Tryz.ntmps18
  go_wp2
  go_ret
  exact ⟨rfl, rfl⟩
def RSt.picked (r : RSt) : RSt := { r with sel := true, op := op0, taken := false, known := false, bits := 0, x := 0, part := 0, modes := false, inn := [], clocks := 0, sent := 0 }
set_option maxRecDepth 100000 in
set_option maxHeartbeats 4000000 in
theorem ref_select (b : Nat) (r : RSt) (wv bv iv : Value) (w : World) (h : RB w b r wv bv iv) (hs : r.sel = false) :
    Calls Tryz.prog 18 #[.pointer (some ⟨b, 0, none⟩)] w fun e w' => e = .returned (.int .i64 0) ∧ RB w' b r.select wv bv (.slice none 0 0) ∧ Upd (fun k => k = b) w w' := by
  have c4 := h.cell 4
  have c6 := h.cell 6
  have c13 := h.cell 13
  have c14 := h.cell 14
  have c15 := h.cell 15
  have c16 := h.cell 16
  have c17 := h.cell 17
  have c18 := h.cell 18
  have c19 := h.cell 19
  have c20 := h.cell 20
  have c21 := h.cell 21
  have c22 := h.cell 22
  have c23 := h.cell 23
  have c26 := h.cell 26
  have c27 := h.cell 27
  have c28 := h.cell 28
  have c30 := h.cell 30
  have hfr : ∀ i, w.frozen? ⟨b, i, none⟩ = false := fun i => h.frozen i
  have f4 := hfr 4
  have f13 := hfr 13
  have f14 := hfr 14
  have f15 := hfr 15
  have f16 := hfr 16
  have f17 := hfr 17
  have f18 := hfr 18
  have f19 := hfr 19
  have f20 := hfr 20
  have f21 := hfr 21
  have f22 := hfr 22
  have f23 := hfr 23
  have f26 := hfr 26
  have f27 := hfr 27
  have f28 := hfr 28
  have f30 := hfr 30
  simp only [RSt.list, List.getElem?_cons_succ, List.getElem?_cons_zero] at c4 c6 c13 c14 c15 c16 c17 c18 c19 c20 c21 c22 c23 c26 c27 c28 c30
  rw [hs] at c4
  have hlt := h.lt
  have HB1 : Hid (RB ((((((((((((((((w.setCell ⟨b, 4, none⟩ (.bool true)).setCell ⟨b, 13, none⟩ (.int .i64 0)).setCell ⟨b, 14, none⟩ (.int .i64 0)).setCell ⟨b, 15, none⟩ (.bool false)).setCell ⟨b, 16, none⟩ (.int .i64 0)).setCell ⟨b, 17, none⟩ (.int .i64 0)).setCell ⟨b, 18, none⟩ (.bool false)).setCell ⟨b, 19, none⟩ (.bool false)).setCell ⟨b, 20, none⟩ (.bool false)).setCell ⟨b, 21, none⟩ (.int .i64 0)).setCell ⟨b, 22, none⟩ (.int .i64 0)).setCell ⟨b, 23, none⟩ (.int .i64 0)).setCell ⟨b, 26, none⟩ (.bool false)).setCell ⟨b, 27, none⟩ (.slice none 0 0)).setCell ⟨b, 28, none⟩ (.int .i64 0)).setCell ⟨b, 30, none⟩ (.int .i64 0)) b r.picked wv bv (.slice none 0 0)) := Lib.hid (((((((((((((((((h.set 4 (.bool true)).set 13 (.int .i64 0)).set 14 (.int .i64 0)).set 15 (.bool false)).set 16 (.int .i64 0)).set 17 (.int .i64 0)).set 18 (.bool false)).set 19 (.bool false)).set 20 (.bool false)).set 21 (.int .i64 0)).set 22 (.int .i64 0)).set 23 (.int .i64 0)).set 26 (.bool false)).set 27 (.slice none 0 0)).set 28 (.int .i64 0)).set 30 (.int .i64 0)))
  have HU1 : Hid (Upd (fun k => k = b) w ((((((((((((((((w.setCell ⟨b, 4, none⟩ (.bool true)).setCell ⟨b, 13, none⟩ (.int .i64 0)).setCell ⟨b, 14, none⟩ (.int .i64 0)).setCell ⟨b, 15, none⟩ (.bool false)).setCell ⟨b, 16, none⟩ (.int .i64 0)).setCell ⟨b, 17, none⟩ (.int .i64 0)).setCell ⟨b, 18, none⟩ (.bool false)).setCell ⟨b, 19, none⟩ (.bool false)).setCell ⟨b, 20, none⟩ (.bool false)).setCell ⟨b, 21, none⟩ (.int .i64 0)).setCell ⟨b, 22, none⟩ (.int .i64 0)).setCell ⟨b, 23, none⟩ (.int .i64 0)).setCell ⟨b, 26, none⟩ (.bool false)).setCell ⟨b, 27, none⟩ (.slice none 0 0)).setCell ⟨b, 28, none⟩ (.int .i64 0)).setCell ⟨b, 30, none⟩ (.int .i64 0))) := Lib.hid ((((((((((((((((((Upd.refl (fun k => k = b) w).setCell ⟨b, 4, none⟩ (.bool true) (fun _ => rfl)).setCell ⟨b, 13, none⟩ (.int .i64 0) (fun _ => rfl)).setCell ⟨b, 14, none⟩ (.int .i64 0) (fun _ => rfl)).setCell ⟨b, 15, none⟩ (.bool false) (fun _ => rfl)).setCell ⟨b, 16, none⟩ (.int .i64 0) (fun _ => rfl)).setCell ⟨b, 17, none⟩ (.int .i64 0) (fun _ => rfl)).setCell ⟨b, 18, none⟩ (.bool false) (fun _ => rfl)).setCell ⟨b, 19, none⟩ (.bool false) (fun _ => rfl)).setCell ⟨b, 20, none⟩ (.bool false) (fun _ => rfl)).setCell ⟨b, 21, none⟩ (.int .i64 0) (fun _ => rfl)).setCell ⟨b, 22, none⟩ (.int .i64 0) (fun _ => rfl)).setCell ⟨b, 23, none⟩ (.int .i64 0) (fun _ => rfl)).setCell ⟨b, 26, none⟩ (.bool false) (fun _ => rfl)).setCell ⟨b, 27, none⟩ (.slice none 0 0) (fun _ => rfl)).setCell ⟨b, 28, none⟩ (.int .i64 0) (fun _ => rfl)).setCell ⟨b, 30, none⟩ (.int .i64 0) (fun _ => rfl)))
  cases hg : r.goes with
  | false =>
    rw [hg] at c6
    have hR : r.select = r.picked := by unfold RSt.select; rw [hg]; unfold RSt.picked; rw [hg]; rfl
    have HR := Lib.hid hR
    clear hR hg hs h hfr
    go_enter Tryz.func18, Tryz.ntmps18
    go_wp2
    go_ret
    exact ⟨rfl, by rw [HR.out]; exact HB1.out, HU1.out⟩
  | true =>
    rw [hg] at c6
    have hR : r.select = r.picked.command 235 := by unfold RSt.select; rw [hg]; unfold RSt.picked; rw [hg]; rfl
    have HR := Lib.hid hR
    have HC := Lib.hid (ref_command b 235 r.picked wv bv (.slice none 0 0) _ HB1.out _ rfl)
    clear hR hg hs h hfr
    go_enter Tryz.func18, Tryz.ntmps18
    go_wp2_with fail
    refine HC.out.mono ?_
    rintro e w2 ⟨rfl, hB2, hU2⟩
    go_wp2
    go_ret
    exact ⟨rfl, by rw [HR.out]; exact hB2, HU1.out.trans hU2 (fun _ _ k => k)⟩
end Go.Proofs.YteombggfmeilaaaGreat
namespace Go.Proofs.YteombggfmeilaaaGreat
open Go.RowKit
/-- 'append(own, src...)', src a slice that is read, nil or not. -/
theorem wpList_appR0 {P : Program} {w : World} {ops : Array Oper} {rest : List Oper} {o : Oper} {a : Act} {Q : Exit → Act → World → Prop} (hgd : o.guard = none) (s x : Operand) (t : TypeId)
    (ho : o.op = .call { callee := .builtin .append, args := #[s, x], argTypes := #[t, t] })
    (e : TypeId) (z : Value) (bytes : Nat) (ht : P.underlying t = some (.slice e)) (hi : (P.info? e).map (fun i => (i.zero, i.size, i.bytes)) = some (some z, 1, bytes)) (hzs : z.cells.size = 1)
    (base : Nat) (v : Value) (hs : a.eval s = v) (hown : w.ownsRow base e 1 v 0 [])
    (ao : Option Addr) (m c : Nat) (hx : a.eval x = .slice ao m c) (news : List Value) (hr : RS w (.slice ao m c) news) (hc : ao = none → c = 0) (h1 : ∀ u ∈ news, u.oneCell' = true)
    (hlen : news.length ≤ 17592186044416) (hbytes : news.length * bytes ≤ 140737488355328) (hbase : base ≤ w.heap.size)
    (h : ∀ v' w', w'.ownsRow base e 1 v' news.length news → Upd (fun k => v.ownBlock = some k) w w' → wpList P ops Q rest (a.put o.dst v') w') : wpList P ops Q (o :: rest) a w := by
  obtain ⟨_, a', cap, e1, _, h5⟩ := hr
  simp only [Value.slice.injEq] at e1
  obtain ⟨rfl, rfl, rfl⟩ := e1
  obtain ⟨i0, hi0, hz0, hz1, hz2⟩ := info_parts hi
  cases ao with
  | none =>
    have hn : news = [] := by
      by_cases hn : news = []
      · exact hn
      · obtain ⟨b, o, h, _⟩ := h5 hn
        cases h
    subst hn
    have := hc rfl
    subst this
    exact wpList_append_own_none hgd s x t ho base e i0 1 ht hi0 v 0 [] hs hown hx (h v w hown (Upd.refl _ w))
  | some ad =>
    refine wpList_appS hgd s x t ho e z bytes ht hi hzs base v 0 [] hs hown _ ad news.length c news hx rfl rfl ?_ h1 (by omega) (by simpa using hbytes) hbase ?_
    · intro j u hu
      have hj : j < news.length := (List.getElem?_eq_some_iff.1 hu).1
      obtain ⟨b, o, e2, hb, hcell⟩ := h5 (by intro h; simp [h] at hj)
      simp only [Option.some.injEq] at e2
      subst e2
      have ea : (⟨b, o, none⟩ : Addr).add j = ⟨b, o + j, none⟩ := by unfold Addr.add; split <;> simp_all
      rw [ea, hcell j hj, hu]
    · intro v' w' hO hU
      have hO' : w'.ownsRow base e 1 v' news.length news := by simpa using hO
      exact h v' w' hO' hU
def goodL (xs : List Int) (i : Nat) : Prop := ∀ j, j < i → badD (xs.getD j 0) = false
set_option maxHeartbeats 1000000 in
theorem ref_next_no (b : Nat) (w : World) (v : Value) (xs : List Int) (h : RS w v (ints xs)) (hbad : xs.any badD = true ∨ 16 < xs.length) :
    Calls Tryz.prog 25 #[.pointer (some ⟨b, 0, none⟩), v] w fun e w' => e = .returned (.int .i64 600) ∧ w = w' := by
  obtain ⟨h1, a, cap, rfl, h4, h5⟩ := h
  rw [ints_len] at h1 h4 h5 ⊢
  obtain ⟨n, hn⟩ : ∃ n, xs.length = n := ⟨_, rfl⟩
  rw [hn] at h1 h4 h5 hbad ⊢
  have HX := Lib.hid hn
  have H5 := Lib.hid h5
  have HBAD := Lib.hid hbad
  clear hn h5 hbad
  go_enter Tryz.func25, Tryz.ntmps25
  go_wp2
  go_loopw [5] (fun iv wr => ∃ i : Nat, i ≤ n ∧ iv = .int .i64 (i : Int) ∧ Hid (w = wr) ∧ Hid (goodL xs i)) (fun iv _ => n - (intOf iv).toNat)
  case atStart => exact ⟨0, by omega, rfl, Lib.hid rfl, Lib.hid fun j hj => by omega⟩
  case round =>
    obtain ⟨i, hi, rfl, hw, hall⟩ := hrel
    have hww := hw.out
    subst hww
    clear hw
    by_cases hlt : i < n
    · obtain ⟨bb, oo, rfl, hbb, hcc⟩ := H5.out (by intro h; have h2 := HX.out; have h3 := congrArg List.length h; rw [ints_len] at h3; change xs.length = 0 at h3; omega)
      obtain ⟨x, hx⟩ : ∃ x, xs.getD i 0 = x := ⟨_, rfl⟩
      have hcell := hcc i hlt
      rw [ints_at _ _ (by rw [HX.out]; exact hlt), hx] at hcell
      have HS : Hid (badD x = false → goodL xs (i + 1)) := Lib.hid (fun e j hj => by
        rcases Nat.lt_succ_iff_lt_or_eq.1 hj with h | h
        · exact hall.out j h
        · subst h; rw [hx]; exact e)
      clear hcc hx hall hbb
      by_cases hlo : x < 1
      · go_wp2
        go_ret
        exact ⟨rfl, rfl⟩
      · have hlo2 : ¬ x < 1 := hlo
        by_cases hhi : x > 400
        · go_wp2
          go_ret
          exact ⟨rfl, rfl⟩
        · go_wp2
          refine ⟨?rel, ?measure⟩
          case rel => exact ⟨i + 1, by omega, by go_num, Lib.hid (by first | rfl | trivial), Lib.hid (HS.out (decide_eq_false (by omega)))⟩
          case measure => simp [intOf]; omega
    · obtain rfl : i = n := by omega
      have hend : 16 < i := by
        rcases HBAD.out with h | h
        · rw [List.any_eq_true] at h
          obtain ⟨y, hy, hb⟩ := h
          obtain ⟨j, hj, rfl⟩ := List.mem_iff_getElem.1 hy
          have := hall.out j (by rw [← HX.out]; exact hj)
          rw [List.getD_eq_getElem?_getD, List.getElem?_eq_getElem hj] at this
          rw [show badD xs[j] = false from this] at hb
          cases hb
        · exact h
      have hend2 : (i : Int) > 16 := by omega
      clear hall hend
      go_wp2
      go_ret
      exact ⟨rfl, rfl⟩
set_option maxHeartbeats 1000000 in
theorem ref_next (b : Nat) (r : RSt) (wv bv iv : Value) (w : World) (h : RB w b r wv bv iv) (a : Option Addr) (n cap : Nat) (xs : List Int) (hr : RS w (.slice a n cap) (ints xs)) (hc : a = none → cap = 0) (hgood : xs.any badD = false) (hlen : xs.length ≤ 16) :
    Calls Tryz.prog 25 #[.pointer (some ⟨b, 0, none⟩), .slice a n cap] w fun e w' => ∃ bv', e = .returned (.int .i64 0) ∧ RB w' b { r with busy := xs } wv bv' iv ∧ Row w' 3 bv' (ints xs) ∧ (∀ k, bv'.ownBlock = some k → w.heap.size ≤ k) ∧ Upd (fun k => k = b) w w' := by
  have HR := Lib.hid hr
  obtain ⟨h1, a', cap', e1, h4, h5⟩ := hr
  simp only [Value.slice.injEq] at e1
  obtain ⟨rfl, hn, rfl⟩ := e1
  rw [ints_len] at hn
  have hnl : n ≤ 16 := by omega
  have HX := Lib.hid hn.symm
  have H5 := Lib.hid h5
  have HG := Lib.hid hgood
  have HB := Lib.hid h
  have HC := Lib.hid hc
  clear h5 hgood h4 h1 h hc hn hlen
  go_enter Tryz.func25, Tryz.ntmps25
  go_wp2
  go_loopw [5] (fun iv wr => ∃ i : Nat, i ≤ n ∧ iv = .int .i64 (i : Int) ∧ Hid (w = wr)) (fun iv _ => n - (intOf iv).toNat)
  case atStart => exact ⟨0, by omega, rfl, Lib.hid rfl⟩
  case round =>
    obtain ⟨i, hi, rfl, hw⟩ := hrel
    have hww := hw.out
    subst hww
    clear hw
    by_cases hlt : i < n
    · obtain ⟨bb, oo, rfl, hbb, hcc⟩ := H5.out (by intro h; have h2 := HX.out; have h3 := congrArg List.length h; rw [ints_len] at h3; change xs.length = 0 at h3; omega)
      obtain ⟨x, hx⟩ : ∃ x, xs.getD i 0 = x := ⟨_, rfl⟩
      have hl : i < xs.length := by rw [HX.out]; exact hlt
      have hcell := hcc i (by rw [ints_len]; exact hl)
      rw [ints_at _ _ hl, hx] at hcell
      have hgx : badD x = false := by
        have := HG.out
        rw [List.any_eq_false] at this
        have h2 := this _ (List.getElem_mem hl)
        rw [List.getD_eq_getElem?_getD, List.getElem?_eq_getElem hl] at hx
        rw [show xs[i] = x from hx] at h2
        cases hb : badD x with
        | false => rfl
        | true => exact absurd hb h2
      have hgx2 : ¬ (x < 1 ∨ 400 < x) := of_decide_eq_false hgx
      have hlo : ¬ x < 1 := by omega
      have hhi : ¬ x > 400 := by omega
      clear hcc hx hbb hl hgx hgx2
      go_wp2
      refine ⟨?rel, ?measure⟩
      case rel => exact ⟨i + 1, by omega, by go_num, Lib.hid (by first | rfl | trivial)⟩
      case measure => simp [intOf]; omega
    · obtain rfl : i = n := by omega
      have hend2 : ¬ (i : Int) > 16 := by omega
      have c12 := HB.out.cell 12
      have f12 := HB.out.frozen 12
      simp only [RSt.list, List.getElem?_cons_succ, List.getElem?_cons_zero] at c12
      have hlt2 := HB.out.lt
      have hr2 := HR.out.upd ((Upd.refl none' w).alloc (.cells #[] 3)) (fun _ _ _ f => f)
      have HR2 := Lib.hid hr2
      clear hr2
      go_upto_region 9 with (at_builtin; go_must (refine wpList_appR0 rfl _ _ 33 rfl 3 (.int .i64 0) 8 Tryz.underlying33 info_int rfl w.heap.size (.slice (some ⟨w.heap.size, 0, none⟩) 0 0) rfl (own_empty w 3) a i cap rfl (ints xs) HR2.out HC.out (ints_one xs) (by rw [ints_len, HX.out]; omega) (by rw [ints_len, HX.out]; omega) (by simp) ?_); intro v' w1 hO1 hU1; obtain ⟨hR1, hbase⟩ := Row.of_own hO1; obtain ⟨ao', cap', rfl, -⟩ := hR1.form; have hU1' : Upd none' w w1 := ((Upd.refl none' w).alloc _).trans hU1 (fun k g1 g2 => by simp [Value.ownBlock] at g2; omega); have hb1 := HB.out.upd hU1' (fun f => f); have d12 := hb1.cell 12; have g12 := hb1.frozen 12; simp only [RSt.list, List.getElem?_cons_succ, List.getElem?_cons_zero] at d12; have hlt3 := hb1.lt)
      go_wp2
      go_ret
      have hs := (Upd.refl (fun k => k = b) w1).setCell ⟨b, 12, none⟩ (.slice ao' (ints xs).length cap') (fun _ => rfl)
      refine ⟨rfl, _, hb1.set 12 _, hR1.upd hs (fun k hk e => ?_), hbase, (hU1'.mono (T := fun k => k = b) (fun _ _ f => f.elim)).trans hs (fun _ _ e => e)⟩
      have := hbase k hk
      omega
end Go.Proofs.YteombggfmeilaaaGreat
namespace Go.Proofs.YteombggfmeilaaaGreat
open Go.RowKit
def RSt.cut (r : RSt) (mask : ByteArray) : ByteArray := if r.kind = 2 then progCut r.a r.att.toNat r.jdata mask else if r.kind = 32 then eraseCut r.a (r.att / 512).toNat mask else r.a
def rawL (a : ByteArray) (p q : Bool) (wv : Value) : List Value := ({ RSt.new a with prot := p, quad := q } : RSt).list wv (.slice none 0 0) (.slice none 0 0)
theorem raw_world {w : World} {b : Nat} {r : RSt} {wv bv iv : Value} (h : RB w b r wv bv iv) (a : ByteArray) (p q : Bool) (wv' : Value) :
    Blk (w.setCells b 0 (rawL a p q wv')) b (rawL a p q wv') 54 := by
  show Blk (((((((((((((((((((((((((((((((w.setCell ⟨b, 0, none⟩ (.string a)).setCell ⟨b, 1, none⟩ (.bool p)).setCell ⟨b, 2, none⟩ (.bool q)).setCell ⟨b, 3, none⟩ (wv')).setCell ⟨b, 4, none⟩ (.bool false)).setCell ⟨b, 5, none⟩ (.bool false)).setCell ⟨b, 6, none⟩ (.bool false)).setCell ⟨b, 7, none⟩ (.int .i64 0)).setCell ⟨b, 8, none⟩ (.int .i64 0)).setCell ⟨b, 9, none⟩ (.string ⟨#[]⟩)).setCell ⟨b, 10, none⟩ (.int .i64 0)).setCell ⟨b, 11, none⟩ (.bool false)).setCell ⟨b, 12, none⟩ (.slice none 0 0)).setCell ⟨b, 13, none⟩ (.int .i64 0)).setCell ⟨b, 14, none⟩ (.int .i64 0)).setCell ⟨b, 15, none⟩ (.bool false)).setCell ⟨b, 16, none⟩ (.int .i64 0)).setCell ⟨b, 17, none⟩ (.int .i64 0)).setCell ⟨b, 18, none⟩ (.bool false)).setCell ⟨b, 19, none⟩ (.bool false)).setCell ⟨b, 20, none⟩ (.bool false)).setCell ⟨b, 21, none⟩ (.int .i64 0)).setCell ⟨b, 22, none⟩ (.int .i64 0)).setCell ⟨b, 23, none⟩ (.int .i64 0)).setCell ⟨b, 24, none⟩ (.int .i64 0)).setCell ⟨b, 25, none⟩ (.int .i64 0)).setCell ⟨b, 26, none⟩ (.bool false)).setCell ⟨b, 27, none⟩ (.slice none 0 0)).setCell ⟨b, 28, none⟩ (.int .i64 0)).setCell ⟨b, 29, none⟩ (.int .i64 0)).setCell ⟨b, 30, none⟩ (.int .i64 0)) b _ _
  have := (((((((((((((((((((((((((((((((h.set 0 (.string a)).set 1 (.bool p)).set 2 (.bool q)).set 3 (wv')).set 4 (.bool false)).set 5 (.bool false)).set 6 (.bool false)).set 7 (.int .i64 0)).set 8 (.int .i64 0)).set 9 (.string ⟨#[]⟩)).set 10 (.int .i64 0)).set 11 (.bool false)).set 12 (.slice none 0 0)).set 13 (.int .i64 0)).set 14 (.int .i64 0)).set 15 (.bool false)).set 16 (.int .i64 0)).set 17 (.int .i64 0)).set 18 (.bool false)).set 19 (.bool false)).set 20 (.bool false)).set 21 (.int .i64 0)).set 22 (.int .i64 0)).set 23 (.int .i64 0)).set 24 (.int .i64 0)).set 25 (.int .i64 0)).set 26 (.bool false)).set 27 (.slice none 0 0)).set 28 (.int .i64 0)).set 29 (.int .i64 0)).set 30 (.int .i64 0))
  simp only [RSt.list, List.set_cons_zero, List.set_cons_succ] at this
  exact this
theorem raw_upd (w : World) (b : Nat) (a : ByteArray) (p q : Bool) (wv' : Value) : Upd (fun k => k = b) w (w.setCells b 0 (rawL a p q wv')) := by
  show Upd (fun k => k = b) w (((((((((((((((((((((((((((((((w.setCell ⟨b, 0, none⟩ (.string a)).setCell ⟨b, 1, none⟩ (.bool p)).setCell ⟨b, 2, none⟩ (.bool q)).setCell ⟨b, 3, none⟩ (wv')).setCell ⟨b, 4, none⟩ (.bool false)).setCell ⟨b, 5, none⟩ (.bool false)).setCell ⟨b, 6, none⟩ (.bool false)).setCell ⟨b, 7, none⟩ (.int .i64 0)).setCell ⟨b, 8, none⟩ (.int .i64 0)).setCell ⟨b, 9, none⟩ (.string ⟨#[]⟩)).setCell ⟨b, 10, none⟩ (.int .i64 0)).setCell ⟨b, 11, none⟩ (.bool false)).setCell ⟨b, 12, none⟩ (.slice none 0 0)).setCell ⟨b, 13, none⟩ (.int .i64 0)).setCell ⟨b, 14, none⟩ (.int .i64 0)).setCell ⟨b, 15, none⟩ (.bool false)).setCell ⟨b, 16, none⟩ (.int .i64 0)).setCell ⟨b, 17, none⟩ (.int .i64 0)).setCell ⟨b, 18, none⟩ (.bool false)).setCell ⟨b, 19, none⟩ (.bool false)).setCell ⟨b, 20, none⟩ (.bool false)).setCell ⟨b, 21, none⟩ (.int .i64 0)).setCell ⟨b, 22, none⟩ (.int .i64 0)).setCell ⟨b, 23, none⟩ (.int .i64 0)).setCell ⟨b, 24, none⟩ (.int .i64 0)).setCell ⟨b, 25, none⟩ (.int .i64 0)).setCell ⟨b, 26, none⟩ (.bool false)).setCell ⟨b, 27, none⟩ (.slice none 0 0)).setCell ⟨b, 28, none⟩ (.int .i64 0)).setCell ⟨b, 29, none⟩ (.int .i64 0)).setCell ⟨b, 30, none⟩ (.int .i64 0))
  exact ((((((((((((((((((((((((((((((((Upd.refl (fun k => k = b) w).setCell ⟨b, 0, none⟩ (.string a) (fun _ => rfl)).setCell ⟨b, 1, none⟩ (.bool p) (fun _ => rfl)).setCell ⟨b, 2, none⟩ (.bool q) (fun _ => rfl)).setCell ⟨b, 3, none⟩ (wv') (fun _ => rfl)).setCell ⟨b, 4, none⟩ (.bool false) (fun _ => rfl)).setCell ⟨b, 5, none⟩ (.bool false) (fun _ => rfl)).setCell ⟨b, 6, none⟩ (.bool false) (fun _ => rfl)).setCell ⟨b, 7, none⟩ (.int .i64 0) (fun _ => rfl)).setCell ⟨b, 8, none⟩ (.int .i64 0) (fun _ => rfl)).setCell ⟨b, 9, none⟩ (.string ⟨#[]⟩) (fun _ => rfl)).setCell ⟨b, 10, none⟩ (.int .i64 0) (fun _ => rfl)).setCell ⟨b, 11, none⟩ (.bool false) (fun _ => rfl)).setCell ⟨b, 12, none⟩ (.slice none 0 0) (fun _ => rfl)).setCell ⟨b, 13, none⟩ (.int .i64 0) (fun _ => rfl)).setCell ⟨b, 14, none⟩ (.int .i64 0) (fun _ => rfl)).setCell ⟨b, 15, none⟩ (.bool false) (fun _ => rfl)).setCell ⟨b, 16, none⟩ (.int .i64 0) (fun _ => rfl)).setCell ⟨b, 17, none⟩ (.int .i64 0) (fun _ => rfl)).setCell ⟨b, 18, none⟩ (.bool false) (fun _ => rfl)).setCell ⟨b, 19, none⟩ (.bool false) (fun _ => rfl)).setCell ⟨b, 20, none⟩ (.bool false) (fun _ => rfl)).setCell ⟨b, 21, none⟩ (.int .i64 0) (fun _ => rfl)).setCell ⟨b, 22, none⟩ (.int .i64 0) (fun _ => rfl)).setCell ⟨b, 23, none⟩ (.int .i64 0) (fun _ => rfl)).setCell ⟨b, 24, none⟩ (.int .i64 0) (fun _ => rfl)).setCell ⟨b, 25, none⟩ (.int .i64 0) (fun _ => rfl)).setCell ⟨b, 26, none⟩ (.bool false) (fun _ => rfl)).setCell ⟨b, 27, none⟩ (.slice none 0 0) (fun _ => rfl)).setCell ⟨b, 28, none⟩ (.int .i64 0) (fun _ => rfl)).setCell ⟨b, 29, none⟩ (.int .i64 0) (fun _ => rfl)).setCell ⟨b, 30, none⟩ (.int .i64 0) (fun _ => rfl))
theorem raw_there {w : World} {b : Nat} {r : RSt} {wv bv iv : Value} (h : RB w b r wv bv iv) : w.there b 0 31 := by
  intro j hj
  refine ⟨?_, h.frozen _⟩
  rw [h.cell]
  unfold RSt.list
  rw [List.getElem?_eq_getElem (by simp; omega)]
  rfl
set_option maxRecDepth 100000 in
set_option maxHeartbeats 4000000 in
theorem ref_loss (b : Nat) (r : RSt) (ao : Option Addr) (an ac : Nat) (bv iv : Value) (w : World) (h : RB w b r (.slice ao an ac) bv iv) (hK : r.kind = 2 ∨ r.kind = 32 → r.Kept) (hA : r.a.size = 4096) (mask : ByteArray) (hm : mask.size ≤ 9223372036854775807) :
    Calls Tryz.prog 29 #[.pointer (some ⟨b, 0, none⟩), .string mask] w fun e w' => e = .returned (.tuple #[]) ∧ RB w' b (r.loss mask) (.slice ao an ac) (.slice none 0 0) (.slice none 0 0) ∧ Upd (fun k => k = b) w w' := by
  have c7 := h.cell 7
  simp only [RSt.list, List.getElem?_cons_succ, List.getElem?_cons_zero] at c7
  have HL : Hid (r.loss mask = { RSt.new (r.cut mask) with prot := r.prot, quad := r.quad, wipes := r.wipes }) := Lib.hid rfl
  have hcs : (r.cut mask).size = 4096 := by
    unfold RSt.cut
    split
    · unfold progCut
      exact (turned_size _ _ _ _).trans hA
    · split
      · unfold eraseCut
        exact (turned_size _ _ _ _).trans hA
      · exact hA
  have HCS := Lib.hid hcs
  clear hcs
  go_enter Tryz.func29, Tryz.ntmps29
  go_upto_if 14 with (fail)
  go_cut [] (fun wx => RB wx b { r with a := r.cut mask } (.slice ao an ac) bv iv ∧ Upd (fun k => k = b) w wx)
  case first =>
    have HB := Lib.hid h
    have l0 : ∀ u : UW w, u.val.cell? ⟨b, 0, none⟩ = some (.string r.a) := fun u => (HB.out.upd u.upd (fun f => f)).cell 0
    have l8 : ∀ u : UW w, u.val.cell? ⟨b, 8, none⟩ = some (.int .i64 r.att) := fun u => (HB.out.upd u.upd (fun f => f)).cell 8
    have l9 : ∀ u : UW w, u.val.cell? ⟨b, 9, none⟩ = some (.string r.jdata) := fun u => (HB.out.upd u.upd (fun f => f)).cell 9
    have hlt := h.lt
    have fin : ∀ (A : ByteArray) (w1 : World), A = r.cut mask → Upd none' w w1 → RB (w1.setCell ⟨b, 0, none⟩ (.string A)) b { r with a := r.cut mask } (.slice ao an ac) bv iv ∧ Upd (fun k => k = b) w (w1.setCell ⟨b, 0, none⟩ (.string A)) := by
      intro A w1 e hu
      subst e
      exact ⟨(HB.out.upd hu (fun f => f)).set 0 _, (hu.mono (T := fun k => k = b) (fun _ _ f => f.elim)).setCell ⟨b, 0, none⟩ _ (fun _ => rfl)⟩
    have HF := Lib.hid fin
    clear fin h
    by_cases h2 : r.kind = 2
    · obtain ⟨-, hk | hk⟩ := hK (.inl h2)
      · obtain ⟨-, k1, k2, k3⟩ := hk
        obtain ⟨n, hn⟩ : ∃ n : Nat, r.att = (n : Int) := ⟨r.att.toNat, by omega⟩
        have hcut : progCut r.a n r.jdata mask = r.cut mask := by unfold RSt.cut; rw [if_pos h2, hn]; rfl
        have HC := Lib.hid hcut
        have HP := Lib.hid (fun W => ref_programcut r.a n r.jdata mask W hA (by omega) hm)
        rw [hn] at l8
        have h2b : (r.kind == 2) = true := by simpa using h2
        clear hcut h2 hn k1 k2 k3 hK hA hm
        go_upto_region 1 with fail
        refine wp_region_upd_lit w (Upd.refl none' w) (by kernel_rfl) (by kernel_rfl) ?_
        repeat (go_big_quiet_step ((go_at_call 107; exact quiet_upd (HP.out _))))
        refine wpQuiet_nil ?_
        rintro _ ⟨⟨w1, hU1⟩, rfl⟩
        have hB1 := HB.out.upd hU1 (fun f => f)
        have d0 := hB1.cell 0
        have g0 := hB1.frozen 0
        have hlt1 := hB1.lt
        simp only [RSt.list, List.getElem?_cons_zero] at d0
        have HU1 := Lib.hid hU1
        clear hB1 hU1
        go_wp2_with fail
        go_meet
        exact HF.out _ _ HC.out HU1.out
      · exact absurd h2 hk.1
    · have h2b : (r.kind == 2) = false := by simpa using h2
      by_cases h32 : r.kind = 32
      · obtain ⟨-, hk | hk⟩ := hK (.inr h32)
        · exact absurd hk.1 h2
        · obtain ⟨-, k1, k2⟩ := hk
          obtain ⟨n, hn⟩ : ∃ n : Nat, r.att / 512 = (n : Int) := ⟨(r.att / 512).toNat, by omega⟩
          have hcut : eraseCut r.a n mask = r.cut mask := by unfold RSt.cut; rw [if_neg h2, if_pos h32, hn]; rfl
          have HC := Lib.hid hcut
          have htd : r.att.tdiv 512 = (n : Int) := by rw [tdiv512 k1, hn]
          have hwr : IntKind.i64.wrap (n : Int) = (n : Int) := IntWalk.i64_in _ (by omega)
          have HP := Lib.hid (fun W => ref_erasecut r.a n mask W hA (by omega) hm)
          have h32b : (r.kind == 32) = true := by simpa using h32
          clear hcut h2 h32 hn k2 hK hA hm
          go_upto_region 4 with fail
          refine wp_region_upd_lit w (Upd.refl none' w) (by kernel_rfl) (by kernel_rfl) ?_
          repeat (go_big_quiet_step ((go_at_call 108; exact quiet_upd (HP.out _))))
          refine wpQuiet_nil ?_
          rintro _ ⟨⟨w1, hU1⟩, rfl⟩
          have hB1 := HB.out.upd hU1 (fun f => f)
          have d0 := hB1.cell 0
          have g0 := hB1.frozen 0
          have hlt1 := hB1.lt
          simp only [RSt.list, List.getElem?_cons_zero] at d0
          have HU1 := Lib.hid hU1
          clear hB1 hU1
          go_wp2_with fail
          go_meet
          exact HF.out _ _ HC.out HU1.out
      · have h32b : (r.kind == 32) = false := by simpa using h32
        have hcut : r.cut mask = r.a := by unfold RSt.cut; rw [if_neg h2, if_neg h32]
        have HC := Lib.hid hcut
        clear hcut h2 h32 hK hA hm
        go_wp2_with fail
        go_meet
        exact ⟨by rw [HC.out]; exact HB.out, Upd.refl _ _⟩
  case rest =>
    obtain ⟨hB, hU⟩ := hcut
    clear h hK hA hm c7
    obtain ⟨A, hAe⟩ : ∃ A, r.cut mask = A := ⟨_, rfl⟩
    rw [hAe] at HL HCS hB
    clear hAe
    have c0 := hB.cell 0
    simp only [RSt.list, List.getElem?_cons_zero] at c0
    have HN := Lib.hid (ref_new A wc HCS.out)
    have HB := Lib.hid hB
    have HU := Lib.hid hU
    clear hB hU
    go_upto_region 7 with (go_at_call 15; refine HN.out.mono ?_; rintro e w1 ⟨q, v, rfl, hq, hBq, hRv, hv, hU1⟩)
    have hB1 := HB.out.upd hU1 (fun f => f)
    have c1 := hB1.cell 1
    have c2 := hB1.cell 2
    have c3 := hB1.cell 3
    simp only [RSt.list, List.getElem?_cons_succ, List.getElem?_cons_zero] at c1 c2 c3
    have z1 := hBq.cell 1
    have z2 := hBq.cell 2
    have z3 := hBq.cell 3
    have y1 := hBq.frozen 1
    have y2 := hBq.frozen 2
    have y3 := hBq.frozen 3
    simp only [refCells, List.getElem?_cons_succ, List.getElem?_cons_zero] at z1 z2 z3
    have hbq : b ≠ q := by have := HB.out.lt; omega
    have hlb := hB1.lt
    have hlq := hBq.lt
    have hQ : Blk (((w1.setCell ⟨q, 1, none⟩ (.bool r.prot)).setCell ⟨q, 2, none⟩ (.bool r.quad)).setCell ⟨q, 3, none⟩ (.slice ao an ac)) q (rawL A r.prot r.quad (.slice ao an ac)) 54 := ((hBq.set 1 (.bool r.prot)).set 2 (.bool r.quad)).set 3 (.slice ao an ac)
    have hBb : RB (((w1.setCell ⟨q, 1, none⟩ (.bool r.prot)).setCell ⟨q, 2, none⟩ (.bool r.quad)).setCell ⟨q, 3, none⟩ (.slice ao an ac)) b { r with a := A } (.slice ao an ac) bv iv := ((hB1.set_ne 1 (.bool r.prot) hbq).set_ne 2 (.bool r.quad) hbq).set_ne 3 (.slice ao an ac) hbq
    have hnq : q < w.heap.size → q = b := fun hk => by have := HU.out.size; omega
    have hUb : Upd (fun k => k = b) w (((w1.setCell ⟨q, 1, none⟩ (.bool r.prot)).setCell ⟨q, 2, none⟩ (.bool r.quad)).setCell ⟨q, 3, none⟩ (.slice ao an ac)) := (((HU.out.trans hU1 (fun _ _ f => f.elim)).setCell ⟨q, 1, none⟩ _ hnq).setCell ⟨q, 2, none⟩ _ hnq).setCell ⟨q, 3, none⟩ _ hnq
    have HQ := Lib.hid hQ
    have HBb := Lib.hid hBb
    have HUb := Lib.hid hUb
    clear hQ hBb hUb hnq hB1 hBq hRv hv hU1 hq
    go_upto_region 10 with fail
    clear c1 c2 c3 z1 z2 z3 y1 y2 y3
    generalize ((w1.setCell ⟨q, 1, none⟩ (.bool r.prot)).setCell ⟨q, 2, none⟩ (.bool r.quad)).setCell ⟨q, 3, none⟩ (.slice ao an ac) = w2 at *
    have HRA : Hid (w2.rangeAt q 0 (rawL A r.prot r.quad (.slice ao an ac))) := Lib.hid (fun j v hj => by rw [Nat.zero_add, HQ.out.cell j]; exact hj)
    have HTH := Lib.hid (raw_there HBb.out)
    have HW := Lib.hid (raw_world HBb.out A r.prot r.quad (.slice ao an ac))
    have HU2 := Lib.hid (HUb.out.trans (raw_upd w2 b A r.prot r.quad (.slice ao an ac)) (fun _ _ e => e))
    go_wp2_with (first | (refine wpList_load_mid rfl 54 _ rfl q 0 rfl (rawL A r.prot r.quad (.slice ao an ac)) _ HRA.out Tryz.underlying54 rfl (by kernel_rfl) ?_) | (refine wpList_store_mid rfl 54 _ _ rfl b 0 (rawL A r.prot r.quad (.slice ao an ac)).toArray rfl rfl HTH.out (by kernel_rfl) (by kernel_rfl) ?_))
    go_end0
    exact ⟨rfl, by rw [HL.out]; exact HW.out, HU2.out⟩
end Go.Proofs.YteombggfmeilaaaGreat
namespace Go.Proofs.YteombggfmeilaaaGreat
open Go.RowKit
def headOr (l : List Int) : Int := match l with
  | [] => 8
  | d :: _ => d
def RSt.began (r : RSt) : RSt := { r with kind := r.op.byte, left := headOr r.busy, busy := r.busy.tail }
set_option maxRecDepth 100000 in
set_option maxHeartbeats 1000000 in
theorem ref_full32 (w : World) : Calls Tryz.prog 89 #[.int .i64 32] w fun e w' => e = .returned (.string ⟨(List.replicate 32 255).toArray⟩) ∧ Upd none' w w' := by
  have hmk := make_bytes32
  go_enter Tryz.func89, Tryz.ntmps89
  go_wp2_with fail
  clear hmk
  obtain ⟨Z, hZ⟩ : ∃ Z, List.replicate 32 (0 : UInt8) = Z := ⟨_, rfl⟩
  first | rw [hZ] | rw [show [(0 : UInt8), 0, 0, 0, 0, 0, 0, 0, 0, 0, 0, 0, 0, 0, 0, 0, 0, 0, 0, 0, 0, 0, 0, 0, 0, 0, 0, 0, 0, 0, 0, 0] = Z from hZ]
  have hBz : Buf (w.alloc (.cells (bytesV Z).toArray 5)) w.heap.size Z 5 := ⟨[], (0, 0), by rw [List.append_nil]; exact heap_alloc_new w _, .inl rfl⟩
  have hUz := (Upd.refl none' w).alloc (.cells (bytesV Z).toArray 5)
  generalize w.alloc (.cells (bytesV Z).toArray 5) = W at *
  go_loopw [4] (fun iv wr => ∃ (i : Nat) (l : List UInt8), i ≤ 32 ∧ iv = .int .i64 i ∧ Upd none' w wr ∧ Buf wr w.heap.size l 5 ∧ Hid (l = List.replicate i 255 ++ List.replicate (32 - i) 0)) (fun iv _ => 32 - (intOf iv).toNat)
  case atStart => exact ⟨0, Z, by omega, rfl, hUz, hBz, Lib.hid (by rw [← hZ, List.replicate_zero, List.nil_append])⟩
  case round =>
    clear hBz hUz
    obtain ⟨i, l, hi, rfl, hU, hB, hl⟩ := hrel
    have hll : l.length = 32 := by rw [hl.out]; simp; omega
    by_cases hlt : i < 32
    · have hc := hB.cell (j := i) (by omega)
      have hf := hB.frozen (j := i) (by omega)
      have HB := Lib.hid (hB.set (j := i) (by omega) 255)
      have HU := Lib.hid (hU.setCell ⟨w.heap.size, i, none⟩ (.int .u8 255) (fun h => absurd h (by dsimp only; omega)))
      clear hB hU hZ
      go_wp2
      exact ⟨⟨i + 1, _, by omega, by go_num, HU.out, HB.out, Lib.hid (by rw [hl.out, fillN 32 i hlt])⟩, by simp [intOf]; omega⟩
    · have hieq : i = 32 := by omega
      subst hieq
      obtain ⟨R, hR⟩ : ∃ R, List.replicate 32 (255 : UInt8) = R := ⟨_, rfl⟩
      have hle : l = R := by rw [hl.out, Nat.sub_self, List.replicate_zero, List.append_nil]; exact hR
      have HR := Lib.hid hR
      clear hZ hR
      subst hle
      have hst := fun cap => run_string_buf hB 23 5 9 Tryz.underlying23 Tryz.underlying5 Tryz.underlying9 32 cap hll
      have HU := Lib.hid hU
      clear hB hU hl
      go_wp2
      go_ret
      exact ⟨by rw [HR.out]; rfl, HU.out⟩
theorem Row.setAt {w : World} {e : TypeId} {v : Value} {xs : List Value} (h : Row w e v xs) (g : Nat) (hg : v.ownBlock = some g) (i : Nat) (_ : i < xs.length) (u : Value) : Row (w.setCell ⟨g, i, none⟩ u) e v (xs.set i u) := by
  obtain ⟨h1, h2⟩ := h
  refine ⟨by simp, ?_⟩
  rcases h2 with ⟨rfl, _⟩ | ⟨g', cap, cur, rfl, hb, hh, r1, r2, r3, r4⟩
  · cases hg
  · simp only [Value.ownBlock, Option.some.injEq] at hg
    subst hg
    refine .inr ⟨g', cap, cur.set! i u, by simp, hb, ?_, by simpa using r1, r2, by simpa using r3, ?_⟩
    · simp only [World.setCell, Array.getElem?_modify, hh]; simp
    · have r5 : xs = cur.toList.take xs.length := by simpa using r4.symm
      refine Eq.trans ?_ (congrArg (fun l => l.set i u) r5).symm
      simp [List.take_set]
theorem size_set (w : World) (p : Addr) (v : Value) : (w.setCell p v).heap.size = w.heap.size := by simp [World.setCell]
set_option maxRecDepth 100000 in
set_option maxHeartbeats 4000000 in
theorem ref_begin_no (b : Nat) (r : RSt) (wv bv iv : Value) (w : World) (h : RB w b r wv bv iv) (had : 0 ≤ r.addr ∧ r.addr < 4096) (hn : r.en = false ∨ r.prot = true ∧ r.addr < 2048) :
    Calls Tryz.prog 96 #[.pointer (some ⟨b, 0, none⟩)] w fun e w' => e = .returned (.tuple #[]) ∧ RB w' b r.begins wv bv iv ∧ Upd (fun k => k = b) w w' := by
  have c5 := h.cell 5
  have f5 := h.frozen 5
  have hlt := h.lt
  simp only [RSt.list, List.getElem?_cons_succ, List.getElem?_cons_zero] at c5
  cases he : r.en with
  | false =>
    rw [he] at c5
    have hR : r.begins = r := by unfold RSt.begins; rw [if_pos (by rw [he]; decide)]
    have HR := Lib.hid hR
    clear hR he hn
    go_enter Tryz.func96, Tryz.ntmps96
    go_wp2
    refine bodyPost_ret (results_none rfl _ _ _) rfl ?_
    exact ⟨rfl, by rw [HR.out]; exact h, Upd.refl _ _⟩
  | true =>
    rw [he] at c5
    obtain ⟨hp, ha⟩ : r.prot = true ∧ r.addr < 2048 := by
      rcases hn with h1 | h1
      · rw [he] at h1; cases h1
      · exact h1
    have hR : r.begins = { r with en := false } := by unfold RSt.begins; rw [if_neg (by rw [he]; decide), if_pos ⟨hp, ha⟩]
    have HR := Lib.hid hR
    have l1 : ∀ u : UW w, u.val.cell? ⟨b, 1, none⟩ = some (.bool r.prot) := fun u => (h.upd u.upd (fun f => f)).cell 1
    have l24 : ∀ u : UW w, u.val.cell? ⟨b, 24, none⟩ = some (.int .i64 r.addr) := fun u => (h.upd u.upd (fun f => f)).cell 24
    have HP := Lib.hid (fun W => ref_protected r.prot r.addr W had.1 had.2)
    have hpa : (r.prot && decide (r.addr < 2048)) = true := by rw [hp, decide_eq_true ha]; rfl
    rw [hpa] at HP
    have HB := Lib.hid h
    clear hR he hn hp ha hpa h
    go_enter Tryz.func96, Tryz.ntmps96
    go_upto_region 1 with fail
    refine wp_region_upd_lit w (Upd.refl none' w) (by kernel_rfl) (by kernel_rfl) ?_
    repeat (go_big_quiet_step ((go_at_call 157; exact quiet_eq (HP.out _))))
    refine wpQuiet_nil ?_
    rintro _ ⟨⟨w1, hU1⟩, rfl⟩
    have hB1 := HB.out.upd hU1 (fun f => f)
    have d5 := hB1.cell 5
    have g5 := hB1.frozen 5
    simp only [RSt.list, List.getElem?_cons_succ, List.getElem?_cons_zero] at d5
    have hlt1 := hB1.lt
    go_wp2
    refine bodyPost_ret (results_none rfl _ _ _) rfl ?_
    exact ⟨rfl, by rw [HR.out]; exact hB1.set 5 _, (hU1.mono (T := fun k => k = b) (fun _ _ f => f.elim)).setCell ⟨b, 5, none⟩ _ (fun _ => rfl)⟩
set_option maxRecDepth 100000 in
set_option maxHeartbeats 4000000 in
theorem ref_begin (b : Nat) (r : RSt) (wv bv iv : Value) (w : World) (h : RB w b r wv bv iv) (had : 0 ≤ r.addr ∧ r.addr < 4096) (hen : r.en = true) (hp : ¬ (r.prot = true ∧ r.addr < 2048)) (hby : r.op.byte = 32 ∨ r.op.byte = 2)
    (hb : Row w 3 bv (ints r.busy)) (hbl : r.busy.length ≤ 16) (hbb : ∀ k, bv.ownBlock = some k → k ≠ b ∧ wv.ownBlock ≠ some k)
    (hwv : Row w 3 wv (ints (wl r.wipes))) (hwb : ∀ k, wv.ownBlock = some k → k ≠ b) (hwn : ∀ k, 0 ≤ r.wipes k ∧ r.wipes k ≤ 1099511627776)
    (hi : Row w 3 iv (ints r.inn)) (hib : ∀ k, iv.ownBlock = some k → k ≠ b ∧ wv.ownBlock ≠ some k) (hil : r.inn.length ≤ 1048576) :
    Calls Tryz.prog 96 #[.pointer (some ⟨b, 0, none⟩)] w fun e w' => e = .returned (.tuple #[]) ∧ ∃ bv', RB w' b r.begins wv bv' iv ∧ Row w' 3 bv' (ints r.begins.busy) ∧ Row w' 3 wv (ints (wl r.begins.wipes)) ∧ (∀ k, bv'.ownBlock = some k → bv.ownBlock = some k ∨ w.heap.size ≤ k) ∧ Upd (fun k => k = b ∨ wv.ownBlock = some k) w w' := by
  have c5 := h.cell 5
  have hlt := h.lt
  simp only [RSt.list, List.getElem?_cons_succ, List.getElem?_cons_zero] at c5
  rw [hen] at c5
  have HR : Hid (r.begins = if r.op.byte = 32 then { r.began with att := r.addr, wipes := fun k => if (k : Int) = r.addr / 512 then r.wipes k + 1 else r.wipes k } else { r.began with att := r.addr / 32 * 32, jdata := ⟨(pageOf r.addr r.inn).toArray⟩ }) := Lib.hid (by
    unfold RSt.begins
    rw [if_neg (by rw [hen]; decide), if_neg hp]
    rcases hby with e | e
    · rw [if_pos e, if_pos e]
      unfold RSt.began
      rw [e]
      rfl
    · rw [if_neg (by omega), if_neg (by omega)]
      rfl)
  have l1 : ∀ u : UW w, u.val.cell? ⟨b, 1, none⟩ = some (.bool r.prot) := fun u => (h.upd u.upd (fun f => f)).cell 1
  have l24 : ∀ u : UW w, u.val.cell? ⟨b, 24, none⟩ = some (.int .i64 r.addr) := fun u => (h.upd u.upd (fun f => f)).cell 24
  have HP := Lib.hid (fun W => ref_protected r.prot r.addr W had.1 had.2)
  have hpa : (r.prot && decide (r.addr < 2048)) = false := by
    cases hq : r.prot with
    | false => rfl
    | true => rw [decide_eq_false (fun e => hp ⟨hq, e⟩)]; rfl
  rw [hpa] at HP
  have HB := Lib.hid h
  have HWL := Lib.hid hwv.lt
  have HBW := Lib.hid hbb
  have HWB := Lib.hid hwb
  replace hbb : ∀ k, bv.ownBlock = some k → k ≠ b := fun k hk => (hbb k hk).1
  clear hpa h hen hp
  go_enter Tryz.func96, Tryz.ntmps96
  go_upto_region 1 with fail
  refine wp_region_upd_lit w (Upd.refl none' w) (by kernel_rfl) (by kernel_rfl) ?_
  repeat (go_big_quiet_step ((go_at_call 157; exact quiet_eq (HP.out _))))
  refine wpQuiet_nil ?_
  rintro w1 ⟨⟨_, hU1⟩, rfl⟩
  have hB1 := HB.out.upd hU1 (fun f => f)
  have d13 := hB1.cell 13
  have d7 := hB1.cell 7
  have d10 := hB1.cell 10
  have d12 := hB1.cell 12
  have g7 := hB1.frozen 7
  have g10 := hB1.frozen 10
  have g12 := hB1.frozen 12
  have hlt1 := hB1.lt
  simp only [RSt.list, List.getElem?_cons_succ, List.getElem?_cons_zero] at d13 d7 d10 d12
  have hb1 := hb.upd hU1 (fun _ _ f => f)
  obtain ⟨n, hn⟩ : ∃ n, r.busy.length = n := ⟨_, rfl⟩
  have hform := hb1.form
  rw [ints_len, hn] at hform
  obtain ⟨da, dc, rfl, hdcap, hdnil, hdsome⟩ := hform
  rw [hn] at hbl
  clear l1 l24 HP c5
  have HB1 := Lib.hid hB1
  have HU1 := Lib.hid hU1
  have HBR := Lib.hid hb1
  clear hB1 hU1 hb1 hb
  go_upto_if 43 with (fail)
  have HB2 : Hid (RB ((w1.setCell ⟨b, 7, none⟩ (.int .i64 r.op.byte)).setCell ⟨b, 10, none⟩ (.int .i64 8)) b { r with kind := r.op.byte, left := 8 } wv (.slice da n dc) iv) := Lib.hid ((HB1.out.set 7 _).set 10 _)
  have HU2 : Hid (Upd (fun k => k = b) w1 ((w1.setCell ⟨b, 7, none⟩ (.int .i64 r.op.byte)).setCell ⟨b, 10, none⟩ (.int .i64 8))) := Lib.hid (((Upd.refl (fun k => k = b) w1).setCell ⟨b, 7, none⟩ _ (fun _ => rfl)).setCell ⟨b, 10, none⟩ _ (fun _ => rfl))
  generalize (w1.setCell ⟨b, 7, none⟩ (.int .i64 r.op.byte)).setCell ⟨b, 10, none⟩ (.int .i64 8) = w2 at *
  go_cut [] (fun wx => ∃ bv', RB wx b r.began wv bv' iv ∧ Row wx 3 bv' (ints r.busy.tail) ∧ (∀ k, bv'.ownBlock = some k → (Value.slice da n dc).ownBlock = some k ∨ w.heap.size ≤ k) ∧ Upd (fun k => k = b) w wx)
  case first =>
    have hsz := HU1.out.size
    have hsz2 := HU2.out.size
    cases hbz : r.busy with
    | nil =>
      have hn0 : n = 0 := by rw [← hn, hbz]; rfl
      subst hn0
      have HBA : Hid (r.began = { r with kind := r.op.byte, left := 8 }) := Lib.hid (by
        unfold RSt.began headOr
        rw [hbz]
        rfl)
      have HBZ := Lib.hid hbz
      clear hbz hn hdnil hdsome
      go_wp2_with fail
      go_meet
      refine ⟨.slice da 0 dc, by rw [HBA.out]; exact HB2.out, ?_, fun k hk => .inl hk, (HU1.out.mono (T := fun k => k = b) (fun _ _ f => f.elim)).trans HU2.out (fun _ _ e => e)⟩
      have := HBR.out.upd HU2.out (fun k hk => hbb k hk)
      rw [HBZ.out] at this
      rw [show r.busy.tail = [] from by rw [HBZ.out]; rfl]
      exact this
    | cons d ds =>
      obtain ⟨m, rfl⟩ : ∃ m, n = m + 1 := ⟨ds.length, by rw [← hn, hbz]; rfl⟩
      have hml : ds.length = m := by
        have := hn
        rw [hbz] at this
        simpa using this
      have HBA : Hid (r.began = { r with kind := r.op.byte, left := d, busy := ds }) := Lib.hid (by
        unfold RSt.began headOr
        rw [hbz]
        rfl)
      have HBR2 : Hid (Row w1 3 (.slice da (m + 1) dc) (ints (d :: ds))) := Lib.hid (by rw [← hbz]; exact HBR.out)
      have HBZ := Lib.hid hbz
      rw [hbz] at hdnil hdsome
      clear hbz hn HBR
      cases da with
      | none => exact absurd (hdnil rfl).1 (by simp [ints])
      | some ad =>
        obtain ⟨g, rfl, hog, hgs, hcg, hfg⟩ := hdsome ad rfl
        have hgb : g ≠ b := hbb g rfl
        have hx0 : w2.cell? ⟨g, 0, none⟩ = some (.int .i64 d) := by rw [HU2.out.cell hgs (fun e => hgb e), hcg 0 (by omega)]; simp [ints]
        have hcg2 : ∀ j, j < m + 1 → w2.cell? ⟨g, j, none⟩ = (ints (d :: ds))[j]? := fun j hj => by rw [HU2.out.cell hgs (fun e => hgb e)]; exact hcg j hj
        have hgs2 : g < w2.heap.size := by omega
        have HC := Lib.hid hcg2
        have e10 := HB2.out.cell 10
        have e12 := HB2.out.cell 12
        have y10 := HB2.out.frozen 10
        have y12 := HB2.out.frozen 12
        have hl2 := HB2.out.lt
        simp only [RSt.list, List.getElem?_cons_succ, List.getElem?_cons_zero] at e10 e12
        have HB3 : Hid (RB (w2.setCell ⟨b, 10, none⟩ (.int .i64 d)) b { r with kind := r.op.byte, left := d } wv (.slice (some ⟨g, 0, none⟩) (m + 1) dc) iv) := Lib.hid (HB2.out.set 10 _)
        have HU3 : Hid (Upd (fun k => k = b) w1 (w2.setCell ⟨b, 10, none⟩ (.int .i64 d))) := Lib.hid (HU2.out.setCell ⟨b, 10, none⟩ _ (fun _ => rfl))
        clear hdnil hdsome hfg hog d13 d7 d10 d12 g7 g10 g12 HBR2 hcg
        by_cases hdc : dc = 1
        · have hm0 : m = 0 := by omega
          subst hm0
          obtain rfl : ds = [] := List.length_eq_zero_iff.1 hml
          subst hdc
          clear hcg2
          go_upto_region 8 with fail
          generalize w2.setCell ⟨b, 10, none⟩ (.int .i64 d) = w3 at *
          have u12 := HB3.out.cell 12
          have v12 := HB3.out.frozen 12
          have hl3 := HB3.out.lt
          simp only [RSt.list, List.getElem?_cons_succ, List.getElem?_cons_zero] at u12
          have hsz3 := HU3.out.size
          clear e10 e12 y10 y12 hx0
          go_wp2_with (at_builtin; go_must (refine wpList_appS rfl _ _ 33 rfl 3 (.int .i64 0) 8 Tryz.underlying33 info_int rfl w3.heap.size _ 0 [] rfl (own_empty w3 3) _ ⟨g, 0, none⟩ 0 _ [] rfl rfl rfl (fun j u hu => by simp at hu) (fun u hu => by simp at hu) (by omega) (by omega) (by simp) ?_))
          intro v' w4 hO1 hU4
          obtain ⟨hR1, hbase⟩ := Row.of_own hO1
          obtain ⟨ao', cap', rfl, -⟩ := hR1.form
          have hU4' : Upd none' w3 w4 := ((Upd.refl none' w3).alloc _).trans hU4 (fun k g1 g2 => absurd (show w3.heap.size = k from Option.some.inj g2) (by omega))
          have hb4 := HB3.out.upd hU4' (fun f => f)
          have s12 := hb4.cell 12
          have t12 := hb4.frozen 12
          simp only [RSt.list, List.getElem?_cons_succ, List.getElem?_cons_zero] at s12
          have hl4 := hb4.lt
          have HB4 := Lib.hid hb4
          have HU4 := Lib.hid hU4'
          have HR4 := Lib.hid hR1
          have HBS := Lib.hid hbase
          clear hb4 hU4' hR1 hbase hO1 hU4
          go_wp2_with fail
          go_meet
          refine ⟨.slice ao' 0 cap', by rw [HBA.out]; exact HB4.out.set 12 _, ?_, fun k hk => .inr (by have := HBS.out k hk; omega), ?_⟩
          · rw [show r.busy.tail = [] from by rw [HBZ.out]; rfl]
            exact HR4.out.upd ((Upd.refl (fun k => k = b) w4).setCell ⟨b, 12, none⟩ _ (fun _ => rfl)) (fun k hk e => by have := HBS.out k hk; omega)
          · exact (((HU1.out.mono (T := fun k => k = b) (fun _ _ f => f.elim)).trans HU3.out (fun _ _ e => e)).trans HU4.out (fun _ _ f => f.elim)).setCell ⟨b, 12, none⟩ _ (fun _ => rfl)
        · have hsrc : ∀ j u, (ints ds)[j]? = some u → ((w2.setCell ⟨b, 10, none⟩ (.int .i64 d)).alloc (.cells #[] 3)).cell? ((⟨g, 1, none⟩ : Addr).add j) = some u := by
            intro j u hu
            have hj : j < ds.length := by
              have := (List.getElem?_eq_some_iff.1 hu).1
              simpa [ints] using this
            have hs3 : g < (w2.setCell ⟨b, 10, none⟩ (.int .i64 d)).heap.size := by rw [size_set]; exact hgs2
            rw [Addr.add_mid, World.cell?_alloc_lt _ _ _ hs3, World.cell?_setCell_other _ _ _ _ (by intro e; exact hgb (congrArg Addr.block e).symm)]
            rw [HC.out (1 + j) (by omega)]
            simpa [ints, Nat.add_comm 1 j] using hu
          have HS := Lib.hid hsrc
          clear hsrc hcg2
          go_upto_region 8 with fail
          generalize w2.setCell ⟨b, 10, none⟩ (.int .i64 d) = w3 at *
          have u12 := HB3.out.cell 12
          have v12 := HB3.out.frozen 12
          have hl3 := HB3.out.lt
          simp only [RSt.list, List.getElem?_cons_succ, List.getElem?_cons_zero] at u12
          have hsz3 := HU3.out.size
          clear e10 e12 y10 y12 hx0
          go_wp2_with (at_builtin; go_must (refine wpList_appS rfl _ _ 33 rfl 3 (.int .i64 0) 8 Tryz.underlying33 info_int rfl w3.heap.size _ 0 [] rfl (own_empty w3 3) _ ⟨g, 1, none⟩ m _ (ints ds) rfl rfl (by rw [ints_len, hml]) HS.out (ints_one ds) (by omega) (by omega) (by simp) ?_))
          intro v' w4 hO1 hU4
          obtain ⟨hR1, hbase⟩ := Row.of_own hO1
          obtain ⟨ao', cap', rfl, -⟩ := hR1.form
          have hU4' : Upd none' w3 w4 := ((Upd.refl none' w3).alloc _).trans hU4 (fun k g1 g2 => absurd (show w3.heap.size = k from Option.some.inj g2) (by omega))
          have hb4 := HB3.out.upd hU4' (fun f => f)
          have s12 := hb4.cell 12
          have t12 := hb4.frozen 12
          simp only [RSt.list, List.getElem?_cons_succ, List.getElem?_cons_zero] at s12
          have hl4 := hb4.lt
          have HB4 := Lib.hid hb4
          have HU4 := Lib.hid hU4'
          have HR4 := Lib.hid hR1
          have HBS := Lib.hid hbase
          clear hb4 hU4' hR1 hbase hO1 hU4
          go_wp2_with fail
          go_meet
          refine ⟨.slice ao' (ints ds).length cap', by rw [HBA.out]; exact HB4.out.set 12 _, ?_, fun k hk => .inr (by have := HBS.out k hk; omega), ?_⟩
          · rw [show r.busy.tail = ds from by rw [HBZ.out]; rfl]
            exact HR4.out.upd ((Upd.refl (fun k => k = b) w4).setCell ⟨b, 12, none⟩ _ (fun _ => rfl)) (fun k hk e => by have := HBS.out k hk; omega)
          · exact (((HU1.out.mono (T := fun k => k = b) (fun _ _ f => f.elim)).trans HU3.out (fun _ _ e => e)).trans HU4.out (fun _ _ f => f.elim)).setCell ⟨b, 12, none⟩ _ (fun _ => rfl)
  case rest =>
    obtain ⟨bv', hB3, hR3, hf3, hU3⟩ := hcut
    clear HB1 HU1 HBR HB2 HU2 hdnil hdsome d13 d7 d10 d12 g7 g10 g12 hbb HB hlt1
    have hwv3 := hwv.upd hU3 hwb
    have hi3 := hi.upd hU3 (fun k hk => (hib k hk).1)
    have e24 := hB3.cell 24
    have e8 := hB3.cell 8
    have e7 := hB3.cell 7
    have e3 := hB3.cell 3
    have e9 := hB3.cell 9
    have e27 := hB3.cell 27
    have y8 := hB3.frozen 8
    have y9 := hB3.frozen 9
    have hl3 := hB3.lt
    simp only [RSt.list, RSt.began, List.getElem?_cons_succ, List.getElem?_cons_zero] at e24 e8 e7 e3 e9 e27
    have HB3 := Lib.hid hB3
    have HR3 := Lib.hid hR3
    have HF3 := Lib.hid hf3
    have HU3 := Lib.hid hU3
    clear hB3 hR3 hf3 hU3 hwv hi
    have hsz3 := HU3.out.size
    rcases hby with hb | hb
    · have hRE : r.begins = { r.began with att := r.addr, wipes := fun k => if (k : Int) = r.addr / 512 then r.wipes k + 1 else r.wipes k } := by rw [HR.out, if_pos hb]
      have HRE := Lib.hid hRE
      rw [hb] at e7
      have HBY := Lib.hid hb
      clear hRE HR hb
      obtain ⟨s, hs⟩ : ∃ s : Nat, r.addr / 512 = (s : Int) := ⟨(r.addr / 512).toNat, by omega⟩
      have hs8 : s < 8 := by omega
      have htd : r.addr.tdiv 512 = (s : Int) := by rw [tdiv512 had.1, hs]
      have hwr : IntKind.i64.wrap (s : Int) = (s : Int) := IntWalk.i64_in _ (by omega)
      have hform := hwv3.form
      have hl8 : (ints (wl r.wipes)).length = 8 := rfl
      rw [hl8] at hform
      obtain ⟨wa, wc', rfl, hwcap, hwnil, hwsome⟩ := hform
      cases wa with
      | none => exact absurd (hwnil rfl).1 (by simp [ints, wl])
      | some ad =>
        obtain ⟨g, rfl, hog, hgs, hcg, hfg⟩ := hwsome ad rfl
        have hgb : g ≠ b := hwb g hog
        have hx : wc.cell? ⟨g, s, none⟩ = some (.int .i64 (r.wipes s)) := by
          rw [hcg s hs8]
          have : s = 0 ∨ s = 1 ∨ s = 2 ∨ s = 3 ∨ s = 4 ∨ s = 5 ∨ s = 6 ∨ s = 7 := by omega
          rcases this with e | e | e | e | e | e | e | e <;> subst e <;> rfl
        have hfx := hfg s
        have hsum : IntKind.i64.wrap (r.wipes s + 1) = r.wipes s + 1 := IntWalk.i64_in _ (by have := hwn s; omega)
        have HW3 := Lib.hid hwv3
        have HI3 := Lib.hid hi3
        have HSE := Lib.hid hs
        clear hwv3 hi3 hcg hwsome hwnil hs hwb hfg
        go_upto_region 11 with fail
        go_region
        all_goals go_wp2
        all_goals refine bodyPost_ret (results_none rfl _ _ _) rfl ?_
        all_goals
          have hu1 : Upd (fun k => k = b) wc (wc.setCell ⟨b, 8, none⟩ (.int .i64 r.addr)) := (Upd.refl (fun k => k = b) wc).setCell ⟨b, 8, none⟩ _ (fun _ => rfl)
          have hu2 : Upd (fun k => k = g) (wc.setCell ⟨b, 8, none⟩ (.int .i64 r.addr)) ((wc.setCell ⟨b, 8, none⟩ (.int .i64 r.addr)).setCell ⟨g, s, none⟩ (.int .i64 (r.wipes s + 1))) := (Upd.refl (fun k => k = g) _).setCell ⟨g, s, none⟩ _ (fun _ => rfl)
          have hbv : ∀ k, bv'.ownBlock = some k → k ≠ b ∧ k ≠ g := fun k hk => by
            rcases HF3.out k hk with h5 | h5
            · exact ⟨(HBW.out k h5).1, fun e => (HBW.out k h5).2 (by rw [hog, e])⟩
            · have := HWL.out g hog
              omega
          rw [HRE.out]
          refine ⟨rfl, bv', (((HB3.out.set 8 (.int .i64 r.addr)).set_ne s (.int .i64 (r.wipes s + 1)) (fun e => hgb e.symm))).drew, ((HR3.out.upd hu1 (fun k hk => (hbv k hk).1)).upd hu2 (fun k hk => (hbv k hk).2)).upd (Upd.refl none' _).drew (fun _ _ f => f), ?_, fun k hk => HF3.out k hk, ?_⟩
          · have h8 := (HW3.out.upd hu1 (fun k hk e => hgb (by rw [hog] at hk; cases hk; exact e))).setAt g hog s (by rw [hl8]; exact hs8) (.int .i64 (r.wipes s + 1))
            rw [ints_set] at h8
            have hwl8 : (wl r.wipes).set s (r.wipes s + 1) = wl (fun k : Nat => if (k : Int) = r.addr / 512 then r.wipes k + 1 else r.wipes k) := by
              rw [HSE.out]
              have : s = 0 ∨ s = 1 ∨ s = 2 ∨ s = 3 ∨ s = 4 ∨ s = 5 ∨ s = 6 ∨ s = 7 := by omega
              rcases this with e | e | e | e | e | e | e | e <;> subst e <;> rfl
            rw [hwl8] at h8
            exact h8.upd (Upd.refl none' _).drew (fun _ _ f => f)
          · exact (((HU3.out.mono (T := fun k => k = b ∨ g = k) (fun _ _ e => .inl e)).trans hu1 (fun _ _ e => .inl e)).trans hu2 (fun k _ e => .inr e.symm)).drew
    · have hRE : r.begins = { r.began with att := r.addr / 32 * 32, jdata := ⟨(pageOf r.addr r.inn).toArray⟩ } := by rw [HR.out, if_neg (by omega)]
      have HRE := Lib.hid hRE
      rw [hb] at e7
      clear hRE HR
      have hform := hi3.form
      rw [ints_len] at hform
      obtain ⟨ia, ic, rfl, hicap, -, hisome⟩ := hform
      have HI3 := Lib.hid hi3
      have HIS := Lib.hid hisome
      have HW3 := Lib.hid hwv3
      clear hi3 hisome hwv3 hwn hwb e3 e9 y9 hb
      have hu1 : Upd (fun k => k = b) wc (wc.setCell ⟨b, 8, none⟩ (.int .i64 r.addr)) := (Upd.refl (fun k => k = b) wc).setCell ⟨b, 8, none⟩ _ (fun _ => rfl)
      have HB4 : Hid (RB (wc.setCell ⟨b, 8, none⟩ (.int .i64 r.addr)) b { r.began with att := r.addr } wv bv' (.slice ia r.inn.length ic)) := Lib.hid (HB3.out.set 8 _)
      have hI4 := HI3.out.upd hu1 (fun k hk => (hib k hk).1)
      have HI4 := Lib.hid hI4
      have hl4 : b < (wc.setCell ⟨b, 8, none⟩ (.int .i64 r.addr)).heap.size := by rw [size_set]; exact hl3
      have hsz4 : (wc.setCell ⟨b, 8, none⟩ (.int .i64 r.addr)).heap.size = wc.heap.size := size_set _ _ _
      have HU1 := Lib.hid hu1
      clear hu1 hI4 HI3
      go_upto_region 12 with fail
      generalize wc.setCell ⟨b, 8, none⟩ (.int .i64 r.addr) = w4 at *
      obtain ⟨F, hF⟩ : ∃ F : ByteArray, (⟨(List.replicate 32 255).toArray⟩ : ByteArray) = F := ⟨_, rfl⟩
      have hfl : F.data.toList = pageOf r.addr [] := by rw [← hF]; rfl
      have hfull : ∀ W, Calls Tryz.prog 89 #[.int .i64 32] W fun e w' => e = .returned (.string F) ∧ Upd none' W w' := by
        intro W
        rw [← hF]
        exact ref_full32 W
      have hfz : F.size = 32 := by rw [← hF]; rfl
      have HFL := Lib.hid hfl
      have HFULL := Lib.hid hfull
      clear hF hfl hfull
      go_wp2_with (go_at_call 89; refine (HFULL.out _).mono ?_; rintro e w5 ⟨rfl, hU5⟩; have kc := Lib.run_convert_string_bytes (P := Tryz.prog) w5 9 23 5 F Tryz.underlying9 Tryz.underlying23 Tryz.underlying5)
      have hsz5 := hU5.size
      have HU6 : Hid (Upd none' w4 (Lib.bytesWorld w5 5 F)) := Lib.hid (hU5.trans (upd_bytes w5 _ F) (fun _ _ f => f))
      have HF6 : Hid (Buf (Lib.bytesWorld w5 5 F) w5.heap.size (pageOf r.addr []) 5) := Lib.hid (by rw [← HFL.out]; exact Buf.of_bytes w5 _ F)
      clear kc HFULL
      generalize Lib.bytesWorld w5 5 F = w6 at *
      have hc6 := (HB4.out.upd HU6.out (fun f => f))
      have s27 := hc6.cell 27
      simp only [RSt.list, List.getElem?_cons_succ, List.getElem?_cons_zero] at s27
      clear hc6 e24 e8 e7 e27 y8
      go_loopw [5] (fun iv w7 => ∃ i : Nat, i ≤ r.inn.length ∧ iv = .int .i64 i ∧ Upd none' w4 w7 ∧ Buf w7 w5.heap.size (pageOf r.addr (r.inn.take i)) 5) (fun iv _ => r.inn.length - (intOf iv).toNat)
      case atStart => exact ⟨0, by omega, rfl, HU6.out, by rw [List.take_zero]; exact HF6.out⟩
      case round =>
        rename World => W7
        clear s27
        obtain ⟨i, hi, rfl, hU, hB⟩ := hrel
        have hcb := HB4.out.upd hU (fun f => f)
        have s27 := hcb.cell 27
        have s24 := hcb.cell 24
        have s8 := hcb.cell 8
        have s9 := hcb.cell 9
        have v8 := hcb.frozen 8
        have v9 := hcb.frozen 9
        have hl7 := hcb.lt
        simp only [RSt.list, RSt.began, List.getElem?_cons_succ, List.getElem?_cons_zero] at s27 s24 s8 s9
        have HCB := Lib.hid hcb
        clear hcb
        by_cases hlt : i < r.inn.length
        · obtain ⟨x, hx⟩ : ∃ x, r.inn.getD i 0 = x := ⟨_, rfl⟩
          have hne : ∃ g, ia = some ⟨g, 0, none⟩ ∧ W7.cell? ⟨g, i, none⟩ = some (.int .i64 x) := by
            cases ia with
            | none =>
              obtain ⟨ao, cap, e1, _, hn, _⟩ := HI4.out.form
              simp only [Value.slice.injEq] at e1
              have := (hn e1.1.symm).1
              have hl := ints_len r.inn
              rw [this] at hl
              simp at hl
              omega
            | some ad =>
              obtain ⟨ao, cap, e1, _, _, hsome⟩ := HI4.out.form
              simp only [Value.slice.injEq] at e1
              obtain ⟨g, h0, h1, h2, h3, h4⟩ := hsome ad e1.1.symm
              subst h0
              refine ⟨g, rfl, ?_⟩
              rw [hU.cell (p := ⟨g, i, none⟩) h2 (fun f => f), h3 i (by rw [ints_len]; exact hlt), ints_at _ _ hlt, hx]
          obtain ⟨g, rfl, hcx⟩ := hne
          obtain ⟨q, hq1, hq2, hq3⟩ := page_at r.addr i had.1
          have hpl := page_len r.addr (r.inn.take i)
          have hc := hB.cell (j := q) (by rw [hpl]; exact hq2)
          have hf := hB.frozen (j := q) (by rw [hpl]; exact hq2)
          have hB2 := hB.set (j := q) (by rw [hpl]; exact hq2) (UInt8.ofNat (x % 256).toNat)
          have htk : r.inn.take (i + 1) = r.inn.take i ++ [x] := by
            rw [List.take_add_one, ← hx]
            simp [List.getD_eq_getElem?_getD, List.getElem?_eq_getElem hlt]
          have hps : (pageOf r.addr (r.inn.take i)).set q (UInt8.ofNat (x % 256).toNat) = pageOf r.addr (r.inn.take (i + 1)) := by
            rw [htk, page_snoc, List.length_take, Nat.min_eq_left hi, hq3]
          rw [hps] at hB2
          have hx8 := u8_wrap_of x
          obtain ⟨z8, hz8⟩ : ∃ z8 : UInt8, UInt8.ofNat (x % 256).toNat = z8 := ⟨_, rfl⟩
          rw [hz8] at hx8 hB2
          have HB2' := Lib.hid hB2
          have hU2 := Lib.hid (hU.setCell ⟨w5.heap.size, q, none⟩ (.int .u8 (z8.toNat : Int)) (fun h => absurd h (by dsimp only; omega)))
          have hsum : IntKind.i64.wrap (r.addr + (i : Int)) = r.addr + (i : Int) := IntWalk.i64_in _ (by omega)
          clear hB2 hps htk hpl hB hU hx hz8 hq3 s8 s9 v8 v9
          go_upto_region 16 with fail
          go_region
          all_goals go_wp2
          all_goals exact ⟨⟨i + 1, by omega, by go_num, hU2.out.drew, HB2'.out⟩, by simp [intOf]; omega⟩
        · have hieq : i = r.inn.length := by omega
          subst hieq
          rw [List.take_length] at hB
          have hB8 := hB.upd ((Upd.refl (fun k => k = b) W7).setCell ⟨b, 8, none⟩ (.int .i64 (r.addr / 32 * 32)) (fun _ => rfl)) (by intro e; omega)
          have hst := fun cap => run_string_buf hB8 23 5 9 Tryz.underlying23 Tryz.underlying5 Tryz.underlying9 32 cap (page_len _ _)
          have htd : r.addr.tdiv 32 = r.addr / 32 := Int.tdiv_eq_ediv_of_nonneg had.1
          have hw1 : IntKind.i64.wrap (r.addr / 32) = r.addr / 32 := IntWalk.i64_in _ (by omega)
          have hw2 : IntKind.i64.wrap (r.addr / 32 * 32) = r.addr / 32 * 32 := IntWalk.i64_in _ (by omega)
          have hbv : ∀ k, bv'.ownBlock = some k → k ≠ b := fun k hk => by
            rcases HF3.out k hk with h5 | h5
            · exact (HBW.out k h5).1
            · omega
          have hs : ∀ W, Upd (fun k => k = b) W ((W.setCell ⟨b, 8, none⟩ (.int .i64 (r.addr / 32 * 32))).setCell ⟨b, 9, none⟩ (.string ⟨(pageOf r.addr r.inn).toArray⟩)) := fun W => ((Upd.refl (fun k => k = b) W).setCell ⟨b, 8, none⟩ _ (fun _ => rfl)).setCell ⟨b, 9, none⟩ _ (fun _ => rfl)
          have HS := Lib.hid hs
          have HU := Lib.hid hU
          have HBV := Lib.hid hbv
          clear hs hU hB hbv hB8
          go_wp2
          first | (refine bodyPost_ret (results_none rfl _ _ _) rfl ?_) | go_end0
          rw [HRE.out]
          have hUall : Upd (fun k => k = b) wc ((W7.setCell ⟨b, 8, none⟩ (.int .i64 (r.addr / 32 * 32))).setCell ⟨b, 9, none⟩ (.string ⟨(pageOf r.addr r.inn).toArray⟩)) := (HU1.out.trans HU.out (fun _ _ f => f.elim)).trans (HS.out W7) (fun _ _ e => e)
          refine ⟨rfl, bv', (HCB.out.set 8 (.int .i64 (r.addr / 32 * 32))).set 9 (.string ⟨(pageOf r.addr r.inn).toArray⟩), HR3.out.upd hUall HBV.out, HW3.out.upd hUall HWB.out, HF3.out, (HU3.out.trans hUall (fun _ _ e => e)).mono (fun _ _ e => .inl e)⟩
end Go.Proofs.YteombggfmeilaaaGreat
