/- The document's chip as a pure machine, and what stands between its state and the chip's. No program in sight. -/
import Derived.Test.YteombggfmeilaaaGreatChipM
namespace Go.Proofs.YteombggfmeilaaaGreat
open Go.RowKit
/-- The document's chip. -/
structure RSt where
  a : ByteArray
  prot : Bool
  quad : Bool
  wipes : Nat → Int
  sel : Bool
  en : Bool
  goes : Bool
  kind : Int
  att : Int
  jdata : ByteArray
  left : Int
  susp : Bool
  busy : List Int
  op : POp
  taken : Bool
  known : Bool
  bits : Int
  x : Int
  part : Int
  addr : Int
  mode : Int
  modes : Bool
  inn : List Int
  clocks : Int
  out : Int
  sent : Int
def RSt.new (a : ByteArray) : RSt :=
  { a := a, prot := false, quad := false, wipes := fun _ => 0, sel := false, en := false, goes := false, kind := 0, att := 0, jdata := ⟨#[]⟩, left := 0, susp := false, busy := [], op := op0, taken := false, known := false, bits := 0, x := 0, part := 0, addr := 0, mode := 0, modes := false, inn := [], clocks := 0, out := 0, sent := 0 }
def wl (f : Nat → Int) : List Int := [f 0, f 1, f 2, f 3, f 4, f 5, f 6, f 7]
/-- Its cells in memory; wv, bv, iv: the slices of its counts, durations, data. -/
def RSt.list (r : RSt) (wv bv iv : Value) : List Value :=
  [.string r.a, .bool r.prot, .bool r.quad, wv, .bool r.sel, .bool r.en, .bool r.goes, .int .i64 r.kind, .int .i64 r.att, .string r.jdata, .int .i64 r.left, .bool r.susp, bv,
   .int .i64 r.op.byte, .int .i64 r.op.addr, .bool r.op.mode, .int .i64 r.op.dummy, .int .i64 r.op.data, .bool r.op.inn,
   .bool r.taken, .bool r.known, .int .i64 r.bits, .int .i64 r.x, .int .i64 r.part, .int .i64 r.addr, .int .i64 r.mode, .bool r.modes, iv, .int .i64 r.clocks, .int .i64 r.out, .int .i64 r.sent]
def RSt.works (r : RSt) : Bool := decide (r.kind ≠ 0) && !r.susp
def RSt.first (r : RSt) : Int := Go.Proofs.YteombggfmeilaaaGreat.first r.works r.en r.prot
def RSt.second (r : RSt) : Int := Go.Proofs.YteombggfmeilaaaGreat.second r.quad r.susp
def nextPart (o : POp) (p : Int) : Int := if p < 1 ∧ 0 < o.addr then 1 else if p < 2 ∧ o.mode = true then 2 else if p < 3 ∧ 0 < o.dummy then 3 else 4
def RSt.goOn (r : RSt) (p : Int) : RSt := { r with bits := 0, x := 0, clocks := 0, part := nextPart r.op p }
def RSt.takes (r : RSt) (b : Int) : Bool :=
  if r.susp && decide (b = 1 ∨ b = 2 ∨ b = 32) then false
  else if r.works && decide (b ≠ 5 ∧ b ≠ 53 ∧ b ≠ 117) then false
  else opIs b && (r.quad || decide (b ≠ 107 ∧ b ≠ 235))
def RSt.command (r : RSt) (b : Int) : RSt := ({ r with known := true, op := opOf b, taken := r.takes b } : RSt).goOn 0
def RSt.done (r : RSt) : RSt := { r with a := if r.kind = 2 then progCut r.a r.att.toNat r.jdata all255 else eraseCut r.a (r.att / 512).toNat all255, kind := 0, en := false }
def RSt.pass (r : RSt) : RSt := if r.works then (if r.left - 1 = 0 then ({ r with left := r.left - 1 } : RSt).done else { r with left := r.left - 1 }) else r
def RSt.takesIn (r : RSt) (x lanes : Int) : RSt := { r with x := if lanes = 1 then r.x * 2 + x % 2 else r.x * 16 + x % 16, bits := r.bits + lanes }
def RSt.byteOut (r : RSt) : Int :=
  if r.op.byte = 159 then ([239, 64, 12] : List Int).getD (r.sent % 3).toNat 0
  else if r.op.byte = 5 then r.first
  else if r.op.byte = 53 then r.second
  else if r.op.byte = 90 then byteOf sfdpTab ((r.addr + r.sent) % 32).toNat
  else byteOf r.a ((r.addr + r.sent) % 4096).toNat
def RSt.says1 (r : RSt) : RSt := if r.bits = 0 then { r with out := r.byteOut, sent := r.sent + 1 } else r
def RSt.says (r : RSt) : RSt × Int :=
  let r1 := r.says1
  let r2 := { r1 with bits := r1.bits + r1.op.data }
  let r3 := if r2.bits = 8 then { r2 with bits := 0 } else r2
  if r.op.data = 1 then (r3, 13 + 2 * (r1.out / 2 ^ (8 - r2.bits).toNat % 2)) else (r3, r1.out / 2 ^ (8 - r2.bits).toNat % 16)
def RSt.dataC (r : RSt) (x : Int) : RSt × Int :=
  if r.op.data = 0 then (r, 15)
  else if r.op.inn then
    let r1 := r.takesIn x 1
    (if r1.bits = 8 then { r1 with inn := r1.inn ++ [r1.x], bits := 0, x := 0 } else r1, 15)
  else r.says
def RSt.part1 (r0 : RSt) (x : Int) : RSt × Int :=
  let r : RSt := { r0 with clocks := r0.clocks + 1 }
  if r.part = 1 then
    let r1 := r.takesIn x r.op.addr
    (if r1.bits = 24 then ({ r1 with addr := r1.x % 4096 } : RSt).goOn 1 else r1, 15)
  else if r.part = 2 then
    let r1 := r.takesIn x r.op.addr
    (if r1.bits = 8 then ({ r1 with mode := r1.x, modes := true } : RSt).goOn 2 else r1, 15)
  else if r.part = 3 then (if r.clocks = r.op.dummy then r.goOn 3 else r, 15)
  else r.dataC x
def RSt.clockIn (r : RSt) (x : Int) : RSt × Int :=
  if r.known = false then
    let r1 := r.takesIn x 1
    (if r1.bits = 8 then r1.command r1.x else r1, 15)
  else if r.taken = false then (r, 15)
  else r.part1 x
def RSt.clock (r : RSt) (x : Int) : RSt × Int :=
  let r1 := r.pass
  if r1.sel then r1.clockIn x else (r1, 15)
def RSt.select (r : RSt) : RSt :=
  let r1 := { r with sel := true, op := op0, taken := false, known := false, bits := 0, x := 0, part := 0, modes := false, inn := [], clocks := 0, sent := 0 }
  if r.goes then r1.command 235 else r1
def RSt.begins (r : RSt) : RSt :=
  if !r.en then r
  else if r.prot ∧ r.addr < 2048 then { r with en := false }
  else
    let left := match r.busy with
      | [] => 8
      | d :: _ => d
    if r.op.byte = 32 then { r with kind := 32, left := left, busy := r.busy.tail, att := r.addr, wipes := fun k => if (k : Int) = r.addr / 512 then r.wipes k + 1 else r.wipes k }
    else { r with kind := r.op.byte, left := left, busy := r.busy.tail, att := r.addr / 32 * 32, jdata := ⟨(pageOf r.addr r.inn).toArray⟩ }
def RSt.alone (r : RSt) : Bool := decide (r.part = 4 ∧ r.clocks = 0)
def RSt.ends (r : RSt) : RSt :=
  if r.taken = false then r
  else if r.op.byte = 235 then { r with goes := r.modes && decide (r.mode = 160) }
  else if r.op.inn ∧ (r.part ≠ 4 ∨ r.bits ≠ 0) then r
  else if r.op.byte = 6 then { r with en := r.en || r.alone }
  else if r.op.byte = 4 then { r with en := r.en && !r.alone }
  else if r.op.byte = 117 then { r with susp := r.susp || (r.alone && decide (r.kind = 32)) }
  else if r.op.byte = 122 then { r with susp := r.susp && !r.alone }
  else if r.op.byte = 1 then
    if r.en ∧ r.inn.length = 2 then { r with prot := decide (r.inn.getD 0 0 / 4 % 2 = 1), quad := decide (r.inn.getD 1 0 / 2 % 2 = 1), en := false } else r
  else if r.op.byte = 2 then
    if r.inn = [] then r else r.begins
  else if r.op.byte = 32 then
    if r.alone then r.begins else r
  else r
def RSt.deselect (r : RSt) : RSt := { r with sel := false }.ends
def RSt.loss (r : RSt) (mask : ByteArray) : RSt :=
  { RSt.new (if r.kind = 2 then progCut r.a r.att.toNat r.jdata mask else if r.kind = 32 then eraseCut r.a (r.att / 512).toNat mask else r.a) with prot := r.prot, quad := r.quad, wipes := r.wipes }
/-- What is under way, told in both ways. -/
def RJob (r : RSt) : Option Job → Prop
  | none => r.kind = 0 ∧ r.susp = false
  | some j => r.left = j.left ∧ r.susp = j.susp ∧ (j.sector = -1 ∧ r.kind = 2 ∧ r.att = j.page ∧ r.jdata = j.data ∨ j.sector ≠ -1 ∧ r.kind = 32 ∧ 0 ≤ r.att ∧ r.att < 4096 ∧ j.sector = r.att / 512)
def RPart (r : RSt) (s : St) : Prop :=
  (s.stage = 0 ∧ r.x = s.got ∧ r.bits = 8 - s.left) ∨
  s.stage = 1 ∨
  (s.stage = 2 ∧ r.part = 1 ∧ r.x = s.got ∧ r.bits = 24 - s.left * s.op.addr) ∨
  (s.stage = 3 ∧ r.part = 2 ∧ r.x = s.got ∧ r.bits = 8 - s.left * s.op.addr) ∨
  (s.stage = 4 ∧ r.part = 3 ∧ r.clocks = s.op.dummy - s.left) ∨
  (s.stage = 5 ∧ r.part = 4 ∧ r.x = s.got ∧ r.bits = 8 - s.left) ∨
  (s.stage = 6 ∧ r.part = 4 ∧ (s.left = 0 ∧ r.bits = 0 ∨ s.left ≠ 0 ∧ r.bits = 8 - s.left * s.op.data ∧ r.out = s.now)) ∨
  (s.stage = 7 ∧ r.part = 4 ∧ decide (r.clocks = 0) = !s.beyond)
/-- A command, told in both ways. -/
structure RCmd (r : RSt) (s : St) : Prop where
  op : r.op = s.op
  known : r.known = decide (s.stage ≠ 0)
  taken : r.taken = decide (s.stage ≠ 0 ∧ s.stage ≠ 1)
  modes : r.modes = s.moded
  inn : r.inn = s.data
  sent : r.sent = s.told
  addr : s.stage ≠ 0 → s.stage ≠ 1 → s.stage ≠ 2 → s.op.addr ≠ 0 → r.addr = s.addr
  mode : s.moded = true → r.mode = s.mode
  moded : s.moded = true → s.stage ≠ 0 ∧ s.stage ≠ 2 ∧ s.stage ≠ 3
  clk : 0 ≤ r.clocks
  bey : s.stage ≠ 7 → s.beyond = false
  dm : s.stage = 4 → s.op.mode = true → s.moded = true
  d0 : s.stage = 7 → s.op.data = 0
  ns : s.stage ≠ 0 → s.stage ≠ 1 → (s.op.byte = 2 ∨ s.op.byte = 32) → r.susp = false
  part : RPart r s
structure Rel (r : RSt) (s : St) : Prop where
  a : r.a = s.a
  prot : r.prot = s.prot
  quad : r.quad = s.quad
  wipes : r.wipes = s.wipes
  sel : r.sel = s.sel
  en : r.en = s.en
  goes : r.goes = s.goes
  busy : r.busy = s.busy
  job : RJob r s.job
  cmd : s.sel = true → RCmd r s
theorem goOn_rel {r : RSt} {s : St} {p c : Int} (hc : s.op = opOf c) (ho : r.op = s.op) (hk : r.known = true) (ht : r.taken = true) (hm : r.modes = s.moded) (hi : r.inn = s.data) (hs : r.sent = s.told) (ha : s.op.addr ≠ 0 → r.addr = s.addr) (hmo : s.moded = true → r.mode = s.mode) (hb : s.beyond = false)
    (h1 : p < 1 → s.op.addr = 0) (h2 : s.op.mode = true → (p < 2 ↔ s.moded = false)) (h3 : 0 < s.op.dummy → (p < 3 ↔ s.stage ≠ 4)) (hns : s.op.byte = 2 ∨ s.op.byte = 32 → r.susp = false) : RCmd (r.goOn p) s.behind := by
  obtain ⟨o1, o2, o3, o4, o5, o6⟩ := op_facts c
  rw [← hc] at o1 o2 o3 o4 o5 o6
  have n1 : ¬ (p < 1 ∧ 0 < s.op.addr) := by omega
  unfold RSt.goOn nextPart St.behind
  rw [ho, if_neg n1]
  by_cases hA : s.op.mode = true ∧ s.moded = false
  · have hp : p < 2 := (h2 hA.1).2 hA.2
    have had := o1 hA.1
    rw [if_pos ⟨hp, hA.1⟩, if_pos (by simp [hA.1, hA.2])]
    refine ⟨rfl, ?_, ?_, hm, hi, hs, fun _ _ _ h => ha h, hmo, fun h => ?_, Int.le_refl 0, fun _ => hb, fun h => absurd h (by simp [St.enter]), fun h => absurd h (by simp [St.enter]), fun _ _ h => hns h, ?_⟩
    · simp [St.enter, hk]
    · simp [St.enter, ht]
    · have : s.moded = true := h
      rw [hA.2] at this
      exact absurd this (by decide)
    · refine .inr (.inr (.inr (.inl ⟨rfl, rfl, rfl, ?_⟩)))
      simp [St.enter, had]
  · have n2 : ¬ (p < 2 ∧ s.op.mode = true) := fun h => hA ⟨h.2, (h2 h.2).1 h.1⟩
    have n2' : ¬ (s.op.mode && !s.moded) = true := by
      intro h
      simp only [Bool.and_eq_true, Bool.not_eq_true'] at h
      exact hA h
    rw [if_neg n2, if_neg n2']
    by_cases hD : 0 < s.op.dummy ∧ s.stage ≠ 4
    · have hp : p < 3 := (h3 hD.1).2 hD.2
      rw [if_pos ⟨hp, hD.1⟩, if_pos hD]
      refine ⟨rfl, ?_, ?_, hm, hi, hs, fun _ _ _ h => ha h, hmo, fun h => ?_, Int.le_refl 0, fun _ => hb, fun _ hmm => by
        have hmm' : s.op.mode = true := hmm
        cases hq : s.moded with
        | true => exact hq
        | false => exact absurd ⟨hmm', hq⟩ hA, fun h => absurd h (by simp [St.enter]), fun _ _ h => hns h, ?_⟩
      · simp [St.enter, hk]
      · simp [St.enter, ht]
      · simp [St.enter]
      · refine .inr (.inr (.inr (.inr (.inl ⟨rfl, rfl, ?_⟩))))
        simp [St.enter]
    · have n3 : ¬ (p < 3 ∧ 0 < s.op.dummy) := fun h => hD ⟨h.2, (h3 h.2).1 h.1⟩
      rw [if_neg n3, if_neg hD]
      by_cases h0 : s.op.data = 0
      · rw [if_pos h0]
        refine ⟨rfl, ?_, ?_, hm, hi, hs, fun _ _ _ h => ha h, hmo, fun h => ?_, Int.le_refl 0, fun h => absurd rfl h, fun h => absurd h (by simp [St.enter]), fun _ => h0, fun _ _ h => hns h, ?_⟩
        · simp [St.enter, hk]
        · simp [St.enter, ht]
        · simp [St.enter]
        · refine .inr (.inr (.inr (.inr (.inr (.inr (.inr ⟨rfl, rfl, ?_⟩))))))
          simp [St.enter, hb]
      · rw [if_neg h0]
        by_cases hI : s.op.inn = true
        · rw [if_pos hI]
          have hd := o2 hI
          refine ⟨rfl, ?_, ?_, hm, hi, hs, fun _ _ _ h => ha h, hmo, fun h => ?_, Int.le_refl 0, fun _ => hb, fun h => absurd h (by simp [St.enter]), fun h => absurd h (by simp [St.enter]), fun _ _ h => hns h, ?_⟩
          · simp [St.enter, hk]
          · simp [St.enter, ht]
          · simp [St.enter]
          · refine .inr (.inr (.inr (.inr (.inr (.inl ⟨rfl, rfl, rfl, ?_⟩)))))
            simp [St.enter, hd]
        · rw [if_neg hI]
          refine ⟨rfl, ?_, ?_, hm, hi, hs, fun _ _ _ h => ha h, hmo, fun h => ?_, Int.le_refl 0, fun _ => hb, fun h => absurd h (by simp [St.enter]), fun h => absurd h (by simp [St.enter]), fun _ _ h => hns h, ?_⟩
          · simp [St.enter, hk]
          · simp [St.enter, ht]
          · simp [St.enter]
          · exact .inr (.inr (.inr (.inr (.inr (.inr (.inl ⟨rfl, rfl, .inl ⟨rfl, rfl⟩⟩))))))
theorem goOn_base (r : RSt) (p : Int) : (r.goOn p).a = r.a ∧ (r.goOn p).prot = r.prot ∧ (r.goOn p).quad = r.quad ∧ (r.goOn p).wipes = r.wipes ∧ (r.goOn p).sel = r.sel ∧ (r.goOn p).en = r.en ∧ (r.goOn p).goes = r.goes ∧ (r.goOn p).busy = r.busy ∧ (∀ j, RJob (r.goOn p) j = RJob r j) :=
  ⟨rfl, rfl, rfl, rfl, rfl, rfl, rfl, rfl, fun j => by cases j <;> rfl⟩
theorem works_rel {r : RSt} {s : St} (h : RJob r s.job) : r.works = s.works ∧ r.susp = s.susp := by
  unfold RSt.works St.works St.susp
  cases hj : s.job with
  | none =>
    rw [hj] at h
    obtain ⟨h1, h2⟩ := h
    simp [h1, h2]
  | some j =>
    rw [hj] at h
    obtain ⟨h1, h2, h3 | h3⟩ := h
    · obtain ⟨_, h4, _⟩ := h3
      simp [h4, h2]
    · obtain ⟨_, h4, _⟩ := h3
      simp [h4, h2]
theorem job_kind {r : RSt} {s : St} (h : RJob r s.job) : s.job.isNone = decide (r.kind = 0) ∧ (r.susp = true → s.job.isSome = true) := by
  cases hj : s.job with
  | none =>
    rw [hj] at h
    obtain ⟨h1, h2⟩ := h
    simp [h1, h2]
  | some j =>
    rw [hj] at h
    obtain ⟨h1, h2, h3 | h3⟩ := h
    · obtain ⟨_, h4, _⟩ := h3
      simp [h4]
    · obtain ⟨_, h4, _⟩ := h3
      simp [h4]
theorem opOf_byte {b : Int} (h : opIs b = true) : (opOf b).byte = b := by
  simp only [opIs, decide_eq_true_eq] at h
  rcases h with h | h | h | h | h | h | h | h | h | h | h | h | h | h <;> subst h <;> rfl
theorem takes_rel {r : RSt} {s : St} (h : Rel r s) (b : Int) : r.takes b = s.known b := by
  obtain ⟨hw, hs⟩ := works_rel h.job
  obtain ⟨hk, hk2⟩ := job_kind h.job
  unfold RSt.takes St.known
  cases hb : opIs b with
  | false => simp
  | true =>
    rw [opOf_byte hb, hw, h.quad]
    have hkey : s.job.isNone = (!s.works && !r.susp) := by
      rw [← hw]
      unfold RSt.works
      cases hsu : r.susp with
      | true =>
        have := hk2 hsu
        cases hjb : s.job <;> simp_all
      | false => simp [hk]
    unfold St.takes
    simp only [opIs, decide_eq_true_eq] at hb
    rw [hkey]
    generalize s.works = W
    generalize r.susp = U
    generalize s.quad = Q
    rcases hb with hb | hb | hb | hb | hb | hb | hb | hb | hb | hb | hb | hb | hb | hb <;> subst hb <;> cases W <;> cases U <;> cases Q <;> rfl
def SameR (r' r : RSt) : Prop := r'.a = r.a ∧ r'.prot = r.prot ∧ r'.quad = r.quad ∧ r'.wipes = r.wipes ∧ r'.sel = r.sel ∧ r'.en = r.en ∧ r'.goes = r.goes ∧ r'.busy = r.busy ∧ r'.kind = r.kind ∧ r'.att = r.att ∧ r'.jdata = r.jdata ∧ r'.left = r.left ∧ r'.susp = r.susp
def SameS (s' s : St) : Prop := s'.a = s.a ∧ s'.prot = s.prot ∧ s'.quad = s.quad ∧ s'.wipes = s.wipes ∧ s'.sel = s.sel ∧ s'.en = s.en ∧ s'.goes = s.goes ∧ s'.busy = s.busy ∧ s'.job = s.job
theorem SameR.refl (r : RSt) : SameR r r := ⟨rfl, rfl, rfl, rfl, rfl, rfl, rfl, rfl, rfl, rfl, rfl, rfl, rfl⟩
theorem SameS.refl (s : St) : SameS s s := ⟨rfl, rfl, rfl, rfl, rfl, rfl, rfl, rfl, rfl⟩
theorem SameS.behind {s s' : St} (h : SameS s' s) : SameS s'.behind s := by
  unfold St.behind
  repeat' split
  all_goals exact h
theorem RJob.same {r r' : RSt} {j : Option Job} (h : RJob r j) (e : SameR r' r) : RJob r' j := by
  obtain ⟨_, _, _, _, _, _, _, _, e1, e2, e3, e4, e5⟩ := e
  cases j with
  | none => exact ⟨e1.trans h.1, e5.trans h.2⟩
  | some j =>
    obtain ⟨h1, h2, h3⟩ := h
    refine ⟨e4.trans h1, e5.trans h2, ?_⟩
    rw [e1, e2, e3]
    exact h3
theorem Rel.next {r r' : RSt} {s s' : St} (h : Rel r s) (hr : SameR r' r) (hs : SameS s' s) (hc : s.sel = true → RCmd r' s') : Rel r' s' := by
  have hj := h.job.same hr
  obtain ⟨e1, e2, e3, e4, e5, e6, e7, e8, _⟩ := hr
  obtain ⟨f1, f2, f3, f4, f5, f6, f7, f8, f9⟩ := hs
  refine ⟨by rw [e1, f1, h.a], by rw [e2, f2, h.prot], by rw [e3, f3, h.quad], by rw [e4, f4, h.wipes], by rw [e5, f5, h.sel], by rw [e6, f6, h.en], by rw [e7, f7, h.goes], by rw [e8, f8, h.busy], by rw [f9]; exact hj, fun hh => hc (by rw [← f5]; exact hh)⟩
theorem op_facts2 (c : Int) : ((opOf c).dummy ≠ 0 → (opOf c).addr ≠ 0) ∧ ((opOf c).inn = true → (opOf c).mode = false ∧ (opOf c).dummy = 0) ∧ ((opOf c).inn = false → (opOf c).data ≠ 0 → (opOf c).byte ≠ 159 → (opOf c).byte ≠ 5 → (opOf c).byte ≠ 53 → (opOf c).addr ≠ 0) := by
  unfold opOf
  repeat' split
  all_goals simp [op0]
  all_goals (try omega)
theorem command_rel {r : RSt} {s : St} (h : Rel r s) (b : Int) (hm : r.modes = s.moded) (hm0 : s.moded = false) (hi : r.inn = s.data) (hs : r.sent = s.told) (hb : s.beyond = false) : RCmd (r.command b) (s.begins b) := by
  have hk := takes_rel h b
  obtain ⟨o1, o2, o3, o4, o5, o6⟩ := op_facts b
  obtain ⟨q1, _, _⟩ := op_facts2 b
  unfold RSt.command St.begins
  rw [hk]
  dsimp only
  cases hkn : s.known b with
  | false =>
    rw [if_pos (show (!false) = true from rfl)]
    refine ⟨rfl, ?_, ?_, hm, hi, hs, fun _ h _ _ => absurd rfl h, fun h => ?_, fun h => ?_, Int.le_refl 0, fun _ => hb, fun h => absurd h (by simp [St.enter]), fun h => absurd h (by simp [St.enter]), fun _ h => absurd rfl h, .inr (.inl rfl)⟩
    · simp [St.enter, RSt.goOn]
    · simp [St.enter, RSt.goOn]
    · have : s.moded = true := h
      rw [hm0] at this
      exact absurd this (by decide)
    · have : s.moded = true := h
      rw [hm0] at this
      exact absurd this (by decide)
  | true =>
    have hns : (opOf b).byte = 2 ∨ (opOf b).byte = 32 → r.susp = false := by
      intro hb2
      unfold St.known at hkn
      rw [Bool.and_eq_true] at hkn
      have h2 := hkn.2
      unfold St.takes at h2
      rw [if_neg (by omega), if_neg (by omega), if_pos (by omega)] at h2
      have hj := h.job
      rw [Option.isNone_iff_eq_none.1 h2] at hj
      exact hj.2
    rw [if_neg (show ¬ (!true) = true from by decide)]
    by_cases ha : 0 < (opOf b).addr
    · rw [if_pos ha]
      have hp : nextPart (opOf b) 0 = 1 := by unfold nextPart; rw [if_pos ⟨by decide, ha⟩]
      refine ⟨rfl, ?_, ?_, hm, hi, hs, fun _ _ h _ => absurd rfl h, fun h => ?_, fun h => ?_, Int.le_refl 0, fun _ => hb, fun h => absurd h (by simp [St.enter]), fun h => absurd h (by simp [St.enter]), fun _ _ h => hns h, .inr (.inr (.inl ⟨rfl, hp, rfl, ?_⟩))⟩
      · simp [St.enter, RSt.goOn]
      · simp [St.enter, RSt.goOn]
      · have : s.moded = true := h
        rw [hm0] at this
        exact absurd this (by decide)
      · have : s.moded = true := h
        rw [hm0] at this
        exact absurd this (by decide)
      · show (0 : Int) = 24 - 24 / (opOf b).addr * (opOf b).addr
        rcases o6 with e | e | e
        · omega
        · rw [e]; decide
        · rw [e]; decide
    · rw [if_neg ha]
      have ha0 : (opOf b).addr = 0 := by omega
      refine goOn_rel (c := b) rfl rfl rfl rfl hm hi hs (fun h => absurd ha0 h) (fun h => ?_) hb (fun _ => ha0) (fun h => ?_) (fun h => ?_) hns
      · have : s.moded = true := h
        rw [hm0] at this
        exact absurd this (by decide)
      · have := o1 h
        omega
      · have := q1 (by show (opOf b).dummy ≠ 0; have : 0 < (opOf b).dummy := h; omega)
        exact absurd ha0 this
theorem Rel.pass {r : RSt} {s : St} (h : Rel r s) (hj : ∀ j, s.job = some j → j.Ok) : Rel r.pass s.pass := by
  obtain ⟨hw, hsu⟩ := works_rel h.job
  have hjb := h.job
  unfold RSt.pass St.pass
  cases hjo : s.job with
  | none =>
    have : r.works = false := by rw [hw]; simp [St.works, hjo]
    rw [this]
    simp only [Bool.false_eq_true, if_false]
    exact h
  | some j =>
    dsimp only
    rw [hjo] at hjb
    obtain ⟨h1, h2, h3⟩ := hjb
    have hwj : r.works = !j.susp := by rw [hw]; simp [St.works, hjo]
    rw [hwj]
    cases hs : j.susp with
    | true =>
      simp only [Bool.not_true, Bool.false_eq_true, if_false, if_true]
      exact h
    | false =>
      have hl := (hj j hjo).2.1
      have hc : ∀ (r' : RSt) (s' : St), s.sel = true → RCmd r s := fun _ _ => h.cmd
      simp only [Bool.not_false, Bool.false_eq_true, if_false, if_true]
      by_cases hle : j.left - 1 ≤ 0
      · rw [if_pos (show r.left - 1 = 0 by omega), if_pos hle]
        refine ⟨?_, h.prot, h.quad, h.wipes, h.sel, rfl, h.goes, h.busy, ⟨rfl, ?_⟩, fun hh => ?_⟩
        · show (if r.kind = 2 then progCut r.a r.att.toNat r.jdata all255 else eraseCut r.a (r.att / 512).toNat all255) = j.cells s.a all255
          unfold Job.cells
          rcases h3 with ⟨e1, e2, e3, e4⟩ | ⟨e1, e2, e3, e4, e5⟩
          · rw [if_pos e2, if_pos e1, e3, e4, h.a]
          · rw [if_neg (by omega), if_neg e1, ← e5, h.a]
        · show r.susp = false
          rw [h2, hs]
        · have g := h.cmd hh
          exact ⟨g.op, g.known, g.taken, g.modes, g.inn, g.sent, g.addr, g.mode, g.moded, g.clk, g.bey, g.dm, g.d0, g.ns, g.part⟩
      · rw [if_neg (show ¬ r.left - 1 = 0 by omega), if_neg hle]
        refine ⟨h.a, h.prot, h.quad, h.wipes, h.sel, h.en, h.goes, h.busy, ⟨?_, ?_, h3⟩, fun hh => ?_⟩
        · show r.left - 1 = j.left - 1
          omega
        · exact h2.trans hs
        · have g := h.cmd hh
          exact ⟨g.op, g.known, g.taken, g.modes, g.inn, g.sent, g.addr, g.mode, g.moded, g.clk, g.bey, g.dm, g.d0, g.ns, g.part⟩
theorem byte_rel {r : RSt} {s : St} (h : Rel r s) (g : RCmd r s) {c : Int} (hc : s.op = opOf c) (hi : s.op.inn = false) (hd : s.op.data ≠ 0) (h6 : s.stage = 6) : r.byteOut = s.byteAt s.told := by
  obtain ⟨hw, hsu⟩ := works_rel h.job
  have q := (op_facts2 c).2.2
  rw [← hc] at q
  have ha : s.op.byte ≠ 159 → s.op.byte ≠ 5 → s.op.byte ≠ 53 → r.addr = s.addr := fun e1 e2 e3 => g.addr (by omega) (by omega) (by omega) (q hi hd e1 e2 e3)
  unfold RSt.byteOut St.byteAt
  rw [g.op, g.sent]
  by_cases e1 : s.op.byte = 159
  · rw [if_pos e1, if_pos e1]
  · rw [if_neg e1, if_neg e1]
    by_cases e2 : s.op.byte = 5
    · rw [if_pos e2, if_pos e2]
      unfold RSt.first St.first
      rw [hw, h.en, h.prot]
    · rw [if_neg e2, if_neg e2]
      by_cases e3 : s.op.byte = 53
      · rw [if_pos e3, if_pos e3]
        unfold RSt.second St.second
        rw [hsu, h.quad]
      · rw [if_neg e3, if_neg e3, ha e1 e2 e3, h.a]
theorem RSt.says_eq (r : RSt) : ∃ b, r.says.1 = { r.says1 with bits := b } ∧ b = (if r.says1.bits + r.op.data = 8 then 0 else r.says1.bits + r.op.data) := by
  have e : r.says1.op = r.op := by unfold RSt.says1; split <;> rfl
  refine ⟨_, ?_, rfl⟩
  unfold RSt.says
  dsimp only
  rw [e]
  split <;> split <;> rfl
theorem St.says_eq (s : St) : s.says.1 = { s.says1 with left := s.says1.left - 1 } := by
  unfold St.says
  dsimp only
  split <;> rfl
theorem says_rel {r : RSt} {s : St} (h : Rel r s) (g : RCmd r s) {c : Int} (hc : s.op = opOf c) (hi : s.op.inn = false) (h6 : s.stage = 6) (hk : s.op.data = 1 ∧ 0 ≤ s.left ∧ s.left ≤ 7 ∨ s.op.data = 4 ∧ 0 ≤ s.left ∧ s.left ≤ 1) : RCmd r.says.1 s.says.1 ∧ SameR r.says.1 r ∧ SameS s.says.1 s ∧ r.says.2 = s.says.2 := by
  have hd : s.op.data ≠ 0 := by omega
  have hb := byte_rel h g hc hi hd h6
  have gp : r.part = 4 ∧ (s.left = 0 ∧ r.bits = 0 ∨ s.left ≠ 0 ∧ r.bits = 8 - s.left * s.op.data ∧ r.out = s.now) := by
    rcases g.part with p | p | p | p | p | p | p | p
    · omega
    · omega
    · omega
    · omega
    · omega
    · omega
    · exact p.2
    · omega
  obtain ⟨g1, g2⟩ := gp
  -- the states behind a new byte
  have key : ∃ no l t tb b, s.says1 = { s with now := no, left := l, told := t, tabled := tb } ∧ r.says1 = { r with out := no, sent := t, bits := b } ∧ b = 8 - l * s.op.data ∧ (s.op.data = 1 ∧ 1 ≤ l ∧ l ≤ 8 ∨ s.op.data = 4 ∧ 1 ≤ l ∧ l ≤ 2) := by
    unfold St.says1 RSt.says1
    rcases g2 with ⟨e1, e2⟩ | ⟨e1, e2, e3⟩
    · rw [if_pos e1, if_pos e2]
      refine ⟨s.byteAt s.told, 8 / s.op.data, s.told + 1, _, 0, rfl, ?_, ?_, ?_⟩
      · rw [hb, g.sent, ← e2]
      · rcases hk with ⟨e, _⟩ | ⟨e, _⟩ <;> rw [e] <;> decide
      · rcases hk with ⟨e, _⟩ | ⟨e, _⟩ <;> rw [e] <;> decide
    · rw [if_neg e1]
      have hbn : ¬ r.bits = 0 := by
        rw [e2]
        rcases hk with ⟨e, _, _⟩ | ⟨e, _, _⟩ <;> rw [e] <;> omega
      rw [if_neg hbn]
      refine ⟨s.now, s.left, s.told, s.tabled, r.bits, rfl, ?_, e2, by omega⟩
      rw [← e3, ← g.sent]
  obtain ⟨no, l, t, tb, b, k1, k2, k3, k4⟩ := key
  obtain ⟨b2, j1, j2⟩ := RSt.says_eq r
  have hb2 : b2 = if l - 1 = 0 then 0 else 8 - (l - 1) * s.op.data := by
    rw [j2, k2, g.op]
    show (if b + s.op.data = 8 then 0 else b + s.op.data) = _
    rw [k3]
    rcases k4 with ⟨e, _, _⟩ | ⟨e, _, _⟩ <;> rw [e] <;> (split <;> split <;> omega)
  rw [j1, St.says_eq, k1, k2]
  refine ⟨⟨g.op, g.known, g.taken, g.modes, g.inn, rfl, g.addr, g.mode, g.moded, g.clk, g.bey, g.dm, g.d0, g.ns, .inr (.inr (.inr (.inr (.inr (.inr (.inl ⟨h6, g1, ?_⟩))))))⟩, SameR.refl r, SameS.refl s, ?_⟩
  · show l - 1 = 0 ∧ b2 = 0 ∨ l - 1 ≠ 0 ∧ b2 = 8 - (l - 1) * s.op.data ∧ no = no
    by_cases hl : l - 1 = 0
    · rw [if_pos hl] at hb2
      exact .inl ⟨hl, hb2⟩
    · rw [if_neg hl] at hb2
      exact .inr ⟨hl, hb2, rfl⟩
  · unfold RSt.says St.says
    rw [k1, k2]
    dsimp only
    rw [g.op]
    rcases k4 with ⟨e, l1, l2⟩ | ⟨e, l1, l2⟩
    · rw [e] at k3 ⊢
      rw [if_pos rfl, if_pos rfl]
      rw [show 8 - (b + 1) = l - 1 by omega]
    · rw [e] at k3 ⊢
      rw [if_neg (show ¬ (4 : Int) = 1 by decide), if_neg (show ¬ (4 : Int) = 1 by decide)]
      have : l = 1 ∨ l = 2 := by omega
      rcases this with e' | e'
      · subst e'
        have : b = 4 := by omega
        subst this
        rfl
      · subst e'
        have : b = 0 := by omega
        subst this
        rfl
theorem clockIn_rel {r : RSt} {s : St} (h : Rel r s) (hs : s.sel = true) {c : Int} (hc : s.op = opOf c) (hp : s.Part) (x : Int) : Rel (r.clockIn x).1 (s.clockIn x).1 ∧ (r.clockIn x).2 = (s.clockIn x).2 := by
  have g := h.cmd hs
  obtain ⟨o1, o2, o3, o4, o5, o6⟩ := op_facts c
  obtain ⟨q1, q2, q3⟩ := op_facts2 c
  rw [← hc] at o1 o2 o3 o4 o5 o6 q1 q2 q3
  unfold RSt.clockIn St.clockIn
  rw [g.known, g.taken]
  rcases g.part with ⟨hst, p1, p2⟩ | hst | ⟨hst, p0, p1, p2⟩ | ⟨hst, p0, p1, p2⟩ | ⟨hst, p0, p1⟩ | ⟨hst, p0, p1, p2⟩ | ⟨hst, p0, p1⟩ | ⟨hst, p0, p1⟩
  · have hl : 1 ≤ s.left ∧ s.left ≤ 8 := by unfold St.Part at hp; omega
    have hm0 : s.moded = false := by
      cases hq : s.moded with
      | true => exact absurd hst (g.moded hq).1
      | false => rfl
    have hk : decide (s.stage ≠ 0) = false := by simp [hst]
    rw [hk, if_pos rfl, if_pos hst]
    dsimp only
    have ex : (r.takesIn x 1).x = (s.takesIn x 1).got := by
      show r.x * 2 + x % 2 = s.got * 2 + x % 2
      rw [p1]
    have eb : (r.takesIn x 1).bits = 8 - (s.takesIn x 1).left := by
      show r.bits + 1 = 8 - (s.left - 1)
      omega
    by_cases hz : (s.takesIn x 1).left = 0
    · rw [if_pos hz, if_pos (by rw [eb, hz]; rfl), ex]
      have h1 : Rel (r.takesIn x 1) (s.takesIn x 1) := h.next (SameR.refl r) (SameS.refl s) (fun _ => ⟨g.op, g.known, g.taken, g.modes, g.inn, g.sent, g.addr, g.mode, g.moded, g.clk, g.bey, g.dm, g.d0, g.ns, .inl ⟨hst, ex, eb⟩⟩)
      refine ⟨h1.next (SameR.refl _) ?_ (fun _ => ?_), rfl⟩
      · unfold St.begins
        dsimp only
        split
        · exact SameS.refl _
        · split
          · exact SameS.refl _
          · exact SameS.behind (SameS.refl _)
      · exact command_rel h1 _ g.modes hm0 g.inn g.sent (g.bey (by show s.stage ≠ 7; omega))
    · rw [if_neg hz, if_neg (by omega)]
      exact ⟨h.next (SameR.refl r) (SameS.refl s) (fun _ => ⟨g.op, g.known, g.taken, g.modes, g.inn, g.sent, g.addr, g.mode, g.moded, g.clk, g.bey, g.dm, g.d0, g.ns, .inl ⟨hst, ex, eb⟩⟩), rfl⟩
  · have hk : decide (s.stage ≠ 0) = true := by simp [hst]
    have ht : decide (s.stage ≠ 0 ∧ s.stage ≠ 1) = false := by simp [hst]
    rw [hk, if_neg (by decide), ht, if_pos rfl]
    rw [if_neg (by omega), if_neg (by omega), if_neg (by omega), if_neg (by omega), if_neg (by omega), if_neg (by omega), if_neg (by omega)]
    exact ⟨h, rfl⟩
  · have hk : decide (s.stage ≠ 0) = true := by simp [hst]
    have ht : decide (s.stage ≠ 0 ∧ s.stage ≠ 1) = true := by simp [hst]
    have hm0 : s.moded = false := by
      cases hq : s.moded with
      | true => exact absurd hst (g.moded hq).2.1
      | false => rfl
    rw [hk, if_neg (by decide), ht, if_neg (by decide), if_neg (by omega), if_pos hst]
    unfold RSt.part1
    dsimp only
    rw [if_pos p0]
    have ho : r.op = s.op := g.op
    have hoa : r.op.addr = s.op.addr := by rw [ho]
    have had : s.op.addr = 1 ∧ 1 ≤ s.left ∧ s.left ≤ 24 ∨ s.op.addr = 4 ∧ 1 ≤ s.left ∧ s.left ≤ 6 := by unfold St.Part at hp; omega
    have ex : (({ r with clocks := r.clocks + 1 } : RSt).takesIn x r.op.addr).x = (s.takesIn x s.op.addr).got := by
      show (if r.op.addr = 1 then r.x * 2 + x % 2 else r.x * 16 + x % 16) = (if s.op.addr = 1 then s.got * 2 + x % 2 else s.got * 16 + x % 16)
      rw [p1, hoa]
    have eb : (({ r with clocks := r.clocks + 1 } : RSt).takesIn x r.op.addr).bits = 24 - (s.takesIn x s.op.addr).left * s.op.addr := by
      show r.bits + r.op.addr = 24 - (s.left - 1) * s.op.addr
      rw [p2, hoa, Int.sub_mul]
      omega
    have hclk := g.clk
    by_cases hz : (s.takesIn x s.op.addr).left = 0
    · rw [if_pos hz, if_pos (by rw [eb, hz]; omega)]
      refine ⟨h.next (SameR.refl r) (SameS.behind (SameS.refl s)) (fun _ => ?_), rfl⟩
      refine goOn_rel (c := c) hc ho (by show r.known = true; rw [g.known]; exact hk) (by show r.taken = true; rw [g.taken]; exact ht) g.modes g.inn g.sent (fun _ => ?_) (fun hh => ?_) (g.bey (by omega)) (fun hh => absurd hh (by decide)) (fun _ => ⟨fun _ => hm0, fun _ => by decide⟩) (fun _ => ⟨fun _ => ?_, fun _ => by decide⟩) (g.ns (by omega) (by omega))
      · show ((({ r with clocks := r.clocks + 1 } : RSt).takesIn x r.op.addr).x) % 4096 = ((s.takesIn x s.op.addr).got) % 4096
        rw [ex]
      · exact g.mode hh
      · show s.stage ≠ 4
        omega
    · rw [if_neg hz, if_neg ?_]
      · refine ⟨h.next (SameR.refl r) (SameS.refl s) (fun _ => ⟨g.op, g.known, g.taken, g.modes, g.inn, g.sent, g.addr, g.mode, g.moded, ?_, g.bey, g.dm, g.d0, g.ns, .inr (.inr (.inl ⟨hst, p0, ex, eb⟩))⟩), rfl⟩
        show 0 ≤ r.clocks + 1
        omega
      · rw [eb]
        intro hh
        have hz' : ¬ s.left - 1 = 0 := hz
        have hh' : 24 - (s.left - 1) * s.op.addr = 24 := hh
        rcases had with ⟨e, _⟩ | ⟨e, _⟩ <;> rw [e] at hh' <;> omega
  · have hk : decide (s.stage ≠ 0) = true := by simp [hst]
    have ht : decide (s.stage ≠ 0 ∧ s.stage ≠ 1) = true := by simp [hst]
    have hm0 : s.moded = false := by
      cases hq : s.moded with
      | true => exact absurd hst (g.moded hq).2.2
      | false => rfl
    rw [hk, if_neg (by decide), ht, if_neg (by decide), if_neg (by omega), if_neg (by omega), if_pos hst]
    unfold RSt.part1
    dsimp only
    rw [if_neg (by omega), if_pos p0]
    have ho : r.op = s.op := g.op
    have hoa : r.op.addr = s.op.addr := by rw [ho]
    have had : s.op.addr = 4 ∧ 1 ≤ s.left ∧ s.left ≤ 2 := by unfold St.Part at hp; omega
    have ex : (({ r with clocks := r.clocks + 1 } : RSt).takesIn x r.op.addr).x = (s.takesIn x s.op.addr).got := by
      show (if r.op.addr = 1 then r.x * 2 + x % 2 else r.x * 16 + x % 16) = (if s.op.addr = 1 then s.got * 2 + x % 2 else s.got * 16 + x % 16)
      rw [p1, hoa]
    have eb : (({ r with clocks := r.clocks + 1 } : RSt).takesIn x r.op.addr).bits = 8 - (s.takesIn x s.op.addr).left * s.op.addr := by
      show r.bits + r.op.addr = 8 - (s.left - 1) * s.op.addr
      rw [p2, hoa, Int.sub_mul]
      omega
    have hclk := g.clk
    by_cases hz : (s.takesIn x s.op.addr).left = 0
    · rw [if_pos hz, if_pos (by rw [eb, hz]; omega)]
      refine ⟨h.next (SameR.refl r) (SameS.behind (SameS.refl s)) (fun _ => ?_), rfl⟩
      refine goOn_rel (c := c) hc ho (by show r.known = true; rw [g.known]; exact hk) (by show r.taken = true; rw [g.taken]; exact ht) rfl g.inn g.sent (fun hh => ?_) (fun _ => ?_) (g.bey (by omega)) (fun hh => absurd hh (by decide)) (fun _ => ⟨fun hh => absurd hh (by decide), fun hh => absurd (show true = false from hh) (by decide)⟩) (fun _ => ⟨fun _ => ?_, fun _ => by decide⟩) (g.ns (by omega) (by omega))
      · exact g.addr (by omega) (by omega) (by omega) hh
      · exact ex
      · show s.stage ≠ 4
        omega
    · rw [if_neg hz, if_neg ?_]
      · refine ⟨h.next (SameR.refl r) (SameS.refl s) (fun _ => ⟨g.op, g.known, g.taken, g.modes, g.inn, g.sent, g.addr, g.mode, g.moded, ?_, g.bey, g.dm, g.d0, g.ns, .inr (.inr (.inr (.inl ⟨hst, p0, ex, eb⟩)))⟩), rfl⟩
        show 0 ≤ r.clocks + 1
        omega
      · rw [eb]
        intro hh
        have hz' : ¬ s.left - 1 = 0 := hz
        have hh' : 8 - (s.left - 1) * s.op.addr = 8 := hh
        rw [had.1] at hh'
        omega
  · have hk : decide (s.stage ≠ 0) = true := by simp [hst]
    have ht : decide (s.stage ≠ 0 ∧ s.stage ≠ 1) = true := by simp [hst]
    rw [hk, if_neg (by decide), ht, if_neg (by decide), if_neg (by omega), if_neg (by omega), if_neg (by omega), if_pos hst]
    unfold RSt.part1
    dsimp only
    rw [if_neg (by omega), if_neg (by omega), if_pos p0]
    have ho : r.op = s.op := g.op
    have hod : r.op.dummy = s.op.dummy := by rw [ho]
    have had : 1 ≤ s.left ∧ s.left ≤ 8 := by unfold St.Part at hp; omega
    have hclk := g.clk
    by_cases hz : s.left - 1 = 0
    · rw [if_pos hz, if_pos (by omega)]
      refine ⟨h.next (SameR.refl r) (SameS.behind (SameS.refl s)) (fun _ => ?_), rfl⟩
      refine goOn_rel (c := c) hc ho (by show r.known = true; rw [g.known]; exact hk) (by show r.taken = true; rw [g.taken]; exact ht) g.modes g.inn g.sent (fun hh => ?_) (fun hh => g.mode hh) (g.bey (by omega)) (fun hh => absurd hh (by decide)) (fun hh => ⟨fun hh => absurd hh (by decide), fun hq => ?_⟩) (fun _ => ⟨fun hh => absurd hh (by decide), fun hh => absurd hst hh⟩) (g.ns (by omega) (by omega))
      · exact g.addr (by omega) (by omega) (by omega) hh
      · have e1 : s.moded = true := g.dm hst hh
        have e2 : s.moded = false := hq
        rw [e1] at e2
        exact absurd e2 (by decide)
    · rw [if_neg hz, if_neg (by omega)]
      refine ⟨h.next (SameR.refl r) (SameS.refl s) (fun _ => ⟨g.op, g.known, g.taken, g.modes, g.inn, g.sent, g.addr, g.mode, g.moded, ?_, g.bey, g.dm, g.d0, g.ns, .inr (.inr (.inr (.inr (.inl ⟨hst, p0, ?_⟩))))⟩), rfl⟩
      · show 0 ≤ r.clocks + 1
        omega
      · show r.clocks + 1 = s.op.dummy - (s.left - 1)
        omega
  · have hk : decide (s.stage ≠ 0) = true := by simp [hst]
    have ht : decide (s.stage ≠ 0 ∧ s.stage ≠ 1) = true := by simp [hst]
    rw [hk, if_neg (by decide), ht, if_neg (by decide), if_neg (by omega), if_neg (by omega), if_neg (by omega), if_neg (by omega), if_pos hst]
    unfold RSt.part1
    dsimp only
    rw [if_neg (by omega), if_neg (by omega), if_neg (by omega)]
    have ho : r.op = s.op := g.op
    have had : s.op.inn = true ∧ s.op.data = 1 ∧ 1 ≤ s.left ∧ s.left ≤ 8 := by
      rcases hp with k | k | k | k | k | k | k | k
      · omega
      · omega
      · omega
      · omega
      · omega
      · exact ⟨k.2.1, k.2.2.1, k.2.2.2.1, k.2.2.2.2.1⟩
      · omega
      · omega
    have hclk := g.clk
    unfold RSt.dataC
    dsimp only
    rw [if_neg (by rw [ho, had.2.1]; decide), if_pos (by rw [ho]; exact had.1)]
    have ex : (({ r with clocks := r.clocks + 1 } : RSt).takesIn x 1).x = (s.takesIn x s.op.data).got := by
      rw [had.2.1]
      show r.x * 2 + x % 2 = s.got * 2 + x % 2
      rw [p1]
    have eb : (({ r with clocks := r.clocks + 1 } : RSt).takesIn x 1).bits = 8 - (s.takesIn x s.op.data).left := by
      show r.bits + 1 = 8 - (s.left - 1)
      omega
    by_cases hz : (s.takesIn x s.op.data).left = 0
    · rw [if_pos hz, if_pos (by rw [eb, hz]; rfl)]
      refine ⟨h.next (SameR.refl r) (SameS.behind (SameS.refl s)) (fun _ => ?_), rfl⟩
      have hmo := (q2 had.1).1
      have hdu := (q2 had.1).2
      have hbe : ({ s.takesIn x s.op.data with data := (s.takesIn x s.op.data).data ++ [(s.takesIn x s.op.data).got] } : St).behind = ({ s.takesIn x s.op.data with data := (s.takesIn x s.op.data).data ++ [(s.takesIn x s.op.data).got] } : St).enter 5 8 := by
        unfold St.behind
        rw [if_neg (by show ¬ (s.op.mode && !s.moded) = true; simp [hmo]), if_neg (by show ¬ (0 < s.op.dummy ∧ s.stage ≠ 4); omega), if_neg (by show ¬ s.op.data = 0; omega), if_pos (by exact had.1)]
        show St.enter _ 5 (8 / s.op.data) = _
        rw [had.2.1]
        rfl
      rw [hbe]
      refine ⟨g.op, ?_, ?_, g.modes, ?_, g.sent, fun _ _ _ hh => g.addr (by omega) (by omega) (by omega) hh, g.mode, fun _ => by simp [St.enter], ?_, fun _ => g.bey (by omega), fun hh => absurd hh (by simp [St.enter]), fun hh => absurd hh (by simp [St.enter]), fun _ _ => g.ns (by omega) (by omega), .inr (.inr (.inr (.inr (.inr (.inl ⟨rfl, p0, rfl, rfl⟩)))))⟩
      · show r.known = _
        rw [g.known, hk]
        rfl
      · show r.taken = _
        rw [g.taken, ht]
        rfl
      · show r.inn ++ [(({ r with clocks := r.clocks + 1 } : RSt).takesIn x 1).x] = s.data ++ [(s.takesIn x s.op.data).got]
        rw [ex, g.inn]
      · show 0 ≤ r.clocks + 1
        omega
    · rw [if_neg hz, if_neg (by omega)]
      refine ⟨h.next (SameR.refl r) (SameS.refl s) (fun _ => ⟨g.op, g.known, g.taken, g.modes, g.inn, g.sent, g.addr, g.mode, g.moded, ?_, g.bey, g.dm, g.d0, g.ns, .inr (.inr (.inr (.inr (.inr (.inl ⟨hst, p0, ex, eb⟩)))))⟩), rfl⟩
      show 0 ≤ r.clocks + 1
      omega
  · have hk : decide (s.stage ≠ 0) = true := by simp [hst]
    have ht : decide (s.stage ≠ 0 ∧ s.stage ≠ 1) = true := by simp [hst]
    rw [hk, if_neg (by decide), ht, if_neg (by decide), if_neg (by omega), if_neg (by omega), if_neg (by omega), if_neg (by omega), if_neg (by omega), if_pos hst]
    unfold RSt.part1
    dsimp only
    rw [if_neg (by omega), if_neg (by omega), if_neg (by omega)]
    have ho : r.op = s.op := g.op
    have had : s.op.inn = false ∧ (s.op.data = 1 ∧ 0 ≤ s.left ∧ s.left ≤ 7 ∨ s.op.data = 4 ∧ 0 ≤ s.left ∧ s.left ≤ 1) := by
      rcases hp with k | k | k | k | k | k | k | k
      · omega
      · omega
      · omega
      · omega
      · omega
      · omega
      · exact k.2
      · omega
    have hclk := g.clk
    unfold RSt.dataC
    dsimp only
    rw [if_neg (by rw [ho]; omega), if_neg (by rw [ho, had.1]; decide)]
    have g1 : RCmd { r with clocks := r.clocks + 1 } s := ⟨g.op, g.known, g.taken, g.modes, g.inn, g.sent, g.addr, g.mode, g.moded, by show 0 ≤ r.clocks + 1; omega, g.bey, g.dm, g.d0, g.ns, .inr (.inr (.inr (.inr (.inr (.inr (.inl ⟨hst, p0, p1⟩))))))⟩
    have h1 : Rel { r with clocks := r.clocks + 1 } s := h.next (SameR.refl r) (SameS.refl s) (fun _ => g1)
    obtain ⟨k1, k2, k3, k4⟩ := says_rel h1 g1 hc had.1 hst had.2
    exact ⟨h1.next k2 k3 (fun _ => k1), k4⟩
  · have hk : decide (s.stage ≠ 0) = true := by simp [hst]
    have ht : decide (s.stage ≠ 0 ∧ s.stage ≠ 1) = true := by simp [hst]
    rw [hk, if_neg (by decide), ht, if_neg (by decide), if_neg (by omega), if_neg (by omega), if_neg (by omega), if_neg (by omega), if_neg (by omega), if_neg (by omega), if_pos hst]
    unfold RSt.part1
    dsimp only
    rw [if_neg (by omega), if_neg (by omega), if_neg (by omega)]
    have ho : r.op = s.op := g.op
    have hclk := g.clk
    unfold RSt.dataC
    dsimp only
    rw [if_pos (by rw [ho]; exact g.d0 hst)]
    refine ⟨h.next (SameR.refl r) (SameS.refl s) (fun _ => ⟨g.op, g.known, g.taken, g.modes, g.inn, g.sent, g.addr, g.mode, g.moded, ?_, fun hh => absurd hst hh, g.dm, g.d0, g.ns, .inr (.inr (.inr (.inr (.inr (.inr (.inr ⟨hst, p0, ?_⟩))))))⟩), rfl⟩
    · show 0 ≤ r.clocks + 1
      omega
    · show decide (r.clocks + 1 = 0) = !true
      simp
      omega
end Go.Proofs.YteombggfmeilaaaGreat
