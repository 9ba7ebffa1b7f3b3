/- The chip as a pure machine: its state, its cells in memory, and what each of its methods does to it. No program in sight. · What holds of a chip at all times. · What holds of a chip at all times holds behind a clock. -/
import Derived.Test.YteombggfmeilaaaGreatBase
namespace Go.Proofs.YteombggfmeilaaaGreat
open Go.RowKit
/-- A command's form. -/
structure POp where
  byte : Int
  addr : Int
  mode : Bool
  dummy : Int
  data : Int
  inn : Bool
def op0 : POp := ⟨0, 0, false, 0, 0, false⟩
def opIs (b : Int) : Bool := decide (b = 1 ∨ b = 2 ∨ b = 3 ∨ b = 4 ∨ b = 5 ∨ b = 6 ∨ b = 32 ∨ b = 53 ∨ b = 90 ∨ b = 107 ∨ b = 117 ∨ b = 122 ∨ b = 159 ∨ b = 235)
def opOf (b : Int) : POp :=
  if b = 4 ∨ b = 6 ∨ b = 117 ∨ b = 122 then ⟨b, 0, false, 0, 0, false⟩
  else if b = 2 then ⟨b, 1, false, 0, 1, true⟩
  else if b = 1 then ⟨b, 0, false, 0, 1, true⟩
  else if b = 3 then ⟨b, 1, false, 0, 1, false⟩
  else if b = 5 ∨ b = 53 ∨ b = 159 then ⟨b, 0, false, 0, 1, false⟩
  else if b = 32 then ⟨b, 1, false, 0, 0, false⟩
  else if b = 90 then ⟨b, 1, false, 8, 1, false⟩
  else if b = 107 then ⟨b, 1, false, 8, 4, false⟩
  else if b = 235 then ⟨b, 4, true, 4, 4, false⟩
  else op0
/-- What is under way. -/
structure Job where
  sector : Int
  page : Int
  data : ByteArray
  left : Int
  susp : Bool
/-- A chip. -/
structure St where
  a : ByteArray
  prot : Bool
  quad : Bool
  wipes : Nat → Int
  tabled : Bool
  sel : Bool
  en : Bool
  goes : Bool
  job : Option Job
  busy : List Int
  op : POp
  stage : Int
  left : Int
  got : Int
  addr : Int
  mode : Int
  moded : Bool
  data : List Int
  told : Int
  now : Int
  beyond : Bool
/-- What the chip tells of itself: SFDP's 32 bytes. -/
def sfdpTab : ByteArray := ⟨#[83, 70, 68, 80, 6, 1, 0, 255, 0, 16, 0, 0, 0, 2, 0, 0, 32, 0, 0, 0, 255, 255, 255, 255, 255, 255, 255, 255, 255, 255, 255, 255]⟩
/-- The chip's cells in memory; jv, bv, dv: the job's pointer, the durations' slice, the data's slice. -/
def St.list (s : St) (jv bv dv : Value) : List Value :=
  [.string s.a, .bool s.prot, .bool s.quad,
   .int .i64 (s.wipes 0), .int .i64 (s.wipes 1), .int .i64 (s.wipes 2), .int .i64 (s.wipes 3), .int .i64 (s.wipes 4), .int .i64 (s.wipes 5), .int .i64 (s.wipes 6), .int .i64 (s.wipes 7),
   .int .u32 (if s.tabled then 1 else 0), .int .i32 0, .int .u32 0, .string (if s.tabled then sfdpTab else ⟨#[]⟩),
   .bool s.sel, .bool s.en, .bool s.goes, jv, bv,
   .int .i64 s.op.byte, .int .i64 s.op.addr, .bool s.op.mode, .int .i64 s.op.dummy, .int .i64 s.op.data, .bool s.op.inn,
   .int .i64 s.stage, .int .i64 s.left, .int .i64 s.got, .int .i64 s.addr, .int .i64 s.mode, .bool s.moded, dv, .int .i64 s.told, .int .i64 s.now, .bool s.beyond]
def St.new (a : ByteArray) : St :=
  { a := a, prot := false, quad := false, wipes := fun _ => 0, tabled := false, sel := false, en := false, goes := false, job := none, busy := [], op := op0, stage := 0, left := 0, got := 0, addr := 0, mode := 0, moded := false, data := [], told := 0, now := 0, beyond := false }
def St.works (s : St) : Bool := match s.job with
  | some j => !j.susp
  | none => false
def St.takes (s : St) (b : Int) : Bool :=
  if b = 5 ∨ b = 53 ∨ b = 117 then true
  else if b = 107 ∨ b = 235 then s.quad && !s.works
  else if b = 1 ∨ b = 2 ∨ b = 32 then s.job.isNone
  else !s.works
def St.known (s : St) (b : Int) : Bool := opIs b && s.takes (opOf b).byte
def St.enter (s : St) (stage clocks : Int) : St := { s with stage := stage, left := clocks, got := 0 }
def St.behind (s : St) : St :=
  if s.op.mode && !s.moded then s.enter 3 (8 / s.op.addr)
  else if 0 < s.op.dummy ∧ s.stage ≠ 4 then s.enter 4 s.op.dummy
  else if s.op.data = 0 then s.enter 7 0
  else if s.op.inn then s.enter 5 (8 / s.op.data)
  else s.enter 6 0
def St.begins (s : St) (b : Int) : St :=
  let s1 := { s with op := opOf b }
  if !s.known b then s1.enter 1 0
  else if 0 < (opOf b).addr then s1.enter 2 (24 / (opOf b).addr)
  else s1.behind
/-- What comes on so many lanes is taken into the number. -/
def St.takesIn (s : St) (x lanes : Int) : St := { s with got := if lanes = 1 then s.got * 2 + x % 2 else s.got * 16 + x % 16, left := s.left - 1 }
def first (works en prot : Bool) : Int := (if works then 1 else 0) + (if en then 2 else 0) + (if prot then 4 else 0)
def second (quad susp : Bool) : Int := (if quad then 2 else 0) + (if susp then 128 else 0)
def St.susp (s : St) : Bool := match s.job with
  | some j => j.susp
  | none => false
def St.first (s : St) : Int := Go.Proofs.YteombggfmeilaaaGreat.first s.works s.en s.prot
def St.second (s : St) : Int := Go.Proofs.YteombggfmeilaaaGreat.second s.quad s.susp
def byteOf (s : ByteArray) (i : Nat) : Int := ((s.data.toList.getD i 0).toNat : Int)
def St.byteAt (s : St) (i : Int) : Int :=
  if s.op.byte = 159 then ([239, 64, 12] : List Int).getD (i % 3).toNat 0
  else if s.op.byte = 5 then s.first
  else if s.op.byte = 53 then s.second
  else if s.op.byte = 90 then byteOf sfdpTab ((s.addr + i) % 32).toNat
  else byteOf s.a ((s.addr + i) % 4096).toNat
def St.says1 (s : St) : St :=
  if s.left = 0 then { s with now := s.byteAt s.told, left := 8 / s.op.data, told := s.told + 1, tabled := s.tabled || decide (s.op.byte = 90) } else s
def St.says (s : St) : St × Int :=
  let s1 := s.says1
  let s2 := { s1 with left := s1.left - 1 }
  if s.op.data = 1 then (s2, 13 + 2 * (s1.now / 2 ^ (s1.left - 1).toNat % 2))
  else (s2, s1.now / 16 ^ (s1.left - 1).toNat % 16)
/-- A clock of a command; what is said. -/
def St.clockIn (s : St) (x : Int) : St × Int :=
  if s.stage = 0 then
    let s1 := s.takesIn x 1
    (if s1.left = 0 then s1.begins s1.got else s1, 15)
  else if s.stage = 2 then
    let s1 := s.takesIn x s.op.addr
    (if s1.left = 0 then { s1 with addr := s1.got % 4096 }.behind else s1, 15)
  else if s.stage = 3 then
    let s1 := s.takesIn x s.op.addr
    (if s1.left = 0 then { s1 with mode := s1.got, moded := true }.behind else s1, 15)
  else if s.stage = 4 then
    let s1 := { s with left := s.left - 1 }
    (if s1.left = 0 then s1.behind else s1, 15)
  else if s.stage = 5 then
    let s1 := s.takesIn x s.op.data
    (if s1.left = 0 then { s1 with data := s1.data ++ [s1.got] }.behind else s1, 15)
  else if s.stage = 6 then s.says
  else if s.stage = 7 then ({ s with beyond := true }, 15)
  else (s, 15)
/-- Some bytes are turned. -/
def turned (a : ByteArray) (lo n : Nat) (turn : Nat → UInt8 → UInt8) : ByteArray :=
  ⟨(a.data.toList.mapIdx fun j b => if lo ≤ j ∧ j < lo + n then turn (j - lo) b else b).toArray⟩
def maskAt (mask : ByteArray) (i : Nat) : UInt8 := if mask.size = 0 then 0 else mask.data.toList.getD (i % mask.size) 0
def progCut (a : ByteArray) (lo : Nat) (data mask : ByteArray) : ByteArray :=
  turned a lo data.size fun i old => old &&& ~~~(maskAt mask i &&& ~~~(data.data.toList.getD i 0))
def eraseCut (a : ByteArray) (sector : Nat) (mask : ByteArray) : ByteArray :=
  turned a (sector * 512) 512 fun i old => old ||| maskAt mask i
def Job.cells (j : Job) (a mask : ByteArray) : ByteArray :=
  if j.sector = -1 then progCut a j.page.toNat j.data mask else eraseCut a j.sector.toNat mask
def all255 : ByteArray := ⟨#[255]⟩
def St.pass (s : St) : St :=
  match s.job with
  | none => s
  | some j =>
    if j.susp then s
    else if j.left - 1 ≤ 0 then { s with a := j.cells s.a all255, job := none, en := false }
    else { s with job := some { j with left := j.left - 1 } }
def St.clock (s : St) (x : Int) : St × Int :=
  let s1 := s.pass
  if s1.sel then s1.clockIn x else (s1, 15)
def St.select (s : St) : St :=
  let s1 := { s with sel := true, op := op0, stage := 0, left := 8, got := 0, addr := 0, mode := 0, moded := false, data := [], told := 0, now := 0, beyond := false }
  if s.goes then s1.begins 235 else s1
def St.whole (s : St) : Bool :=
  if s.op.inn then decide (s.stage = 5 ∧ s.left = 8 / s.op.data)
  else if s.op.data = 0 then decide (s.stage = 7) && !s.beyond
  else true
def St.starts (s : St) (j : Job) : St :=
  if !s.en then s
  else if s.prot ∧ s.addr < 2048 then { s with en := false }
  else
    let left := match s.busy with
      | [] => 8
      | d :: _ => d
    { s with busy := s.busy.tail, wipes := fun k => if (k : Int) = j.sector then s.wipes k + 1 else s.wipes k, job := some { j with left := left } }
/-- The bytes of a page that data tell, the last ones where some come to one place. -/
def pageOf (addr : Int) (data : List Int) : List UInt8 :=
  (data.zipIdx.foldl (fun (l : List UInt8) (x : Int × Nat) => l.set ((addr + x.2) % 32).toNat (UInt8.ofNat (x.1 % 256).toNat)) (List.replicate 32 255))
def St.ends (s : St) : St :=
  if s.stage = 0 ∨ s.stage = 1 ∨ s.whole = false then s
  else if s.op.byte = 6 then { s with en := true }
  else if s.op.byte = 4 then { s with en := false }
  else if s.op.byte = 117 then (match s.job with
    | some j => if j.sector = -1 then s else { s with job := some { j with susp := true } }
    | none => s)
  else if s.op.byte = 122 then (match s.job with
    | some j => { s with job := some { j with susp := false } }
    | none => s)
  else if s.op.byte = 1 then
    if s.en ∧ s.data.length = 2 then { s with prot := decide (s.data.getD 0 0 / 4 % 2 = 1), quad := decide (s.data.getD 1 0 / 2 % 2 = 1), en := false } else s
  else if s.op.byte = 2 then
    if s.data = [] then s else s.starts ⟨-1, s.addr - s.addr % 32, ⟨(pageOf s.addr s.data).toArray⟩, 0, false⟩
  else if s.op.byte = 32 then s.starts ⟨s.addr / 512, 0, ⟨#[]⟩, 0, false⟩
  else if s.op.byte = 235 then { s with goes := s.moded && decide (s.mode = 160) }
  else s
def St.deselect (s : St) : St := { s with sel := false }.ends
def St.loss (s : St) (mask : ByteArray) : St :=
  { (St.new (match s.job with
    | some j => j.cells s.a mask
    | none => s.a)) with prot := s.prot, quad := s.quad, wipes := s.wipes, tabled := s.tabled }
end Go.Proofs.YteombggfmeilaaaGreat
namespace Go.Proofs.YteombggfmeilaaaGreat
open Go.RowKit
def Job.Form (j : Job) : Prop := j.sector = -1 ∧ 0 ≤ j.page ∧ j.page + 32 ≤ 4096 ∧ j.data.size = 32 ∨ 0 ≤ j.sector ∧ j.sector < 8
/-- What holds of a job that is under way. -/
def Job.Ok (j : Job) : Prop := j.Form ∧ 1 ≤ j.left ∧ j.left ≤ 400
/-- How far a command's part may be. -/
def St.Part (s : St) : Prop :=
  (s.stage = 0 ∧ 1 ≤ s.left ∧ s.left ≤ 8 ∧ 0 ≤ s.got ∧ (s.got + 1) * 2 ^ s.left.toNat ≤ 256) ∨
  s.stage = 1 ∨
  (s.stage = 2 ∧ 0 ≤ s.got ∧ (s.op.addr = 1 ∧ 1 ≤ s.left ∧ s.left ≤ 24 ∧ (s.got + 1) * 2 ^ s.left.toNat ≤ 16777216 ∨ s.op.addr = 4 ∧ 1 ≤ s.left ∧ s.left ≤ 6 ∧ (s.got + 1) * 16 ^ s.left.toNat ≤ 16777216)) ∨
  (s.stage = 3 ∧ s.op.addr = 4 ∧ 1 ≤ s.left ∧ s.left ≤ 2 ∧ 0 ≤ s.got ∧ (s.got + 1) * 16 ^ s.left.toNat ≤ 256) ∨
  (s.stage = 4 ∧ 1 ≤ s.left ∧ s.left ≤ 8) ∨
  (s.stage = 5 ∧ s.op.inn = true ∧ s.op.data = 1 ∧ 1 ≤ s.left ∧ s.left ≤ 8 ∧ 0 ≤ s.got ∧ (s.got + 1) * 2 ^ s.left.toNat ≤ 256) ∨
  (s.stage = 6 ∧ s.op.inn = false ∧ (s.op.data = 1 ∧ 0 ≤ s.left ∧ s.left ≤ 7 ∨ s.op.data = 4 ∧ 0 ≤ s.left ∧ s.left ≤ 1)) ∨
  s.stage = 7
/-- What holds of a chip; N bounds its counts. -/
structure St.Inv (s : St) (N : Int) : Prop where
  size : s.a.size = 4096
  job : ∀ j, s.job = some j → j.Ok
  addr : 0 ≤ s.addr ∧ s.addr < 4096
  told : 0 ≤ s.told ∧ s.told ≤ N
  len : (s.data.length : Int) ≤ N
  data : ∀ x ∈ s.data, 0 ≤ x ∧ x ≤ 255
  now : 0 ≤ s.now ∧ s.now ≤ 255
  mode : 0 ≤ s.mode ∧ s.mode ≤ 255
  op : ∃ c, s.op = opOf c
  wipes : ∀ k, 0 ≤ s.wipes k ∧ s.wipes k ≤ N
  busy : s.busy.length ≤ 16 ∧ ∀ d ∈ s.busy, 1 ≤ d ∧ d ≤ 400
  part : s.Part
theorem pow2_pos (n : Nat) : (1 : Int) ≤ 2 ^ n := by
  have : 0 < (2 : Int) ^ n := Int.pow_pos (by decide)
  omega
theorem pow16_pos (n : Nat) : (1 : Int) ≤ 16 ^ n := by
  have : 0 < (16 : Int) ^ n := Int.pow_pos (by decide)
  omega
theorem got_le (g p B : Int) (hp : 1 ≤ p) (h : (g + 1) * p ≤ B) (hg : 0 ≤ g) : g + 1 ≤ B := by
  have := Int.mul_le_mul_of_nonneg_left hp (show 0 ≤ g + 1 by omega)
  omega
theorem got2 {g l B : Int} (hg : 0 ≤ g) (h : (g + 1) * 2 ^ l.toNat ≤ B) : g + 1 ≤ B := got_le g _ B (pow2_pos _) h hg
theorem got16 {g l B : Int} (hg : 0 ≤ g) (h : (g + 1) * 16 ^ l.toNat ≤ B) : g + 1 ≤ B := got_le g _ B (pow16_pos _) h hg
theorem first_bd (x y z : Bool) : 0 ≤ first x y z ∧ first x y z ≤ 7 := by cases x <;> cases y <;> cases z <;> decide
theorem second_bd (x y : Bool) : 0 ≤ second x y ∧ second x y ≤ 130 := by cases x <;> cases y <;> decide
theorem byteOf_bd (s : ByteArray) (i : Nat) : 0 ≤ byteOf s i ∧ byteOf s i ≤ 255 := by
  unfold byteOf
  have := (s.data.toList.getD i 0).toNat_lt
  omega
theorem byteAt_bd (s : St) (i : Int) : 0 ≤ s.byteAt i ∧ s.byteAt i ≤ 255 := by
  unfold St.byteAt
  have h1 := first_bd s.works s.en s.prot
  have h2 := second_bd s.quad s.susp
  split
  · have : (i % 3).toNat = 0 ∨ (i % 3).toNat = 1 ∨ (i % 3).toNat = 2 := by omega
    rcases this with h | h | h <;> rw [h] <;> decide
  · split
    · unfold St.first; omega
    · split
      · unfold St.second; omega
      · split
        · exact byteOf_bd _ _
        · exact byteOf_bd _ _
end Go.Proofs.YteombggfmeilaaaGreat
namespace Go.Proofs.YteombggfmeilaaaGreat
open Go.RowKit
theorem op_facts (c : Int) : ((opOf c).mode = true → (opOf c).addr = 4) ∧ ((opOf c).inn = true → (opOf c).data = 1) ∧ ((opOf c).data = 0 ∨ (opOf c).data = 1 ∨ (opOf c).data = 4) ∧ 0 ≤ (opOf c).dummy ∧ (opOf c).dummy ≤ 8 ∧ ((opOf c).addr = 0 ∨ (opOf c).addr = 1 ∨ (opOf c).addr = 4) := by
  unfold opOf
  repeat' split
  all_goals simp [op0]
theorem behind_part (s : St) (c : Int) (hc : s.op = opOf c) : s.behind.Part := by
  obtain ⟨h1, h2, h3, h4, h5, h6⟩ := op_facts c
  rw [← hc] at h1 h2 h3 h4 h5 h6
  unfold St.behind
  split
  · have hm : s.op.mode = true := by simp_all
    have ha := h1 hm
    right; right; right; left
    simp only [St.enter, ha]
    decide
  · split
    · right; right; right; right; left
      refine ⟨rfl, ?_, ?_⟩ <;> simp only [St.enter] <;> omega
    · split
      · right; right; right; right; right; right; right; rfl
      · split
        · rename_i hi
          have hd := h2 hi
          right; right; right; right; right; left
          simp only [St.enter, hd, hi]
          decide
        · rename_i hd0 hi
          right; right; right; right; right; right; left
          refine ⟨rfl, ?_, ?_⟩
          · simpa [St.enter] using hi
          · simp only [St.enter]; omega
theorem begins_part (s : St) (c : Int) : (s.begins c).Part := by
  unfold St.begins
  dsimp only
  split
  · right; left; rfl
  · split
    · rename_i ha
      have h6 := (op_facts c).2.2.2.2.2
      have hb : (opOf c).addr = 1 ∨ (opOf c).addr = 4 := by omega
      right; right; left
      rcases hb with h | h <;> simp only [St.enter, h] <;> decide
    · exact behind_part _ c rfl
/-- What holds at all times but of how far a command's part is. -/
structure St.InvB (s : St) (N : Int) : Prop where
  size : s.a.size = 4096
  job : ∀ j, s.job = some j → j.Ok
  addr : 0 ≤ s.addr ∧ s.addr < 4096
  told : 0 ≤ s.told ∧ s.told ≤ N
  len : (s.data.length : Int) ≤ N
  data : ∀ x ∈ s.data, 0 ≤ x ∧ x ≤ 255
  now : 0 ≤ s.now ∧ s.now ≤ 255
  mode : 0 ≤ s.mode ∧ s.mode ≤ 255
  op : ∃ c, s.op = opOf c
  wipes : ∀ k, 0 ≤ s.wipes k ∧ s.wipes k ≤ N
  busy : s.busy.length ≤ 16 ∧ ∀ d ∈ s.busy, 1 ≤ d ∧ d ≤ 400
theorem St.Inv.b {s : St} {N : Int} (h : s.Inv N) : s.InvB N := ⟨h.size, h.job, h.addr, h.told, h.len, h.data, h.now, h.mode, h.op, h.wipes, h.busy⟩
theorem St.InvB.inv {s : St} {N : Int} (h : s.InvB N) (p : s.Part) : s.Inv N := ⟨h.size, h.job, h.addr, h.told, h.len, h.data, h.now, h.mode, h.op, h.wipes, h.busy, p⟩
theorem St.InvB.mono {s : St} {N M : Int} (h : s.InvB N) (hm : N ≤ M) : s.InvB M :=
  ⟨h.size, h.job, h.addr, ⟨h.told.1, by have := h.told.2; omega⟩, by have := h.len; omega, h.data, h.now, h.mode, h.op, fun k => ⟨(h.wipes k).1, by have := (h.wipes k).2; omega⟩, h.busy⟩
theorem St.Inv.mono {s : St} {N M : Int} (h : s.Inv N) (hm : N ≤ M) : s.Inv M := (h.b.mono hm).inv h.part
theorem behind_inv {s : St} {N : Int} (h : s.InvB N) : s.behind.Inv N := by
  obtain ⟨c, hc⟩ := h.op
  have hp := behind_part s c hc
  have key : s.behind.a = s.a ∧ s.behind.job = s.job ∧ s.behind.wipes = s.wipes ∧ s.behind.busy = s.busy ∧ s.behind.addr = s.addr ∧ s.behind.told = s.told ∧ s.behind.data = s.data ∧ s.behind.now = s.now ∧ s.behind.mode = s.mode ∧ s.behind.op = s.op := by
    unfold St.behind
    repeat' split
    all_goals exact ⟨rfl, rfl, rfl, rfl, rfl, rfl, rfl, rfl, rfl, rfl⟩
  obtain ⟨e1, e2, e3, e4, f1, f2, f3, f4, f5, f6⟩ := key
  exact ⟨by rw [e1]; exact h.size, by rw [e2]; exact h.job, by rw [f1]; exact h.addr, by rw [f2]; exact h.told, by rw [f3]; exact h.len, by rw [f3]; exact h.data, by rw [f4]; exact h.now, by rw [f5]; exact h.mode, ⟨c, by rw [f6, hc]⟩, by rw [e3]; exact h.wipes, by rw [e4]; exact h.busy, hp⟩
theorem begins_inv {s : St} {N : Int} (h : s.InvB N) (c : Int) : (s.begins c).Inv N := by
  have hB : ({ s with op := opOf c } : St).InvB N := ⟨h.size, h.job, h.addr, h.told, h.len, h.data, h.now, h.mode, ⟨c, rfl⟩, h.wipes, h.busy⟩
  have hp := begins_part s c
  unfold St.begins at hp ⊢
  dsimp only at hp ⊢
  split
  · rename_i hk
    rw [if_pos hk] at hp
    exact ⟨h.size, h.job, h.addr, h.told, h.len, h.data, h.now, h.mode, ⟨c, rfl⟩, h.wipes, h.busy, hp⟩
  · rename_i hk
    rw [if_neg hk] at hp
    split
    · rename_i ha
      rw [if_pos ha] at hp
      exact ⟨h.size, h.job, h.addr, h.told, h.len, h.data, h.now, h.mode, ⟨c, rfl⟩, h.wipes, h.busy, hp⟩
    · exact behind_inv hB
theorem step2 {g l x B : Int} (hl : 1 ≤ l) (h : (g + 1) * 2 ^ l.toNat ≤ B) : (g * 2 + x % 2 + 1) * 2 ^ (l - 1).toNat ≤ B := by
  have e : l.toNat = (l - 1).toNat + 1 := by omega
  rw [e, Int.pow_succ] at h
  have hx : x % 2 ≤ 1 := by omega
  have hp := pow2_pos (l - 1).toNat
  generalize (2 : Int) ^ (l - 1).toNat = p at *
  have e2 : (g + 1) * (p * 2) = (g * 2 + 2) * p := by
    rw [Int.mul_comm p 2, ← Int.mul_assoc, Int.add_mul, Int.one_mul]
  have : (g * 2 + x % 2 + 1) * p ≤ (g * 2 + 2) * p := Int.mul_le_mul_of_nonneg_right (by omega) (by omega)
  omega
theorem step16 {g l x B : Int} (hl : 1 ≤ l) (h : (g + 1) * 16 ^ l.toNat ≤ B) : (g * 16 + x % 16 + 1) * 16 ^ (l - 1).toNat ≤ B := by
  have e : l.toNat = (l - 1).toNat + 1 := by omega
  rw [e, Int.pow_succ] at h
  have hx : x % 16 ≤ 15 := by omega
  have hp := pow16_pos (l - 1).toNat
  generalize (16 : Int) ^ (l - 1).toNat = p at *
  have e2 : (g + 1) * (p * 16) = (g * 16 + 16) * p := by
    rw [Int.mul_comm p 16, ← Int.mul_assoc, Int.add_mul, Int.one_mul]
  have : (g * 16 + x % 16 + 1) * p ≤ (g * 16 + 16) * p := Int.mul_le_mul_of_nonneg_right (by omega) (by omega)
  omega
theorem St.InvB.num {s : St} {N : Int} (h : s.InvB N) (g l : Int) : ({ s with got := g, left := l } : St).InvB N := ⟨h.size, h.job, h.addr, h.told, h.len, h.data, h.now, h.mode, h.op, h.wipes, h.busy⟩
theorem says_inv {s : St} {N : Int} (h : s.Inv N) (hs : s.stage = 6) (hi : s.op.inn = false) (hk : s.op.data = 1 ∧ 0 ≤ s.left ∧ s.left ≤ 7 ∨ s.op.data = 4 ∧ 0 ≤ s.left ∧ s.left ≤ 1) : s.says.1.Inv (N + 1) := by
  have hb := byteAt_bd s s.told
  have h' := (h.mono (show N ≤ N + 1 by omega)).b
  have key : ∃ no l t tb, s.says1 = { s with now := no, left := l, told := t, tabled := tb } ∧ (0 ≤ no ∧ no ≤ 255) ∧ (0 ≤ t ∧ t ≤ N + 1) ∧ (s.op.data = 1 ∧ 1 ≤ l ∧ l ≤ 8 ∨ s.op.data = 4 ∧ 1 ≤ l ∧ l ≤ 2) := by
    have ht := h.told
    unfold St.says1
    split
    · refine ⟨_, _, _, _, rfl, hb, by omega, ?_⟩
      rcases hk with ⟨hd, _⟩ | ⟨hd, _⟩ <;> rw [hd]
      · exact .inl ⟨rfl, by decide, by decide⟩
      · exact .inr ⟨rfl, by decide, by decide⟩
    · exact ⟨s.now, s.left, s.told, s.tabled, rfl, h.now, by omega, by omega⟩
  obtain ⟨no, l, t, tb, e, hno, ht, hl⟩ := key
  have key2 : s.says.1 = { s with now := no, left := l - 1, told := t, tabled := tb } := by
    unfold St.says
    rw [e]
    dsimp only
    split <;> rfl
  rw [key2]
  refine ⟨h'.size, h'.job, h'.addr, ht, h'.len, h'.data, hno, h'.mode, h'.op, h'.wipes, h'.busy, .inr (.inr (.inr (.inr (.inr (.inr (.inl ⟨hs, hi, ?_⟩))))))⟩
  dsimp only
  omega
theorem clockIn_inv {s : St} {N : Int} (h : s.Inv N) (x : Int) : (s.clockIn x).1.Inv (N + 1) := by
  have hpos : 0 ≤ N := by have := h.told; omega
  have h' := (h.mono (show N ≤ N + 1 by omega)).b
  obtain ⟨c, hc⟩ := h.op
  obtain ⟨o1, o2, o3, o4, o5, o6⟩ := op_facts c
  rw [← hc] at o1 o2 o3 o4 o5 o6
  have n4 : ¬ (4 : Int) = 1 := by decide
  unfold St.clockIn
  rcases h.part with ⟨hs, l1, l2, g0, gl⟩ | hs | ⟨hs, g0, hk⟩ | ⟨hs, ha, l1, l2, g0, gl⟩ | ⟨hs, l1, l2⟩ | ⟨hs, hi, hd, l1, l2, g0, gl⟩ | ⟨hs, hi, hk⟩ | hs
  · rw [if_pos hs]
    dsimp only
    have hgl := step2 (x := x) l1 gl
    split
    · exact begins_inv (h'.num _ _) _
    · rename_i hne
      have hne' : ¬ s.left - 1 = 0 := hne
      refine (h'.num _ _).inv (.inl ⟨hs, ?_, ?_, ?_, ?_⟩)
      · dsimp only; omega
      · dsimp only; omega
      · dsimp only; rw [if_pos rfl]; omega
      · dsimp only; rw [if_pos rfl]; exact hgl
  · rw [if_neg (by omega), if_neg (by omega), if_neg (by omega), if_neg (by omega), if_neg (by omega), if_neg (by omega), if_neg (by omega)]
    exact h'.inv h.part
  · rw [if_neg (by omega), if_pos hs]
    dsimp only
    split
    · refine behind_inv ⟨h'.size, h'.job, ?_, h'.told, h'.len, h'.data, h'.now, h'.mode, h'.op, h'.wipes, h'.busy⟩
      dsimp only
      omega
    · rename_i hne
      have hne' : ¬ s.left - 1 = 0 := hne
      rcases hk with ⟨ha, l1, l2, gl⟩ | ⟨ha, l1, l2, gl⟩
      · have hgl := step2 (x := x) l1 gl
        refine (h'.num _ _).inv (.inr (.inr (.inl ⟨hs, ?_, .inl ⟨ha, ?_, ?_, ?_⟩⟩)))
        · dsimp only; rw [if_pos ha]; omega
        · dsimp only; omega
        · dsimp only; omega
        · dsimp only; rw [if_pos ha]; exact hgl
      · have hgl := step16 (x := x) l1 gl
        have ha1 : ¬ s.op.addr = 1 := by omega
        refine (h'.num _ _).inv (.inr (.inr (.inl ⟨hs, ?_, .inr ⟨ha, ?_, ?_, ?_⟩⟩)))
        · dsimp only; rw [if_neg ha1]; omega
        · dsimp only; omega
        · dsimp only; omega
        · dsimp only; rw [if_neg ha1]; exact hgl
  · rw [if_neg (by omega), if_neg (by omega), if_pos hs]
    dsimp only
    have hgl := step16 (x := x) l1 gl
    have ha1 : ¬ s.op.addr = 1 := by omega
    split
    · rename_i he
      have he' : s.left - 1 = 0 := he
      refine behind_inv ⟨h'.size, h'.job, h'.addr, h'.told, h'.len, h'.data, h'.now, ?_, h'.op, h'.wipes, h'.busy⟩
      rw [he'] at hgl
      have hgl2 : s.got * 16 + x % 16 + 1 ≤ 256 := by simpa using hgl
      show 0 ≤ (if s.op.addr = 1 then s.got * 2 + x % 2 else s.got * 16 + x % 16) ∧ (if s.op.addr = 1 then s.got * 2 + x % 2 else s.got * 16 + x % 16) ≤ 255
      rw [if_neg ha1]
      omega
    · rename_i hne
      have hne' : ¬ s.left - 1 = 0 := hne
      refine (h'.num _ _).inv (.inr (.inr (.inr (.inl ⟨hs, ha, ?_, ?_, ?_, ?_⟩))))
      · dsimp only; omega
      · dsimp only; omega
      · dsimp only; rw [if_neg ha1]; omega
      · dsimp only; rw [if_neg ha1]; exact hgl
  · rw [if_neg (by omega), if_neg (by omega), if_neg (by omega), if_pos hs]
    dsimp only
    split
    · exact behind_inv (h'.num s.got (s.left - 1))
    · rename_i hne
      refine (h'.num s.got (s.left - 1)).inv (.inr (.inr (.inr (.inr (.inl ⟨hs, ?_, ?_⟩)))))
      · dsimp only; omega
      · dsimp only; omega
  · rw [if_neg (by omega), if_neg (by omega), if_neg (by omega), if_neg (by omega), if_pos hs]
    dsimp only
    have hgl := step2 (x := x) l1 gl
    split
    · rename_i he
      have he' : s.left - 1 = 0 := he
      rw [he'] at hgl
      have hgl2 : s.got * 2 + x % 2 + 1 ≤ 256 := by simpa using hgl
      have hgot : (s.takesIn x s.op.data).got = s.got * 2 + x % 2 := by show (if s.op.data = 1 then s.got * 2 + x % 2 else s.got * 16 + x % 16) = _; rw [if_pos hd]
      have hl := h.len
      refine behind_inv ⟨h'.size, h'.job, h'.addr, h'.told, ?_, ?_, h'.now, h'.mode, h'.op, h'.wipes, h'.busy⟩
      · show ((s.data ++ [(s.takesIn x s.op.data).got]).length : Int) ≤ N + 1
        rw [List.length_append]
        simp only [List.length_cons, List.length_nil]
        omega
      · intro y hy
        have hy' : y ∈ s.data ++ [(s.takesIn x s.op.data).got] := hy
        rw [List.mem_append] at hy'
        rcases hy' with hy' | hy'
        · exact h.data y hy'
        · rw [List.mem_singleton] at hy'
          rw [hy', hgot]
          omega
    · rename_i hne
      have hne' : ¬ s.left - 1 = 0 := hne
      refine (h'.num _ _).inv (.inr (.inr (.inr (.inr (.inr (.inl ⟨hs, hi, hd, ?_, ?_, ?_, ?_⟩))))))
      · dsimp only; omega
      · dsimp only; omega
      · dsimp only; rw [if_pos hd]; omega
      · dsimp only; rw [if_pos hd]; exact hgl
  · rw [if_neg (by omega), if_neg (by omega), if_neg (by omega), if_neg (by omega), if_neg (by omega), if_pos hs]
    exact says_inv h hs hi hk
  · rw [if_neg (by omega), if_neg (by omega), if_neg (by omega), if_neg (by omega), if_neg (by omega), if_neg (by omega), if_pos hs]
    exact ⟨h'.size, h'.job, h'.addr, h'.told, h'.len, h'.data, h'.now, h'.mode, h'.op, h'.wipes, h'.busy, .inr (.inr (.inr (.inr (.inr (.inr (.inr hs))))))⟩
end Go.Proofs.YteombggfmeilaaaGreat
