/- The chip as a pure machine: its state, its cells in memory, and what each of its methods does to it. No program in sight. -/
import Derived.Test.YtjdjdfllggpckaaGreatBase
namespace Go.Proofs.YtjdjdfllggpckaaGreat
open Go.RowKit
/-- A command's form. -/
structure POp where
  byte : Int
  addr : Int
  mode : Bool
  dummy : Int
  data : Int
  inn : Bool
def op0 : POp := ⟨0, 0, false, 0, 0, false⟩
def opIs (b : Int) : Bool := decide (b = 1 ∨ b = 2 ∨ b = 3 ∨ b = 4 ∨ b = 5 ∨ b = 6 ∨ b = 32 ∨ b = 53 ∨ b = 90 ∨ b = 107 ∨ b = 117 ∨ b = 122 ∨ b = 159 ∨ b = 235)
def opOf (b : Int) : POp :=
  if b = 4 ∨ b = 6 ∨ b = 117 ∨ b = 122 then ⟨b, 0, false, 0, 0, false⟩
  else if b = 2 then ⟨b, 1, false, 0, 1, true⟩
  else if b = 1 then ⟨b, 0, false, 0, 1, true⟩
  else if b = 3 then ⟨b, 1, false, 0, 1, false⟩
  else if b = 5 ∨ b = 53 ∨ b = 159 then ⟨b, 0, false, 0, 1, false⟩
  else if b = 32 then ⟨b, 1, false, 0, 0, false⟩
  else if b = 90 then ⟨b, 1, false, 8, 1, false⟩
  else if b = 107 then ⟨b, 1, false, 8, 4, false⟩
  else if b = 235 then ⟨b, 4, true, 4, 4, false⟩
  else op0
/-- What is under way. -/
structure Job where
  sector : Int
  page : Int
  data : ByteArray
  left : Int
  susp : Bool
/-- A chip. -/
structure St where
  a : ByteArray
  prot : Bool
  quad : Bool
  wipes : Nat → Int
  tabled : Bool
  sel : Bool
  en : Bool
  goes : Bool
  job : Option Job
  busy : List Int
  op : POp
  stage : Int
  left : Int
  got : Int
  addr : Int
  mode : Int
  moded : Bool
  data : List Int
  told : Int
  now : Int
  beyond : Bool
/-- What the chip tells of itself: SFDP's 32 bytes. -/
def sfdpTab : ByteArray := ⟨#[83, 70, 68, 80, 6, 1, 0, 255, 0, 16, 0, 0, 0, 2, 0, 0, 32, 0, 0, 0, 255, 255, 255, 255, 255, 255, 255, 255, 255, 255, 255, 255]⟩
/-- The chip's cells in memory; jv, bv, dv: the job's pointer, the durations' slice, the data's slice. -/
def St.list (s : St) (jv bv dv : Value) : List Value :=
  [.string s.a, .bool s.prot, .bool s.quad,
   .int .i64 (s.wipes 0), .int .i64 (s.wipes 1), .int .i64 (s.wipes 2), .int .i64 (s.wipes 3), .int .i64 (s.wipes 4), .int .i64 (s.wipes 5), .int .i64 (s.wipes 6), .int .i64 (s.wipes 7),
   .int .u32 (if s.tabled then 1 else 0), .int .i32 0, .int .u32 0, .string (if s.tabled then sfdpTab else ⟨#[]⟩),
   .bool s.sel, .bool s.en, .bool s.goes, jv, bv,
   .int .i64 s.op.byte, .int .i64 s.op.addr, .bool s.op.mode, .int .i64 s.op.dummy, .int .i64 s.op.data, .bool s.op.inn,
   .int .i64 s.stage, .int .i64 s.left, .int .i64 s.got, .int .i64 s.addr, .int .i64 s.mode, .bool s.moded, dv, .int .i64 s.told, .int .i64 s.now, .bool s.beyond]
def St.new (a : ByteArray) : St :=
  { a := a, prot := false, quad := false, wipes := fun _ => 0, tabled := false, sel := false, en := false, goes := false, job := none, busy := [], op := op0, stage := 0, left := 0, got := 0, addr := 0, mode := 0, moded := false, data := [], told := 0, now := 0, beyond := false }
def St.works (s : St) : Bool := match s.job with
  | some j => !j.susp
  | none => false
def St.takes (s : St) (b : Int) : Bool :=
  if b = 5 ∨ b = 53 ∨ b = 117 then true
  else if b = 107 ∨ b = 235 then s.quad && !s.works
  else if b = 1 ∨ b = 2 ∨ b = 32 then s.job.isNone
  else !s.works
def St.known (s : St) (b : Int) : Bool := opIs b && s.takes (opOf b).byte
def St.enter (s : St) (stage clocks : Int) : St := { s with stage := stage, left := clocks, got := 0 }
def St.behind (s : St) : St :=
  if s.op.mode && !s.moded then s.enter 3 (8 / s.op.addr)
  else if 0 < s.op.dummy ∧ s.stage ≠ 4 then s.enter 4 s.op.dummy
  else if s.op.data = 0 then s.enter 7 0
  else if s.op.inn then s.enter 5 (8 / s.op.data)
  else s.enter 6 0
def St.begins (s : St) (b : Int) : St :=
  let s1 := { s with op := opOf b }
  if !s.known b then s1.enter 1 0
  else if 0 < (opOf b).addr then s1.enter 2 (24 / (opOf b).addr)
  else s1.behind
/-- What comes on so many lanes is taken into the number. -/
def St.takesIn (s : St) (x lanes : Int) : St := { s with got := if lanes = 1 then s.got * 2 + x % 2 else s.got * 16 + x % 16, left := s.left - 1 }
def first (works en prot : Bool) : Int := (if works then 1 else 0) + (if en then 2 else 0) + (if prot then 4 else 0)
def second (quad susp : Bool) : Int := (if quad then 2 else 0) + (if susp then 128 else 0)
def St.susp (s : St) : Bool := match s.job with
  | some j => j.susp
  | none => false
def St.first (s : St) : Int := Go.Proofs.YtjdjdfllggpckaaGreat.first s.works s.en s.prot
def St.second (s : St) : Int := Go.Proofs.YtjdjdfllggpckaaGreat.second s.quad s.susp
def byteOf (s : ByteArray) (i : Nat) : Int := ((s.data.toList.getD i 0).toNat : Int)
def St.byteAt (s : St) (i : Int) : Int :=
  if s.op.byte = 159 then ([239, 64, 12] : List Int).getD (i % 3).toNat 0
  else if s.op.byte = 5 then s.first
  else if s.op.byte = 53 then s.second
  else if s.op.byte = 90 then byteOf sfdpTab ((s.addr + i) % 32).toNat
  else byteOf s.a ((s.addr + i) % 4096).toNat
def St.says1 (s : St) : St :=
  if s.left = 0 then { s with now := s.byteAt s.told, left := 8 / s.op.data, told := s.told + 1, tabled := s.tabled || decide (s.op.byte = 90) } else s
def St.says (s : St) : St × Int :=
  let s1 := s.says1
  let s2 := { s1 with left := s1.left - 1 }
  if s.op.data = 1 then (s2, 13 + 2 * (s1.now / 2 ^ (s1.left - 1).toNat % 2))
  else (s2, s1.now / 16 ^ (s1.left - 1).toNat % 16)
/-- A clock of a command; what is said. -/
def St.clockIn (s : St) (x : Int) : St × Int :=
  if s.stage = 0 then
    let s1 := s.takesIn x 1
    (if s1.left = 0 then s1.begins s1.got else s1, 15)
  else if s.stage = 2 then
    let s1 := s.takesIn x s.op.addr
    (if s1.left = 0 then { s1 with addr := s1.got % 4096 }.behind else s1, 15)
  else if s.stage = 3 then
    let s1 := s.takesIn x s.op.addr
    (if s1.left = 0 then { s1 with mode := s1.got, moded := true }.behind else s1, 15)
  else if s.stage = 4 then
    let s1 := { s with left := s.left - 1 }
    (if s1.left = 0 then s1.behind else s1, 15)
  else if s.stage = 5 then
    let s1 := s.takesIn x s.op.data
    (if s1.left = 0 then { s1 with data := s1.data ++ [s1.got] }.behind else s1, 15)
  else if s.stage = 6 then s.says
  else if s.stage = 7 then ({ s with beyond := true }, 15)
  else (s, 15)
/-- Some bytes are turned. -/
def turned (a : ByteArray) (lo n : Nat) (turn : Nat → UInt8 → UInt8) : ByteArray :=
  ⟨(a.data.toList.mapIdx fun j b => if lo ≤ j ∧ j < lo + n then turn (j - lo) b else b).toArray⟩
def maskAt (mask : ByteArray) (i : Nat) : UInt8 := if mask.size = 0 then 0 else mask.data.toList.getD (i % mask.size) 0
def progCut (a : ByteArray) (lo : Nat) (data mask : ByteArray) : ByteArray :=
  turned a lo data.size fun i old => old &&& ~~~(maskAt mask i &&& ~~~(data.data.toList.getD i 0))
def eraseCut (a : ByteArray) (sector : Nat) (mask : ByteArray) : ByteArray :=
  turned a (sector * 512) 512 fun i old => old ||| maskAt mask i
def Job.cells (j : Job) (a mask : ByteArray) : ByteArray :=
  if j.sector = -1 then progCut a j.page.toNat j.data mask else eraseCut a j.sector.toNat mask
def all255 : ByteArray := ⟨#[255]⟩
def St.pass (s : St) : St :=
  match s.job with
  | none => s
  | some j =>
    if j.susp then s
    else if j.left - 1 ≤ 0 then { s with a := j.cells s.a all255, job := none, en := false }
    else { s with job := some { j with left := j.left - 1 } }
def St.clock (s : St) (x : Int) : St × Int :=
  let s1 := s.pass
  if s1.sel then s1.clockIn x else (s1, 15)
def St.select (s : St) : St :=
  let s1 := { s with sel := true, op := op0, stage := 0, left := 8, got := 0, addr := 0, mode := 0, moded := false, data := [], told := 0, now := 0, beyond := false }
  if s.goes then s1.begins 235 else s1
def St.whole (s : St) : Bool :=
  if s.op.inn then decide (s.stage = 5 ∧ s.left = 8 / s.op.data)
  else if s.op.data = 0 then decide (s.stage = 7) && !s.beyond
  else true
def St.starts (s : St) (j : Job) : St :=
  if !s.en then s
  else if s.prot ∧ s.addr < 2048 then { s with en := false }
  else
    let left := match s.busy with
      | [] => 8
      | d :: _ => d
    { s with busy := s.busy.tail, wipes := fun k => if (k : Int) = j.sector then s.wipes k + 1 else s.wipes k, job := some { j with left := left } }
/-- The bytes of a page that data tell, the last ones where some come to one place. -/
def pageOf (addr : Int) (data : List Int) : List UInt8 :=
  (data.zipIdx.foldl (fun (l : List UInt8) (x : Int × Nat) => l.set ((addr + x.2) % 32).toNat (UInt8.ofNat (x.1 % 256).toNat)) (List.replicate 32 255))
def St.ends (s : St) : St :=
  if s.stage = 0 ∨ s.stage = 1 ∨ s.whole = false then s
  else if s.op.byte = 6 then { s with en := true }
  else if s.op.byte = 4 then { s with en := false }
  else if s.op.byte = 117 then (match s.job with
    | some j => if j.sector = -1 then s else { s with job := some { j with susp := true } }
    | none => s)
  else if s.op.byte = 122 then (match s.job with
    | some j => { s with job := some { j with susp := false } }
    | none => s)
  else if s.op.byte = 1 then
    if s.en ∧ s.data.length = 2 then { s with prot := decide (s.data.getD 0 0 / 4 % 2 = 1), quad := decide (s.data.getD 1 0 / 2 % 2 = 1), en := false } else s
  else if s.op.byte = 2 then
    if s.data = [] then s else s.starts ⟨-1, s.addr - s.addr % 32, ⟨(pageOf s.addr s.data).toArray⟩, 0, false⟩
  else if s.op.byte = 32 then s.starts ⟨s.addr / 512, 0, ⟨#[]⟩, 0, false⟩
  else if s.op.byte = 235 then { s with goes := s.moded && decide (s.mode = 160) }
  else s
def St.deselect (s : St) : St := { s with sel := false }.ends
def St.loss (s : St) (mask : ByteArray) : St :=
  { (St.new (match s.job with
    | some j => j.cells s.a mask
    | none => s.a)) with prot := s.prot, quad := s.quad, wipes := s.wipes, tabled := s.tabled }
end Go.Proofs.YtjdjdfllggpckaaGreat
