/- Base ChipM Low -/
import Derived.WalkKit
import Derived.ProofKit
import Derived.Lib.Hide
import Derived.Deep.QuietTactic
import Derived.BigQuiet
import Derived.StillTailTactics
import Derived.Deep.DeepFit
import Derived.Deep.DeepMust
import Derived.Deep.LoopGhost
import Derived.Deep.RegionWith
import Derived.Deep.DeepCutAuto
import Derived.WalkSpells
import Derived.WalkLawsBesides
import Derived.Laws.BitsLemmas
import Derived.Lib.ConvBytes
import Derived.Laws.BytesArg
import Derived.Deep.AppendLies
import Derived.Test.YteombggfmeilaaaGreatProg
/- Base. -/
namespace Go.Proofs.YteombggfmeilaaaGreat
open Go.RowKit
structure Upd (S : Nat → Prop) (w w' : World) : Prop where
  os : w'.os = w.os
  output : w'.output = w.output
  size : w.heap.size ≤ w'.heap.size
  block : ∀ k, k < w.heap.size → ¬ S k → w'.heap[k]? = w.heap[k]?
def none' : Nat → Prop := fun _ => False
theorem Upd.refl (S : Nat → Prop) (w : World) : Upd S w w := ⟨rfl, rfl, Nat.le_refl _, fun _ _ _ => rfl⟩
theorem Upd.trans {S T : Nat → Prop} {a b c : World} (h : Upd S a b) (g : Upd T b c) (hT : ∀ k, k < a.heap.size → T k → S k) : Upd S a c :=
  ⟨g.os.trans h.os, g.output.trans h.output, Nat.le_trans h.size g.size, fun k hk hn =>
    (g.block k (Nat.lt_of_lt_of_le hk h.size) (fun t => hn (hT k hk t))).trans (h.block k hk hn)⟩
theorem Upd.mono {S T : Nat → Prop} {a b : World} (h : Upd S a b) (hT : ∀ k, k < a.heap.size → S k → T k) : Upd T a b :=
  ⟨h.os, h.output, h.size, fun k hk hn => h.block k hk (fun s => hn (hT k hk s))⟩
theorem Upd.drew {S : Nat → Prop} {a b : World} (h : Upd S a b) : Upd S a b.drew := ⟨h.os, h.output, h.size, h.block⟩
theorem Upd.alloc {S : Nat → Prop} {a b : World} (h : Upd S a b) (o : Obj) : Upd S a (b.alloc o) :=
  h.trans (T := none') ⟨rfl, rfl, by simp, fun k hk _ => Below.heap_alloc _ _ _ hk⟩ (fun _ _ f => f.elim)
theorem Upd.setCell {S : Nat → Prop} {a b : World} (h : Upd S a b) (p : Addr) (u : Value) (hp : p.block < a.heap.size → S p.block) : Upd S a (b.setCell p u) :=
  h.trans (T := fun k => k = p.block) ⟨rfl, rfl, by simp [World.setCell], fun k _ hn => Below.heap_setCell _ _ _ _ hn⟩ (fun k hk e => by subst e; exact hp hk)
theorem Upd.alike {S : Nat → Prop} {a b c : World} (h : Upd S a b) (g : c.Alike b) : Upd S a c := by
  obtain ⟨g1, g2, g3⟩ := g
  exact ⟨g2.trans h.os, g3.trans h.output, by rw [g1]; exact h.size, fun k hk hn => by rw [g1]; exact h.block k hk hn⟩
theorem Upd.grown {S : Nat → Prop} {a b c : World} {row : Option Nat} (h : Upd S a b) (g : b.grownBy c row) (hr : ∀ k, row = some k → k < a.heap.size → S k) : Upd S a c :=
  h.trans (T := fun k => row = some k) ⟨g.os, g.output, g.size, fun k hk hn => g.block k hk (fun e => hn e.symm)⟩ (fun k hk e => hr k e hk)
theorem Upd.below {S : Nat → Prop} {a b c : World} {B : Nat} (h : Upd S a b) (g : Below B b c) (hB : ∀ k, k < a.heap.size → B ≤ k → S k) : Upd S a c :=
  h.trans (T := fun k => B ≤ k) ⟨g.os, g.output, g.size, fun k hk hn => g.block k (by omega)⟩ (fun k hk e => hB k hk e)
theorem Upd.cell {S : Nat → Prop} {a b : World} (h : Upd S a b) {p : Addr} (hp : p.block < a.heap.size) (hn : ¬ S p.block) : b.cell? p = a.cell? p :=
  World.cell?_of_block (h.block _ hp hn)
theorem Upd.frozen {S : Nat → Prop} {a b : World} (h : Upd S a b) {p : Addr} (hp : p.block < a.heap.size) (hn : ¬ S p.block) : b.frozen? p = a.frozen? p :=
  World.frozen?_of_block (h.block _ hp hn)
theorem Upd.keptBut {W w' : World} (h : Upd none' W w') (may : MemPlace → Prop) : W.keptBut w' may := by
  refine ⟨h.os, h.output, fun i hi => ?_⟩
  rw [h.block i hi (fun f => f)]
  split <;> simp_all
theorem Upd.same {W w' : World} (h : Upd none' W w') {p : MemPlace} (hp : p.block < W.heap.size) : W.sameAt w' p := by
  cases p with
  | cell b o => exact World.cell?_of_block (w := W) (h.block b hp (fun f => f))
  | map b => exact h.block b hp (fun f => f)
theorem Alike.cell {a b : World} (h : b.Alike a) (p : Addr) : b.cell? p = a.cell? p := by simp [World.cell?, h.1]
theorem Alike.frozen {a b : World} (h : b.Alike a) (p : Addr) : b.frozen? p = a.frozen? p := by simp [World.frozen?, h.1]
theorem Alike.size {a b : World} (h : b.Alike a) : b.heap.size = a.heap.size := by rw [h.1]
theorem Upd.trod {H : Type} {enc : TypeId × Value → H} {P : Program} {t : TypeId} (hl : laidOutB P = true) (hr : P.readableRec t = true) (hrow : t < P.types.size) {W W' : World} {v : Value} {d : DataW H} {ps : List MemPlace}
    (h : DataW.Trod enc P W 0 (fun _ => true) true t v d ps) (hb : Upd none' W W') (hlt : ∀ x ∈ ps, x.block < W.heap.size) :
    DataW.Trod enc P W' 0 (fun b => decide (b < W.heap.size)) true t v d ps :=
  WideElems.Trod_stays hl hr hrow h (fun x hx => hb.same (hlt x hx)) (fun x hx => by simpa using hlt x hx)
def IntsR (w : World) (v : Value) (xs : List Int) : Prop :=
  xs.length * 8 ≤ 140737488351232 ∧ (∀ x ∈ xs, -9223372036854775808 ≤ x ∧ x ≤ 9223372036854775807) ∧ ∃ a cap, v = .slice a xs.length cap ∧ xs.length ≤ cap ∧
    (xs ≠ [] → ∃ b o, a = some ⟨b, o, none⟩ ∧ b < w.heap.size ∧ ∀ j, j < xs.length → w.cell? ⟨b, o + j, none⟩ = some (.int .i64 (xs.getD j 0)))
theorem IntsR.upd {S : Nat → Prop} {w w' : World} {v : Value} {xs : List Int} (h : IntsR w v xs) (u : Upd S w w') (hS : ∀ k, k < w.heap.size → ¬ S k) : IntsR w' v xs := by
  obtain ⟨h1, h2, a, cap, h3, h4, h5⟩ := h
  refine ⟨h1, h2, a, cap, h3, h4, fun hn => ?_⟩
  obtain ⟨b, o, h6, h7, h8⟩ := h5 hn
  exact ⟨b, o, h6, Nat.lt_of_lt_of_le h7 u.size, fun j hj => by rw [u.cell (p := ⟨b, o + j, none⟩) h7 (hS b h7)]; exact h8 j hj⟩
def Blk (w : World) (b : Nat) (cs : List Value) (t : TypeId) : Prop := w.heap[b]? = some (.cells cs.toArray t (0, 0))
theorem Blk.lt {w : World} {b : Nat} {cs : List Value} {t : TypeId} (h : Blk w b cs t) : b < w.heap.size := (Array.getElem?_eq_some_iff.1 h).1
theorem Blk.cell {w : World} {b : Nat} {cs : List Value} {t : TypeId} (h : Blk w b cs t) (i : Nat) : w.cell? ⟨b, i, none⟩ = cs[i]? := by
  rw [cell_of_row w b i _ t (0, 0) h]; simp
theorem Blk.frozen {w : World} {b : Nat} {cs : List Value} {t : TypeId} (h : Blk w b cs t) (i : Nat) : w.frozen? ⟨b, i, none⟩ = false := by
  unfold Blk at h; simp [World.frozen?, h]
theorem Blk.upd {S : Nat → Prop} {w w' : World} {b : Nat} {cs : List Value} {t : TypeId} (h : Blk w b cs t) (u : Upd S w w') (hb : ¬ S b) : Blk w' b cs t :=
  (u.block b h.lt hb).trans h
theorem Blk.alike {w w' : World} {b : Nat} {cs : List Value} {t : TypeId} (h : Blk w b cs t) (u : w'.Alike w) : Blk w' b cs t := by
  unfold Blk at h ⊢; rw [u.1]; exact h
theorem Blk.set {w : World} {b : Nat} {cs : List Value} {t : TypeId} (h : Blk w b cs t) (i : Nat) (v : Value) : Blk (w.setCell ⟨b, i, none⟩ v) b (cs.set i v) t := by
  unfold Blk at h ⊢
  simp only [World.setCell, Array.getElem?_modify]
  simp [h]
theorem Blk.set_ne {w : World} {b c : Nat} {cs : List Value} {t : TypeId} (h : Blk w b cs t) (i : Nat) (v : Value) (hc : b ≠ c) : Blk (w.setCell ⟨c, i, none⟩ v) b cs t := by
  unfold Blk at h ⊢
  rw [Below.heap_setCell _ _ _ _ hc]; exact h
theorem Blk.alloc {w : World} {b : Nat} {cs : List Value} {t : TypeId} (h : Blk w b cs t) (o : Obj) : Blk (w.alloc o) b cs t := by
  have := h.lt
  unfold Blk at h ⊢
  rw [Below.heap_alloc _ _ _ this]; exact h
theorem Blk.new (w : World) (cs : List Value) (t : TypeId) : Blk (w.alloc (.cells cs.toArray t)) w.heap.size cs t := by
  unfold Blk; exact heap_alloc_new w _
theorem Blk.drew {w : World} {b : Nat} {cs : List Value} {t : TypeId} (h : Blk w b cs t) : Blk w.drew b cs t := h
end Go.Proofs.YteombggfmeilaaaGreat
/- ChipM. -/
namespace Go.Proofs.YteombggfmeilaaaGreat
open Go.RowKit
structure POp where
  byte : Int
  addr : Int
  mode : Bool
  dummy : Int
  data : Int
  inn : Bool
def op0 : POp := ⟨0, 0, false, 0, 0, false⟩
def opIs (b : Int) : Bool := decide (b = 1 ∨ b = 2 ∨ b = 3 ∨ b = 4 ∨ b = 5 ∨ b = 6 ∨ b = 32 ∨ b = 53 ∨ b = 90 ∨ b = 107 ∨ b = 117 ∨ b = 122 ∨ b = 159 ∨ b = 235)
def opOf (b : Int) : POp :=
  if b = 4 ∨ b = 6 ∨ b = 117 ∨ b = 122 then ⟨b, 0, false, 0, 0, false⟩
  else if b = 2 then ⟨b, 1, false, 0, 1, true⟩
  else if b = 1 then ⟨b, 0, false, 0, 1, true⟩
  else if b = 3 then ⟨b, 1, false, 0, 1, false⟩
  else if b = 5 ∨ b = 53 ∨ b = 159 then ⟨b, 0, false, 0, 1, false⟩
  else if b = 32 then ⟨b, 1, false, 0, 0, false⟩
  else if b = 90 then ⟨b, 1, false, 8, 1, false⟩
  else if b = 107 then ⟨b, 1, false, 8, 4, false⟩
  else if b = 235 then ⟨b, 4, true, 4, 4, false⟩
  else op0
structure Job where
  sector : Int
  page : Int
  data : ByteArray
  left : Int
  susp : Bool
structure St where
  a : ByteArray
  prot : Bool
  quad : Bool
  wipes : Nat → Int
  tabled : Bool
  sel : Bool
  en : Bool
  goes : Bool
  job : Option Job
  busy : List Int
  op : POp
  stage : Int
  left : Int
  got : Int
  addr : Int
  mode : Int
  moded : Bool
  data : List Int
  told : Int
  now : Int
  beyond : Bool
def sfdpTab : ByteArray := ⟨#[83, 70, 68, 80, 6, 1, 0, 255, 0, 16, 0, 0, 0, 2, 0, 0, 32, 0, 0, 0, 255, 255, 255, 255, 255, 255, 255, 255, 255, 255, 255, 255]⟩
def St.list (s : St) (jv bv dv : Value) : List Value :=
  [.string s.a, .bool s.prot, .bool s.quad,
   .int .i64 (s.wipes 0), .int .i64 (s.wipes 1), .int .i64 (s.wipes 2), .int .i64 (s.wipes 3), .int .i64 (s.wipes 4), .int .i64 (s.wipes 5), .int .i64 (s.wipes 6), .int .i64 (s.wipes 7),
   .int .u32 (if s.tabled then 1 else 0), .int .i32 0, .int .u32 0, .string (if s.tabled then sfdpTab else ⟨#[]⟩),
   .bool s.sel, .bool s.en, .bool s.goes, jv, bv,
   .int .i64 s.op.byte, .int .i64 s.op.addr, .bool s.op.mode, .int .i64 s.op.dummy, .int .i64 s.op.data, .bool s.op.inn,
   .int .i64 s.stage, .int .i64 s.left, .int .i64 s.got, .int .i64 s.addr, .int .i64 s.mode, .bool s.moded, dv, .int .i64 s.told, .int .i64 s.now, .bool s.beyond]
def St.new (a : ByteArray) : St :=
  { a := a, prot := false, quad := false, wipes := fun _ => 0, tabled := false, sel := false, en := false, goes := false, job := none, busy := [], op := op0, stage := 0, left := 0, got := 0, addr := 0, mode := 0, moded := false, data := [], told := 0, now := 0, beyond := false }
def St.works (s : St) : Bool := match s.job with
  | some j => !j.susp
  | none => false
def St.takes (s : St) (b : Int) : Bool :=
  if b = 5 ∨ b = 53 ∨ b = 117 then true
  else if b = 107 ∨ b = 235 then s.quad && !s.works
  else if b = 1 ∨ b = 2 ∨ b = 32 then s.job.isNone
  else !s.works
def St.known (s : St) (b : Int) : Bool := opIs b && s.takes (opOf b).byte
def St.enter (s : St) (stage clocks : Int) : St := { s with stage := stage, left := clocks, got := 0 }
def St.behind (s : St) : St :=
  if s.op.mode && !s.moded then s.enter 3 (8 / s.op.addr)
  else if 0 < s.op.dummy ∧ s.stage ≠ 4 then s.enter 4 s.op.dummy
  else if s.op.data = 0 then s.enter 7 0
  else if s.op.inn then s.enter 5 (8 / s.op.data)
  else s.enter 6 0
def St.begins (s : St) (b : Int) : St :=
  let s1 := { s with op := opOf b }
  if !s.known b then s1.enter 1 0
  else if 0 < (opOf b).addr then s1.enter 2 (24 / (opOf b).addr)
  else s1.behind
def St.takesIn (s : St) (x lanes : Int) : St := { s with got := if lanes = 1 then s.got * 2 + x % 2 else s.got * 16 + x % 16, left := s.left - 1 }
def first (works en prot : Bool) : Int := (if works then 1 else 0) + (if en then 2 else 0) + (if prot then 4 else 0)
def second (quad susp : Bool) : Int := (if quad then 2 else 0) + (if susp then 128 else 0)
def St.susp (s : St) : Bool := match s.job with
  | some j => j.susp
  | none => false
def St.first (s : St) : Int := Go.Proofs.YteombggfmeilaaaGreat.first s.works s.en s.prot
def St.second (s : St) : Int := Go.Proofs.YteombggfmeilaaaGreat.second s.quad s.susp
def byteOf (s : ByteArray) (i : Nat) : Int := ((s.data.toList.getD i 0).toNat : Int)
def St.byteAt (s : St) (i : Int) : Int :=
  if s.op.byte = 159 then ([239, 64, 12] : List Int).getD (i % 3).toNat 0
  else if s.op.byte = 5 then s.first
  else if s.op.byte = 53 then s.second
  else if s.op.byte = 90 then byteOf sfdpTab ((s.addr + i) % 32).toNat
  else byteOf s.a ((s.addr + i) % 4096).toNat
def St.says1 (s : St) : St :=
  if s.left = 0 then { s with now := s.byteAt s.told, left := 8 / s.op.data, told := s.told + 1, tabled := s.tabled || decide (s.op.byte = 90) } else s
def St.says (s : St) : St × Int :=
  let s1 := s.says1
  let s2 := { s1 with left := s1.left - 1 }
  if s.op.data = 1 then (s2, 13 + 2 * (s1.now / 2 ^ (s1.left - 1).toNat % 2))
  else (s2, s1.now / 16 ^ (s1.left - 1).toNat % 16)
def St.clockIn (s : St) (x : Int) : St × Int :=
  if s.stage = 0 then
    let s1 := s.takesIn x 1
    (if s1.left = 0 then s1.begins s1.got else s1, 15)
  else if s.stage = 2 then
    let s1 := s.takesIn x s.op.addr
    (if s1.left = 0 then { s1 with addr := s1.got % 4096 }.behind else s1, 15)
  else if s.stage = 3 then
    let s1 := s.takesIn x s.op.addr
    (if s1.left = 0 then { s1 with mode := s1.got, moded := true }.behind else s1, 15)
  else if s.stage = 4 then
    let s1 := { s with left := s.left - 1 }
    (if s1.left = 0 then s1.behind else s1, 15)
  else if s.stage = 5 then
    let s1 := s.takesIn x s.op.data
    (if s1.left = 0 then { s1 with data := s1.data ++ [s1.got] }.behind else s1, 15)
  else if s.stage = 6 then s.says
  else if s.stage = 7 then ({ s with beyond := true }, 15)
  else (s, 15)
def turned (a : ByteArray) (lo n : Nat) (turn : Nat → UInt8 → UInt8) : ByteArray :=
  ⟨(a.data.toList.mapIdx fun j b => if lo ≤ j ∧ j < lo + n then turn (j - lo) b else b).toArray⟩
def maskAt (mask : ByteArray) (i : Nat) : UInt8 := if mask.size = 0 then 0 else mask.data.toList.getD (i % mask.size) 0
def progCut (a : ByteArray) (lo : Nat) (data mask : ByteArray) : ByteArray :=
  turned a lo data.size fun i old => old &&& ~~~(maskAt mask i &&& ~~~(data.data.toList.getD i 0))
def eraseCut (a : ByteArray) (sector : Nat) (mask : ByteArray) : ByteArray :=
  turned a (sector * 512) 512 fun i old => old ||| maskAt mask i
def Job.cells (j : Job) (a mask : ByteArray) : ByteArray :=
  if j.sector = -1 then progCut a j.page.toNat j.data mask else eraseCut a j.sector.toNat mask
def all255 : ByteArray := ⟨#[255]⟩
def St.pass (s : St) : St :=
  match s.job with
  | none => s
  | some j =>
    if j.susp then s
    else if j.left - 1 ≤ 0 then { s with a := j.cells s.a all255, job := none, en := false }
    else { s with job := some { j with left := j.left - 1 } }
def St.clock (s : St) (x : Int) : St × Int :=
  let s1 := s.pass
  if s1.sel then s1.clockIn x else (s1, 15)
def St.select (s : St) : St :=
  let s1 := { s with sel := true, op := op0, stage := 0, left := 8, got := 0, addr := 0, mode := 0, moded := false, data := [], told := 0, now := 0, beyond := false }
  if s.goes then s1.begins 235 else s1
def St.whole (s : St) : Bool :=
  if s.op.inn then decide (s.stage = 5 ∧ s.left = 8 / s.op.data)
  else if s.op.data = 0 then decide (s.stage = 7) && !s.beyond
  else true
def St.starts (s : St) (j : Job) : St :=
  if !s.en then s
  else if s.prot ∧ s.addr < 2048 then { s with en := false }
  else
    let left := match s.busy with
      | [] => 8
      | d :: _ => d
    { s with busy := s.busy.tail, wipes := fun k => if (k : Int) = j.sector then s.wipes k + 1 else s.wipes k, job := some { j with left := left } }
def pageOf (addr : Int) (data : List Int) : List UInt8 :=
  (data.zipIdx.foldl (fun (l : List UInt8) (x : Int × Nat) => l.set ((addr + x.2) % 32).toNat (UInt8.ofNat (x.1 % 256).toNat)) (List.replicate 32 255))
def St.ends (s : St) : St :=
  if s.stage = 0 ∨ s.stage = 1 ∨ s.whole = false then s
  else if s.op.byte = 6 then { s with en := true }
  else if s.op.byte = 4 then { s with en := false }
  else if s.op.byte = 117 then (match s.job with
    | some j => if j.sector = -1 then s else { s with job := some { j with susp := true } }
    | none => s)
  else if s.op.byte = 122 then (match s.job with
    | some j => { s with job := some { j with susp := false } }
    | none => s)
  else if s.op.byte = 1 then
    if s.en ∧ s.data.length = 2 then { s with prot := decide (s.data.getD 0 0 / 4 % 2 = 1), quad := decide (s.data.getD 1 0 / 2 % 2 = 1), en := false } else s
  else if s.op.byte = 2 then
    if s.data = [] then s else s.starts ⟨-1, s.addr - s.addr % 32, ⟨(pageOf s.addr s.data).toArray⟩, 0, false⟩
  else if s.op.byte = 32 then s.starts ⟨s.addr / 512, 0, ⟨#[]⟩, 0, false⟩
  else if s.op.byte = 235 then { s with goes := s.moded && decide (s.mode = 160) }
  else s
def St.deselect (s : St) : St := { s with sel := false }.ends
def St.loss (s : St) (mask : ByteArray) : St :=
  { (St.new (match s.job with
    | some j => j.cells s.a mask
    | none => s.a)) with prot := s.prot, quad := s.quad, wipes := s.wipes, tabled := s.tabled }
end Go.Proofs.YteombggfmeilaaaGreat
namespace Go.Proofs.YteombggfmeilaaaGreat
open Go.RowKit
def Job.Form (j : Job) : Prop := j.sector = -1 ∧ 0 ≤ j.page ∧ j.page + 32 ≤ 4096 ∧ j.data.size = 32 ∨ 0 ≤ j.sector ∧ j.sector < 8
def Job.Ok (j : Job) : Prop := j.Form ∧ 1 ≤ j.left ∧ j.left ≤ 400
def St.Part (s : St) : Prop :=
  (s.stage = 0 ∧ 1 ≤ s.left ∧ s.left ≤ 8 ∧ 0 ≤ s.got ∧ (s.got + 1) * 2 ^ s.left.toNat ≤ 256) ∨
  s.stage = 1 ∨
  (s.stage = 2 ∧ 0 ≤ s.got ∧ (s.op.addr = 1 ∧ 1 ≤ s.left ∧ s.left ≤ 24 ∧ (s.got + 1) * 2 ^ s.left.toNat ≤ 16777216 ∨ s.op.addr = 4 ∧ 1 ≤ s.left ∧ s.left ≤ 6 ∧ (s.got + 1) * 16 ^ s.left.toNat ≤ 16777216)) ∨
  (s.stage = 3 ∧ s.op.addr = 4 ∧ 1 ≤ s.left ∧ s.left ≤ 2 ∧ 0 ≤ s.got ∧ (s.got + 1) * 16 ^ s.left.toNat ≤ 256) ∨
  (s.stage = 4 ∧ 1 ≤ s.left ∧ s.left ≤ 8) ∨
  (s.stage = 5 ∧ s.op.inn = true ∧ s.op.data = 1 ∧ 1 ≤ s.left ∧ s.left ≤ 8 ∧ 0 ≤ s.got ∧ (s.got + 1) * 2 ^ s.left.toNat ≤ 256) ∨
  (s.stage = 6 ∧ s.op.inn = false ∧ (s.op.data = 1 ∧ 0 ≤ s.left ∧ s.left ≤ 7 ∨ s.op.data = 4 ∧ 0 ≤ s.left ∧ s.left ≤ 1)) ∨
  s.stage = 7
structure St.Inv (s : St) (N : Int) : Prop where
  size : s.a.size = 4096
  job : ∀ j, s.job = some j → j.Ok
  addr : 0 ≤ s.addr ∧ s.addr < 4096
  told : 0 ≤ s.told ∧ s.told ≤ N
  len : (s.data.length : Int) ≤ N
  data : ∀ x ∈ s.data, 0 ≤ x ∧ x ≤ 255
  now : 0 ≤ s.now ∧ s.now ≤ 255
  mode : 0 ≤ s.mode ∧ s.mode ≤ 255
  op : ∃ c, s.op = opOf c
  wipes : ∀ k, 0 ≤ s.wipes k ∧ s.wipes k ≤ N
  busy : s.busy.length ≤ 16 ∧ ∀ d ∈ s.busy, 1 ≤ d ∧ d ≤ 400
  part : s.Part
theorem pow2_pos (n : Nat) : (1 : Int) ≤ 2 ^ n := by
  have : 0 < (2 : Int) ^ n := Int.pow_pos (by decide)
  omega
theorem pow16_pos (n : Nat) : (1 : Int) ≤ 16 ^ n := by
  have : 0 < (16 : Int) ^ n := Int.pow_pos (by decide)
  omega
theorem got_le (g p B : Int) (hp : 1 ≤ p) (h : (g + 1) * p ≤ B) (hg : 0 ≤ g) : g + 1 ≤ B := by
  have := Int.mul_le_mul_of_nonneg_left hp (show 0 ≤ g + 1 by omega)
  omega
theorem got2 {g l B : Int} (hg : 0 ≤ g) (h : (g + 1) * 2 ^ l.toNat ≤ B) : g + 1 ≤ B := got_le g _ B (pow2_pos _) h hg
theorem got16 {g l B : Int} (hg : 0 ≤ g) (h : (g + 1) * 16 ^ l.toNat ≤ B) : g + 1 ≤ B := got_le g _ B (pow16_pos _) h hg
theorem first_bd (x y z : Bool) : 0 ≤ first x y z ∧ first x y z ≤ 7 := by cases x <;> cases y <;> cases z <;> decide
theorem second_bd (x y : Bool) : 0 ≤ second x y ∧ second x y ≤ 130 := by cases x <;> cases y <;> decide
theorem byteOf_bd (s : ByteArray) (i : Nat) : 0 ≤ byteOf s i ∧ byteOf s i ≤ 255 := by
  unfold byteOf
  have := (s.data.toList.getD i 0).toNat_lt
  omega
theorem byteAt_bd (s : St) (i : Int) : 0 ≤ s.byteAt i ∧ s.byteAt i ≤ 255 := by
  unfold St.byteAt
  have h1 := first_bd s.works s.en s.prot
  have h2 := second_bd s.quad s.susp
  split
  · have : (i % 3).toNat = 0 ∨ (i % 3).toNat = 1 ∨ (i % 3).toNat = 2 := by omega
    rcases this with h | h | h <;> rw [h] <;> decide
  · split
    · unfold St.first; omega
    · split
      · unfold St.second; omega
      · split
        · exact byteOf_bd _ _
        · exact byteOf_bd _ _
end Go.Proofs.YteombggfmeilaaaGreat
namespace Go.Proofs.YteombggfmeilaaaGreat
open Go.RowKit
theorem op_facts (c : Int) : ((opOf c).mode = true → (opOf c).addr = 4) ∧ ((opOf c).inn = true → (opOf c).data = 1) ∧ ((opOf c).data = 0 ∨ (opOf c).data = 1 ∨ (opOf c).data = 4) ∧ 0 ≤ (opOf c).dummy ∧ (opOf c).dummy ≤ 8 ∧ ((opOf c).addr = 0 ∨ (opOf c).addr = 1 ∨ (opOf c).addr = 4) := by
  unfold opOf
  repeat' split
  all_goals simp [op0]
theorem behind_part (s : St) (c : Int) (hc : s.op = opOf c) : s.behind.Part := by
  obtain ⟨h1, h2, h3, h4, h5, h6⟩ := op_facts c
  rw [← hc] at h1 h2 h3 h4 h5 h6
  unfold St.behind
  split
  · have hm : s.op.mode = true := by simp_all
    have ha := h1 hm
    right; right; right; left
    simp only [St.enter, ha]
    decide
  · split
    · right; right; right; right; left
      refine ⟨rfl, ?_, ?_⟩ <;> simp only [St.enter] <;> omega
    · split
      · right; right; right; right; right; right; right; rfl
      · split
        · rename_i hi
          have hd := h2 hi
          right; right; right; right; right; left
          simp only [St.enter, hd, hi]
          decide
        · rename_i hd0 hi
          right; right; right; right; right; right; left
          refine ⟨rfl, ?_, ?_⟩
          · simpa [St.enter] using hi
          · simp only [St.enter]; omega
theorem begins_part (s : St) (c : Int) : (s.begins c).Part := by
  unfold St.begins
  dsimp only
  split
  · right; left; rfl
  · split
    · rename_i ha
      have h6 := (op_facts c).2.2.2.2.2
      have hb : (opOf c).addr = 1 ∨ (opOf c).addr = 4 := by omega
      right; right; left
      rcases hb with h | h <;> simp only [St.enter, h] <;> decide
    · exact behind_part _ c rfl
structure St.InvB (s : St) (N : Int) : Prop where
  size : s.a.size = 4096
  job : ∀ j, s.job = some j → j.Ok
  addr : 0 ≤ s.addr ∧ s.addr < 4096
  told : 0 ≤ s.told ∧ s.told ≤ N
  len : (s.data.length : Int) ≤ N
  data : ∀ x ∈ s.data, 0 ≤ x ∧ x ≤ 255
  now : 0 ≤ s.now ∧ s.now ≤ 255
  mode : 0 ≤ s.mode ∧ s.mode ≤ 255
  op : ∃ c, s.op = opOf c
  wipes : ∀ k, 0 ≤ s.wipes k ∧ s.wipes k ≤ N
  busy : s.busy.length ≤ 16 ∧ ∀ d ∈ s.busy, 1 ≤ d ∧ d ≤ 400
theorem St.Inv.b {s : St} {N : Int} (h : s.Inv N) : s.InvB N := ⟨h.size, h.job, h.addr, h.told, h.len, h.data, h.now, h.mode, h.op, h.wipes, h.busy⟩
theorem St.InvB.inv {s : St} {N : Int} (h : s.InvB N) (p : s.Part) : s.Inv N := ⟨h.size, h.job, h.addr, h.told, h.len, h.data, h.now, h.mode, h.op, h.wipes, h.busy, p⟩
theorem St.InvB.mono {s : St} {N M : Int} (h : s.InvB N) (hm : N ≤ M) : s.InvB M :=
  ⟨h.size, h.job, h.addr, ⟨h.told.1, by have := h.told.2; omega⟩, by have := h.len; omega, h.data, h.now, h.mode, h.op, fun k => ⟨(h.wipes k).1, by have := (h.wipes k).2; omega⟩, h.busy⟩
theorem St.Inv.mono {s : St} {N M : Int} (h : s.Inv N) (hm : N ≤ M) : s.Inv M := (h.b.mono hm).inv h.part
theorem behind_inv {s : St} {N : Int} (h : s.InvB N) : s.behind.Inv N := by
  obtain ⟨c, hc⟩ := h.op
  have hp := behind_part s c hc
  have key : s.behind.a = s.a ∧ s.behind.job = s.job ∧ s.behind.wipes = s.wipes ∧ s.behind.busy = s.busy ∧ s.behind.addr = s.addr ∧ s.behind.told = s.told ∧ s.behind.data = s.data ∧ s.behind.now = s.now ∧ s.behind.mode = s.mode ∧ s.behind.op = s.op := by
    unfold St.behind
    repeat' split
    all_goals exact ⟨rfl, rfl, rfl, rfl, rfl, rfl, rfl, rfl, rfl, rfl⟩
  obtain ⟨e1, e2, e3, e4, f1, f2, f3, f4, f5, f6⟩ := key
  exact ⟨by rw [e1]; exact h.size, by rw [e2]; exact h.job, by rw [f1]; exact h.addr, by rw [f2]; exact h.told, by rw [f3]; exact h.len, by rw [f3]; exact h.data, by rw [f4]; exact h.now, by rw [f5]; exact h.mode, ⟨c, by rw [f6, hc]⟩, by rw [e3]; exact h.wipes, by rw [e4]; exact h.busy, hp⟩
theorem begins_inv {s : St} {N : Int} (h : s.InvB N) (c : Int) : (s.begins c).Inv N := by
  have hB : ({ s with op := opOf c } : St).InvB N := ⟨h.size, h.job, h.addr, h.told, h.len, h.data, h.now, h.mode, ⟨c, rfl⟩, h.wipes, h.busy⟩
  have hp := begins_part s c
  unfold St.begins at hp ⊢
  dsimp only at hp ⊢
  split
  · rename_i hk
    rw [if_pos hk] at hp
    exact ⟨h.size, h.job, h.addr, h.told, h.len, h.data, h.now, h.mode, ⟨c, rfl⟩, h.wipes, h.busy, hp⟩
  · rename_i hk
    rw [if_neg hk] at hp
    split
    · rename_i ha
      rw [if_pos ha] at hp
      exact ⟨h.size, h.job, h.addr, h.told, h.len, h.data, h.now, h.mode, ⟨c, rfl⟩, h.wipes, h.busy, hp⟩
    · exact behind_inv hB
theorem step2 {g l x B : Int} (hl : 1 ≤ l) (h : (g + 1) * 2 ^ l.toNat ≤ B) : (g * 2 + x % 2 + 1) * 2 ^ (l - 1).toNat ≤ B := by
  have e : l.toNat = (l - 1).toNat + 1 := by omega
  rw [e, Int.pow_succ] at h
  have hx : x % 2 ≤ 1 := by omega
  have hp := pow2_pos (l - 1).toNat
  generalize (2 : Int) ^ (l - 1).toNat = p at *
  have e2 : (g + 1) * (p * 2) = (g * 2 + 2) * p := by
    rw [Int.mul_comm p 2, ← Int.mul_assoc, Int.add_mul, Int.one_mul]
  have : (g * 2 + x % 2 + 1) * p ≤ (g * 2 + 2) * p := Int.mul_le_mul_of_nonneg_right (by omega) (by omega)
  omega
theorem step16 {g l x B : Int} (hl : 1 ≤ l) (h : (g + 1) * 16 ^ l.toNat ≤ B) : (g * 16 + x % 16 + 1) * 16 ^ (l - 1).toNat ≤ B := by
  have e : l.toNat = (l - 1).toNat + 1 := by omega
  rw [e, Int.pow_succ] at h
  have hx : x % 16 ≤ 15 := by omega
  have hp := pow16_pos (l - 1).toNat
  generalize (16 : Int) ^ (l - 1).toNat = p at *
  have e2 : (g + 1) * (p * 16) = (g * 16 + 16) * p := by
    rw [Int.mul_comm p 16, ← Int.mul_assoc, Int.add_mul, Int.one_mul]
  have : (g * 16 + x % 16 + 1) * p ≤ (g * 16 + 16) * p := Int.mul_le_mul_of_nonneg_right (by omega) (by omega)
  omega
theorem St.InvB.num {s : St} {N : Int} (h : s.InvB N) (g l : Int) : ({ s with got := g, left := l } : St).InvB N := ⟨h.size, h.job, h.addr, h.told, h.len, h.data, h.now, h.mode, h.op, h.wipes, h.busy⟩
theorem says_inv {s : St} {N : Int} (h : s.Inv N) (hs : s.stage = 6) (hi : s.op.inn = false) (hk : s.op.data = 1 ∧ 0 ≤ s.left ∧ s.left ≤ 7 ∨ s.op.data = 4 ∧ 0 ≤ s.left ∧ s.left ≤ 1) : s.says.1.Inv (N + 1) := by
  have hb := byteAt_bd s s.told
  have h' := (h.mono (show N ≤ N + 1 by omega)).b
  have key : ∃ no l t tb, s.says1 = { s with now := no, left := l, told := t, tabled := tb } ∧ (0 ≤ no ∧ no ≤ 255) ∧ (0 ≤ t ∧ t ≤ N + 1) ∧ (s.op.data = 1 ∧ 1 ≤ l ∧ l ≤ 8 ∨ s.op.data = 4 ∧ 1 ≤ l ∧ l ≤ 2) := by
    have ht := h.told
    unfold St.says1
    split
    · refine ⟨_, _, _, _, rfl, hb, by omega, ?_⟩
      rcases hk with ⟨hd, _⟩ | ⟨hd, _⟩ <;> rw [hd]
      · exact .inl ⟨rfl, by decide, by decide⟩
      · exact .inr ⟨rfl, by decide, by decide⟩
    · exact ⟨s.now, s.left, s.told, s.tabled, rfl, h.now, by omega, by omega⟩
  obtain ⟨no, l, t, tb, e, hno, ht, hl⟩ := key
  have key2 : s.says.1 = { s with now := no, left := l - 1, told := t, tabled := tb } := by
    unfold St.says
    rw [e]
    dsimp only
    split <;> rfl
  rw [key2]
  refine ⟨h'.size, h'.job, h'.addr, ht, h'.len, h'.data, hno, h'.mode, h'.op, h'.wipes, h'.busy, .inr (.inr (.inr (.inr (.inr (.inr (.inl ⟨hs, hi, ?_⟩))))))⟩
  dsimp only
  omega
theorem clockIn_inv {s : St} {N : Int} (h : s.Inv N) (x : Int) : (s.clockIn x).1.Inv (N + 1) := by
  have hpos : 0 ≤ N := by have := h.told; omega
  have h' := (h.mono (show N ≤ N + 1 by omega)).b
  obtain ⟨c, hc⟩ := h.op
  obtain ⟨o1, o2, o3, o4, o5, o6⟩ := op_facts c
  rw [← hc] at o1 o2 o3 o4 o5 o6
  have n4 : ¬ (4 : Int) = 1 := by decide
  unfold St.clockIn
  rcases h.part with ⟨hs, l1, l2, g0, gl⟩ | hs | ⟨hs, g0, hk⟩ | ⟨hs, ha, l1, l2, g0, gl⟩ | ⟨hs, l1, l2⟩ | ⟨hs, hi, hd, l1, l2, g0, gl⟩ | ⟨hs, hi, hk⟩ | hs
  · rw [if_pos hs]
    dsimp only
    have hgl := step2 (x := x) l1 gl
    split
    · exact begins_inv (h'.num _ _) _
    · rename_i hne
      have hne' : ¬ s.left - 1 = 0 := hne
      refine (h'.num _ _).inv (.inl ⟨hs, ?_, ?_, ?_, ?_⟩)
      · dsimp only; omega
      · dsimp only; omega
      · dsimp only; rw [if_pos rfl]; omega
      · dsimp only; rw [if_pos rfl]; exact hgl
  · rw [if_neg (by omega), if_neg (by omega), if_neg (by omega), if_neg (by omega), if_neg (by omega), if_neg (by omega), if_neg (by omega)]
    exact h'.inv h.part
  · rw [if_neg (by omega), if_pos hs]
    dsimp only
    split
    · refine behind_inv ⟨h'.size, h'.job, ?_, h'.told, h'.len, h'.data, h'.now, h'.mode, h'.op, h'.wipes, h'.busy⟩
      dsimp only
      omega
    · rename_i hne
      have hne' : ¬ s.left - 1 = 0 := hne
      rcases hk with ⟨ha, l1, l2, gl⟩ | ⟨ha, l1, l2, gl⟩
      · have hgl := step2 (x := x) l1 gl
        refine (h'.num _ _).inv (.inr (.inr (.inl ⟨hs, ?_, .inl ⟨ha, ?_, ?_, ?_⟩⟩)))
        · dsimp only; rw [if_pos ha]; omega
        · dsimp only; omega
        · dsimp only; omega
        · dsimp only; rw [if_pos ha]; exact hgl
      · have hgl := step16 (x := x) l1 gl
        have ha1 : ¬ s.op.addr = 1 := by omega
        refine (h'.num _ _).inv (.inr (.inr (.inl ⟨hs, ?_, .inr ⟨ha, ?_, ?_, ?_⟩⟩)))
        · dsimp only; rw [if_neg ha1]; omega
        · dsimp only; omega
        · dsimp only; omega
        · dsimp only; rw [if_neg ha1]; exact hgl
  · rw [if_neg (by omega), if_neg (by omega), if_pos hs]
    dsimp only
    have hgl := step16 (x := x) l1 gl
    have ha1 : ¬ s.op.addr = 1 := by omega
    split
    · rename_i he
      have he' : s.left - 1 = 0 := he
      refine behind_inv ⟨h'.size, h'.job, h'.addr, h'.told, h'.len, h'.data, h'.now, ?_, h'.op, h'.wipes, h'.busy⟩
      rw [he'] at hgl
      have hgl2 : s.got * 16 + x % 16 + 1 ≤ 256 := by simpa using hgl
      show 0 ≤ (if s.op.addr = 1 then s.got * 2 + x % 2 else s.got * 16 + x % 16) ∧ (if s.op.addr = 1 then s.got * 2 + x % 2 else s.got * 16 + x % 16) ≤ 255
      rw [if_neg ha1]
      omega
    · rename_i hne
      have hne' : ¬ s.left - 1 = 0 := hne
      refine (h'.num _ _).inv (.inr (.inr (.inr (.inl ⟨hs, ha, ?_, ?_, ?_, ?_⟩))))
      · dsimp only; omega
      · dsimp only; omega
      · dsimp only; rw [if_neg ha1]; omega
      · dsimp only; rw [if_neg ha1]; exact hgl
  · rw [if_neg (by omega), if_neg (by omega), if_neg (by omega), if_pos hs]
    dsimp only
    split
    · exact behind_inv (h'.num s.got (s.left - 1))
    · rename_i hne
      refine (h'.num s.got (s.left - 1)).inv (.inr (.inr (.inr (.inr (.inl ⟨hs, ?_, ?_⟩)))))
      · dsimp only; omega
      · dsimp only; omega
  · rw [if_neg (by omega), if_neg (by omega), if_neg (by omega), if_neg (by omega), if_pos hs]
    dsimp only
    have hgl := step2 (x := x) l1 gl
    split
    · rename_i he
      have he' : s.left - 1 = 0 := he
      rw [he'] at hgl
      have hgl2 : s.got * 2 + x % 2 + 1 ≤ 256 := by simpa using hgl
      have hgot : (s.takesIn x s.op.data).got = s.got * 2 + x % 2 := by show (if s.op.data = 1 then s.got * 2 + x % 2 else s.got * 16 + x % 16) = _; rw [if_pos hd]
      have hl := h.len
      refine behind_inv ⟨h'.size, h'.job, h'.addr, h'.told, ?_, ?_, h'.now, h'.mode, h'.op, h'.wipes, h'.busy⟩
      · show ((s.data ++ [(s.takesIn x s.op.data).got]).length : Int) ≤ N + 1
        rw [List.length_append]
        simp only [List.length_cons, List.length_nil]
        omega
      · intro y hy
        have hy' : y ∈ s.data ++ [(s.takesIn x s.op.data).got] := hy
        rw [List.mem_append] at hy'
        rcases hy' with hy' | hy'
        · exact h.data y hy'
        · rw [List.mem_singleton] at hy'
          rw [hy', hgot]
          omega
    · rename_i hne
      have hne' : ¬ s.left - 1 = 0 := hne
      refine (h'.num _ _).inv (.inr (.inr (.inr (.inr (.inr (.inl ⟨hs, hi, hd, ?_, ?_, ?_, ?_⟩))))))
      · dsimp only; omega
      · dsimp only; omega
      · dsimp only; rw [if_pos hd]; omega
      · dsimp only; rw [if_pos hd]; exact hgl
  · rw [if_neg (by omega), if_neg (by omega), if_neg (by omega), if_neg (by omega), if_neg (by omega), if_pos hs]
    exact says_inv h hs hi hk
  · rw [if_neg (by omega), if_neg (by omega), if_neg (by omega), if_neg (by omega), if_neg (by omega), if_neg (by omega), if_pos hs]
    exact ⟨h'.size, h'.job, h'.addr, h'.told, h'.len, h'.data, h'.now, h'.mode, h'.op, h'.wipes, h'.busy, .inr (.inr (.inr (.inr (.inr (.inr (.inr hs))))))⟩
end Go.Proofs.YteombggfmeilaaaGreat
/- Low. -/
namespace Go.Proofs.YteombggfmeilaaaGreat
theorem wraps_i64 (n : Int) (h0 : 0 ≤ n) (h1 : n < 2 ^ 62) : IntKind.i64.wrap n = n := by rw [IntKind.wrap_i64]; omega
theorem i64_and1 (n : Int) : bits .and .i64 n 1 = n % 2 := by
  have hm : (BitVec.ofInt 64 1).toNat = 2 ^ 1 - 1 := by decide
  have key : (BitVec.ofInt 64 n &&& BitVec.ofInt 64 1).toNat = (n % ((2 ^ 64 : Nat) : Int)).toNat % 2 ^ 1 := by
    rw [BitVec.toNat_and, BitVec.toNat_ofInt, hm, Nat.and_two_pow_sub_one_eq_mod]
  show IntKind.i64.wrap ((BitVec.ofInt 64 n &&& BitVec.ofInt 64 1).toNat : Nat) = n % 2
  rw [key, IntKind.wrap_i64]
  omega
theorem i64_and3 (n : Int) : bits .and .i64 n 3 = n % 4 := by
  have hm : (BitVec.ofInt 64 3).toNat = 2 ^ 2 - 1 := by decide
  have key : (BitVec.ofInt 64 n &&& BitVec.ofInt 64 3).toNat = (n % ((2 ^ 64 : Nat) : Int)).toNat % 2 ^ 2 := by
    rw [BitVec.toNat_and, BitVec.toNat_ofInt, hm, Nat.and_two_pow_sub_one_eq_mod]
  show IntKind.i64.wrap ((BitVec.ofInt 64 n &&& BitVec.ofInt 64 3).toNat : Nat) = n % 4
  rw [key, IntKind.wrap_i64]
  omega
theorem i64_and15 (n : Int) : bits .and .i64 n 15 = n % 16 := by
  have hm : (BitVec.ofInt 64 15).toNat = 2 ^ 4 - 1 := by decide
  have key : (BitVec.ofInt 64 n &&& BitVec.ofInt 64 15).toNat = (n % ((2 ^ 64 : Nat) : Int)).toNat % 2 ^ 4 := by
    rw [BitVec.toNat_and, BitVec.toNat_ofInt, hm, Nat.and_two_pow_sub_one_eq_mod]
  show IntKind.i64.wrap ((BitVec.ofInt 64 n &&& BitVec.ofInt 64 15).toNat : Nat) = n % 16
  rw [key, IntKind.wrap_i64]
  omega
theorem i64_and255 (n : Int) : bits .and .i64 n 255 = n % 256 := by
  have hm : (BitVec.ofInt 64 255).toNat = 2 ^ 8 - 1 := by decide
  have key : (BitVec.ofInt 64 n &&& BitVec.ofInt 64 255).toNat = (n % ((2 ^ 64 : Nat) : Int)).toNat % 2 ^ 8 := by
    rw [BitVec.toNat_and, BitVec.toNat_ofInt, hm, Nat.and_two_pow_sub_one_eq_mod]
  show IntKind.i64.wrap ((BitVec.ofInt 64 n &&& BitVec.ofInt 64 255).toNat : Nat) = n % 256
  rw [key, IntKind.wrap_i64]
  omega
theorem i64_or1 (x y : Int) (h0 : 0 ≤ x) (hx : x % 2 = 0) (h1 : x < 4611686018427387904) (h2 : 0 ≤ y) (h3 : y < 2) : bits .or .i64 x y = x + y :=
  bits_join .i64 62 (by decide) wraps_i64 1 x y h0 hx (by omega) h2 (by omega) (by omega)
theorem i64_or4 (x y : Int) (h0 : 0 ≤ x) (hx : x % 16 = 0) (h1 : x < 4611686018427387904) (h2 : 0 ≤ y) (h3 : y < 16) : bits .or .i64 x y = x + y :=
  bits_join .i64 62 (by decide) wraps_i64 4 x y h0 (by omega) (by omega) h2 (by omega) (by omega)
end Go.Proofs.YteombggfmeilaaaGreat
namespace Go.Proofs.YteombggfmeilaaaGreat
open Go.RowKit
def bytesV (l : List UInt8) : List Value := l.map fun c => Value.int .u8 c.toNat
def Buf (w : World) (b : Nat) (l : List UInt8) (t : TypeId) : Prop :=
  ∃ (rest : List Value) (m : Nat × Nat), w.heap[b]? = some (.cells (bytesV l ++ rest).toArray t m) ∧ (m = (0, 0) ∨ l.length ≤ m.1)
theorem Buf.lt {w : World} {b : Nat} {l : List UInt8} {t : TypeId} (h : Buf w b l t) : b < w.heap.size := by
  obtain ⟨r, m, h, _⟩ := h; exact (Array.getElem?_eq_some_iff.1 h).1
theorem Buf.cell {w : World} {b : Nat} {l : List UInt8} {t : TypeId} (h : Buf w b l t) {j : Nat} (hj : j < l.length) : w.cell? ⟨b, j, none⟩ = some (.int .u8 (l.getD j 0).toNat) := by
  obtain ⟨r, m, h, _⟩ := h
  rw [cell_of_row w b j _ t m h]
  simp [bytesV, List.getElem?_append, hj, List.getD_eq_getElem?_getD]
theorem Buf.frozen {w : World} {b : Nat} {l : List UInt8} {t : TypeId} (h : Buf w b l t) {j : Nat} (hj : j < l.length) : w.frozen? ⟨b, j, none⟩ = false := by
  obtain ⟨r, m, h, hm⟩ := h
  obtain ⟨lo, hi⟩ := m
  simp only [World.frozen?, h]
  rcases hm with hm | hm
  · simp only [Prod.mk.injEq] at hm; obtain ⟨rfl, rfl⟩ := hm; simp
  · simp only at hm; simp; omega
theorem Buf.upd {S : Nat → Prop} {w w' : World} {b : Nat} {l : List UInt8} {t : TypeId} (h : Buf w b l t) (u : Upd S w w') (hb : ¬ S b) : Buf w' b l t := by
  have hlt := h.lt
  obtain ⟨r, m, h, hm⟩ := h
  exact ⟨r, m, (u.block b hlt hb).trans h, hm⟩
theorem Buf.set {w : World} {b : Nat} {l : List UInt8} {t : TypeId} (h : Buf w b l t) {j : Nat} (hj : j < l.length) (c : UInt8) : Buf (w.setCell ⟨b, j, none⟩ (.int .u8 c.toNat)) b (l.set j c) t := by
  obtain ⟨r, m, h, hm⟩ := h
  refine ⟨r, m, ?_, by simpa using hm⟩
  simp only [World.setCell, Array.getElem?_modify]
  simp [h, bytesV, hj, List.map_set]
theorem Buf.of_bytes (w : World) (e : TypeId) (s : ByteArray) : Buf (Lib.bytesWorld w e s) w.heap.size s.data.toList e := by
  refine ⟨List.replicate (grownCap w s.size 0 e - s.size) (.int .u8 0), ((Lib.bytesCells w e s).size, (Lib.bytesCells w e s).size + 1), ?_, .inr ?_⟩
  · rw [Lib.bytesWorld_at_new]
    congr 2
    apply Array.ext'
    simp [Lib.bytesCells, bytesV]
  · unfold Lib.bytesCells; simp
theorem upd_bytes (w : World) (e : TypeId) (s : ByteArray) : Upd none' w (Lib.bytesWorld w e s) :=
  ⟨rfl, rfl, by rw [Lib.bytesWorld_size]; omega, fun k hk _ => Lib.bytesWorld_at_old w e s k hk⟩
theorem str_of_bytes (l : List UInt8) : strOfNums (l.map fun c => (c.toNat : Int)) = ⟨l.toArray⟩ := by
  simp [strOfNums, Function.comp_def]
theorem run_string_buf {P : Program} {w : World} {b : Nat} {l : List UInt8} {t : TypeId} (h : Buf w b l t) (src e dst : TypeId) (hs : P.underlying src = some (.slice e)) (he : P.underlying e = some (.int .u8)) (hd : P.underlying dst = some .string) (n cap : Nat) (hn : l.length = n) :
    (convert src dst (.slice (some ⟨b, 0, none⟩) n cap)).run P w = .ok (.string ⟨l.toArray⟩) w := by
  have := run_convert_bytes_arg (P := P) w src e hs he b 0 n cap (l.map fun c => (c.toNat : Int)) (by simpa using hn) (fun i hi => by
    rw [Nat.zero_add, h.cell (by omega)]
    simp [List.getD_eq_getElem?_getD, List.getElem?_eq_getElem (show i < l.length by omega)]) dst hd
  rw [str_of_bytes] at this
  exact this
theorem str_at (s : ByteArray) (j : Nat) (h : j < s.size) : s.data.toList.getD j 0 = s[j] := by
  obtain ⟨⟨l⟩⟩ := s
  simp only [ByteArray.size, List.size_toArray] at h
  simp [List.getD_eq_getElem?_getD, List.getElem?_eq_getElem h]
  rfl
theorem str_nonempty (s : ByteArray) (h : 0 < s.size) : s.toList.isEmpty = false := by
  rw [← decide_eq_emptyBytes]
  refine decide_eq_false fun e => ?_
  rw [e] at h; simp at h
end Go.Proofs.YteombggfmeilaaaGreat
namespace Go.Proofs.YteombggfmeilaaaGreat
open Go.RowKit
def Row (w : World) (e : TypeId) (v : Value) (xs : List Value) : Prop := w.ownsRow 0 e 1 v xs.length xs
theorem Row.nil (w : World) (e : TypeId) : Row w e (.slice none 0 0) [] := World.ownsRow_nil _ _ _ _
theorem Row.upd {S : Nat → Prop} {w w' : World} {e : TypeId} {v : Value} {xs : List Value} (h : Row w e v xs) (u : Upd S w w') (hS : ∀ k, v.ownBlock = some k → ¬ S k) : Row w' e v xs := by
  obtain ⟨h1, h2⟩ := h
  refine ⟨h1, ?_⟩
  rcases h2 with h2 | ⟨g, cap, cur, hv, hg, hh, r⟩
  · exact Or.inl h2
  · exact Or.inr ⟨g, cap, cur, hv, hg, by rw [u.block g (Array.getElem?_eq_some_iff.1 hh).1 (hS g (by rw [hv]; rfl))]; exact hh, r⟩
theorem Row.form {w : World} {e : TypeId} {v : Value} {xs : List Value} (h : Row w e v xs) :
    ∃ ao cap, v = .slice ao xs.length cap ∧ xs.length ≤ cap ∧ (ao = none → xs = [] ∧ cap = 0) ∧ (∀ ad, ao = some ad → ∃ g, ad = ⟨g, 0, none⟩ ∧ v.ownBlock = some g ∧ g < w.heap.size ∧ (∀ j, j < xs.length → w.cell? ⟨g, j, none⟩ = xs[j]?) ∧ ∀ j, w.frozen? ⟨g, j, none⟩ = false) := by
  have h0 := h
  obtain ⟨h1, h2⟩ := h
  rcases h2 with ⟨hv, hn⟩ | ⟨g, cap, cur, hv, hg, hh, r1, r2, r3, r4⟩
  · refine ⟨none, 0, by rw [hv, hn], by omega, fun _ => ⟨List.eq_nil_of_length_eq_zero hn, rfl⟩, fun ad h => by cases h⟩
  · subst hv
    refine ⟨some ⟨g, 0, none⟩, cap, rfl, r1, fun h => (by cases h), fun ad had => ?_⟩
    cases had
    refine ⟨g, rfl, rfl, (Array.getElem?_eq_some_iff.1 hh).1, fun j hj => World.ownsRow.cellAt h0 j (by omega), fun j => World.ownsRow.frozenAt h0 j⟩
theorem Row.lt {w : World} {e : TypeId} {v : Value} {xs : List Value} (h : Row w e v xs) : ∀ k, v.ownBlock = some k → k < w.heap.size := fun k hk => (World.ownsRow.lt h k hk).2
theorem wpList_app {P : Program} {w : World} {ops : Array Oper} {rest : List Oper} {o : Oper} {a : Act} {Q : Exit → Act → World → Prop} (hgd : o.guard = none) (s x : Operand) (t : TypeId)
    (ho : o.op = .call { callee := .builtin .append, args := #[s, x], argTypes := #[t, t] })
    (e : TypeId) (z : Value) (bytes : Nat) (ht : P.underlying t = some (.slice e)) (hi : (P.info? e).map (fun i => (i.zero, i.size, i.bytes)) = some (some z, 1, bytes)) (hzs : z.cells.size = 1)
    (v : Value) (xs : List Value) (hs : a.eval s = v) (hown : Row w e v xs)
    (ad : Addr) (m c : Nat) (news : List Value) (hx : a.eval x = .slice (some ad) m c) (hl : news.length = m) (hnews : ∀ j u, news[j]? = some u → w.cell? (ad.add j) = some u) (h1 : ∀ u ∈ news, u.oneCell' = true)
    (hm : 0 < m) (hlen : xs.length ≤ 17592186044416) (hlm : m ≤ 1048576) (hbytes : (xs.length + m) * bytes ≤ 140737488355328)
    (h : ∀ g cap w', Row w' e (.slice (some ⟨g, 0, none⟩) (xs.length + m) cap) (xs ++ news) → Upd (fun k => v.ownBlock = some k) w w' → (v.ownBlock = some g ∨ g = w.heap.size) → g < w'.heap.size → wpList P ops Q rest (a.put o.dst (.slice (some ⟨g, 0, none⟩) (xs.length + m) cap)) w') : wpList P ops Q (o :: rest) a w := by
  obtain ⟨i0, hi0, hz0, hz1, hz2⟩ := info_parts hi
  refine wpList_append_lies w hgd s x t ho 0 e i0 z 1 bytes ht hi0 hz0 hz1 hz2 hzs (by decide) v xs.length xs hs hown ad m c news hx (by omega) hnews h1 hm (by unfold maxLen; omega) hbytes (Nat.zero_le _) w.heap.size rfl ?_
  intro g cap w' h2 h3 h4 h5
  refine h g cap w' ?_ ((Upd.refl _ w).grown h3 (fun k hk _ => hk)) h4 h5
  unfold Row
  rw [List.length_append, hl]; exact h2
theorem wpList_app1 {P : Program} {w : World} {ops : Array Oper} {rest : List Oper} {o : Oper} {a : Act} {Q : Exit → Act → World → Prop} (hgd : o.guard = none) (s x : Operand) (t : TypeId)
    (ho : o.op = .call { callee := .builtin .append, args := #[s, x], argTypes := #[t, t] })
    (e : TypeId) (z : Value) (bytes : Nat) (ht : P.underlying t = some (.slice e)) (hi : (P.info? e).map (fun i => (i.zero, i.size, i.bytes)) = some (some z, 1, bytes)) (hzs : z.cells.size = 1)
    (v : Value) (xs : List Value) (n : Nat) (hn : xs.length = n) (hs : a.eval s = v) (w0 : World) (u : Value) (hA : w.Alike (w0.alloc (.cells #[u] e))) (hown : Row w0 e v xs)
    (hx : a.eval x = .slice (some ⟨w0.heap.size, 0, none⟩) 1 1) (hu : u.oneCell' = true) (hlen : n ≤ 17592186044415) (hbytes : (n + 1) * bytes ≤ 140737488355328)
    (h : ∀ g cap w', Row w' e (.slice (some ⟨g, 0, none⟩) (n + 1) cap) (xs ++ [u]) → Upd (fun k => v.ownBlock = some k) w0 w' → (v.ownBlock = some g ∨ w0.heap.size ≤ g) → g < w'.heap.size → wpList P ops Q rest (a.put o.dst (.slice (some ⟨g, 0, none⟩) (n + 1) cap)) w') : wpList P ops Q (o :: rest) a w := by
  subst hn
  have hU : Upd none' w0 w := ((Upd.refl none' w0).alloc _).alike hA
  refine wpList_app hgd s x t ho e z bytes ht hi hzs v xs hs (hown.upd hU (fun _ _ f => f)) ⟨w0.heap.size, 0, none⟩ 1 1 [u] hx rfl ?_ ?_ (by decide) (by omega) (by decide) hbytes ?_
  · intro j u' hj
    match j, hj with
    | 0, hj =>
      simp at hj; subst hj
      have := (Blk.new w0 [u] e).alike hA
      have := this.cell 0
      simpa [Addr.add] using this
    | j + 1, hj => simp at hj
  · intro u' hu'
    simp at hu'; subst hu'; exact hu
  · intro g cap w' h1 h2 h3 h4
    refine h g cap w' h1 ((hU.mono (fun _ _ f => f.elim)).trans h2 (fun _ _ k => k)) ?_ h4
    rcases h3 with h3 | h3
    · exact .inl h3
    · exact .inr (by rw [h3]; exact hU.size)
theorem wpList_appS {P : Program} {w : World} {ops : Array Oper} {rest : List Oper} {o : Oper} {a : Act} {Q : Exit → Act → World → Prop} (hgd : o.guard = none) (s x : Operand) (t : TypeId)
    (ho : o.op = .call { callee := .builtin .append, args := #[s, x], argTypes := #[t, t] })
    (e : TypeId) (z : Value) (bytes : Nat) (ht : P.underlying t = some (.slice e)) (hi : (P.info? e).map (fun i => (i.zero, i.size, i.bytes)) = some (some z, 1, bytes)) (hzs : z.cells.size = 1)
    (base : Nat) (v : Value) (n : Nat) (xs : List Value) (hs : a.eval s = v) (hown : w.ownsRow base e 1 v n xs)
    (ao : Option Addr) (ad : Addr) (m c : Nat) (news : List Value) (hx : a.eval x = .slice ao m c) (hao : ao = some ad) (hl : news.length = m) (hnews : ∀ j u, news[j]? = some u → w.cell? (ad.add j) = some u) (h1 : ∀ u ∈ news, u.oneCell' = true)
    (hlen : n + m ≤ 17592186044416) (hbytes : (n + m) * bytes ≤ 140737488355328) (hbase : base ≤ w.heap.size)
    (h : ∀ v' w', w'.ownsRow base e 1 v' (n + m) (xs ++ news) → Upd (fun k => v.ownBlock = some k) w w' → wpList P ops Q rest (a.put o.dst v') w') : wpList P ops Q (o :: rest) a w := by
  obtain ⟨i0, hi0, hz0, hz1, hz2⟩ := info_parts hi
  subst hao
  refine wpList_append_own w hgd s x t ho base e i0 z 1 bytes ht hi0 hz0 hz1 hz2 hzs (by decide) v n xs hs hown ad m c news hx (by omega) hnews h1 (by unfold maxLen; omega) hbytes hbase ?_
  intro v' w' h2 h3 _
  exact h v' w' h2 ((Upd.refl _ w).grown h3 (fun k hk _ => hk))
theorem Row.of_own {w : World} {base : Nat} {e : TypeId} {v : Value} {n : Nat} {xs : List Value} (h : w.ownsRow base e 1 v n xs) : Row w e v xs ∧ ∀ k, v.ownBlock = some k → base ≤ k := by
  refine ⟨?_, fun k hk => (World.ownsRow.lt h k hk).1⟩
  have hn := h.1
  obtain ⟨h1, h2⟩ := h
  have hx : xs.length = n := by omega
  subst hx
  refine ⟨by omega, ?_⟩
  rcases h2 with h2 | ⟨g, cap, cur, hv, hg, r⟩
  · exact .inl h2
  · exact .inr ⟨g, cap, cur, hv, Nat.zero_le _, r⟩
theorem own_empty (w : World) (e : TypeId) : (w.alloc (.cells #[] e)).ownsRow w.heap.size e 1 (.slice (some ⟨w.heap.size, 0, none⟩) 0 0) 0 [] :=
  World.ownsRow_made w #[] 0 (Nat.le_refl _) (by unfold maxLen; omega) (by simp)
end Go.Proofs.YteombggfmeilaaaGreat
namespace Go.Proofs.YteombggfmeilaaaGreat
open Go.RowKit
theorem info_int : (Tryz.prog.info? 3).map (fun i => (i.zero, i.size, i.bytes)) = some (some (.int .i64 0), 1, 8) := by kernel_rfl
def ints (xs : List Int) : List Value := xs.map (Value.int .i64)
theorem ints_one (xs : List Int) : ∀ u ∈ ints xs, u.oneCell' = true := by
  intro u hu; simp [ints] at hu; obtain ⟨s, _, rfl⟩ := hu; rfl
theorem ints_app (xs ys : List Int) : ints (xs ++ ys) = ints xs ++ ints ys := by simp [ints]
theorem ints_len (xs : List Int) : (ints xs).length = xs.length := by simp [ints]
theorem ints_set (l : List Int) (i : Nat) (x : Int) : (ints l).set i (.int .i64 x) = ints (l.set i x) := by simp [ints, List.map_set]
theorem ints_at (l : List Int) (i : Nat) (h : i < l.length) : (ints l)[i]? = some (.int .i64 (l.getD i 0)) := by simp [ints, List.getD_eq_getElem?_getD, List.getElem?_eq_getElem h]
end Go.Proofs.YteombggfmeilaaaGreat
namespace Go.Proofs.YteombggfmeilaaaGreat
open Go.RowKit
def RS (w : World) (v : Value) (vs : List Value) : Prop :=
  vs.length * 8 ≤ 140737488351232 ∧ ∃ a cap, v = .slice a vs.length cap ∧ vs.length ≤ cap ∧
    (vs ≠ [] → ∃ b o, a = some ⟨b, o, none⟩ ∧ b < w.heap.size ∧ ∀ j, j < vs.length → w.cell? ⟨b, o + j, none⟩ = vs[j]?)
theorem RS.upd {S : Nat → Prop} {w w' : World} {v : Value} {xs : List Value} (h : RS w v xs) (u : Upd S w w') (hS : ∀ k, k < w.heap.size → v.ownBlock = some k → ¬ S k) : RS w' v xs := by
  obtain ⟨h1, a, cap, h3, h4, h5⟩ := h
  refine ⟨h1, a, cap, h3, h4, fun hn => ?_⟩
  obtain ⟨b, o, h6, h7, h8⟩ := h5 hn
  exact ⟨b, o, h6, Nat.lt_of_lt_of_le h7 u.size, fun j hj => by rw [u.cell (p := ⟨b, o + j, none⟩) h7 (hS b h7 (by rw [h3, h6]; rfl))]; exact h8 j hj⟩
theorem RS.nil (w : World) : RS w (.slice none 0 0) [] := ⟨by decide, none, 0, rfl, Nat.le_refl _, fun h => absurd rfl h⟩
theorem Row.rs {w : World} {e : TypeId} {v : Value} {xs : List Value} (h : Row w e v xs) (hl : xs.length ≤ 1048576) : RS w v xs := by
  obtain ⟨ao, cap, rfl, hc, hn, hs⟩ := h.form
  refine ⟨by omega, ao, cap, rfl, hc, fun hne => ?_⟩
  cases ao with
  | none => exact absurd (hn rfl).1 hne
  | some ad =>
    obtain ⟨g, rfl, h1, h2, h3, h4⟩ := hs ad rfl
    exact ⟨g, 0, rfl, h2, fun j hj => by rw [Nat.zero_add]; exact h3 j hj⟩
end Go.Proofs.YteombggfmeilaaaGreat
namespace Go.Proofs.YteombggfmeilaaaGreat
open Go.RowKit
structure UW (w : World) where
  val : World
  upd : Upd none' w val
instance instUW (w : World) : Inhabited (UW w) := ⟨⟨w, Upd.refl _ _⟩⟩
theorem wp_region_upd_lit {P : Program} {id : Nat} {Q : Exit → Act → World → Prop} {a : Act} {w : World} {l : List Oper} (w0 : World) (hw : Upd none' w0 w) (hm : P.follows .mixedOrders = true) (hB : Region.lexB .any l.toArray = true)
    (h : wpQuiet P l.toArray (fun w' => ∃ u : UW w0, w' = u.val) (fun a' => ∀ w', (∃ u : UW w0, w' = u.val) → Q .normal a' w') l a) : (Code.region id l.toArray true).wp P Q a w :=
  wp_region_quiet (C := fun w' => ∃ u : UW w0, w' = u.val) hm hB ⟨⟨_, hw.drew⟩, rfl⟩ (by simpa using h)
theorem quiet_upd {P : Program} {f : FuncId} {args : Array Value} {w0 : World} {u : UW w0} {v : Value} (h : Calls P f args u.val fun e w' => e = .returned v ∧ Upd none' u.val w') :
    Calls P f args u.val fun e w'' => e = .returned v ∧ ∃ u' : UW w0, w'' = u'.val :=
  h.mono fun _ w' ⟨he, hu⟩ => ⟨he, ⟨w', u.upd.trans hu (fun _ _ f => f)⟩, rfl⟩
theorem quiet_same {P : Program} {f : FuncId} {args : Array Value} {w0 : World} {u : UW w0} {v : Value} (h : Calls P f args u.val fun e w' => e = .returned v ∧ w' = u.val) :
    Calls P f args u.val fun e w'' => e = .returned v ∧ ∃ u' : UW w0, w'' = u'.val :=
  h.mono fun _ _ ⟨he, hu⟩ => ⟨he, u, hu⟩
end Go.Proofs.YteombggfmeilaaaGreat
