/-
  No cell of these rows narrows 'for every input' (looked for: loops, veiled, ifaces, maps, wideKeys, modest, calm, conditions, laid).
  DERIVED. THE GIVEN ROWS OF THIS SEAT. 8 by the template 'for every input the law returns true; each argument reads behind the call as it read before'; 0 by the template 'total and deterministic' (their statements: YtjdjdfllggpckaaGreatTotals.lean).
  GIVEN WITH THE SEED: the statements are not yours to turn. If you find one false, say at which input.
  Laid BY PROGRAM, IN A SANDBOX (cutbox-rows.mjs): the forced cells as the released guide's own fill.sh prints them over the translation b60ca60d1684864c… (all of the seat's roots in one cut). By AI agents, Wed Nov 11 2026. No macro, syntax, notation, axiom, sorry.
-/
import Derived.Test.YtjdjdfllggpckaaGreatChecked
import GoSem.Claim
import GoSem.ClaimJoined
import GoSem.ClaimMapViews
import Derived.JoinedTies
import Derived.KernelRfl
namespace Go.Proofs.YtjdjdfllggpckaaGreat
/- THE CELL 'sum', in the pinned program and in every row, IS THE sha256 OF THE DUMP (.gsa) THAT YtjdjdfllggpckaaGreatProg.lean LOADS. Nothing in Lean hashes anything: it is a label: what it is worth is what the hold of that sum in a sandbox is worth. -/
noncomputable def Tryz.pinned : Pinned := { name := "ytjdjdfllggpckaagreat", sum := "b60ca60d1684864c2e0e827df9084145ada8f3bafe7724da4c9c816181b44b7d", checked := Tryz.checked }
namespace Rows
def none {H : Type} : Left H := { results := [], args := [] }

/-- 'lichenlaw6.ChipReads': WHATEVER THE INPUT: true; the input reads as it did. -/
def chipReadsSpec : ChangeSpec := { name := "chipReads", fn := fun _ => fun
  | [d1, d2, d3] => { results := [.lit (.bool true)], args := [d1, d2, d3] }
  | _ => none }
def chipReadsRow : OpenClaim := { program := "ytjdjdfllggpckaagreat", sum := "b60ca60d1684864c2e0e827df9084145ada8f3bafe7724da4c9c816181b44b7d", func := "lichen/lichenlaw6.ChipReads", spec := "chipReads", inPlace := ["internal/abi.NoEscape", "internal/bytealg.MakeNoZero", "sync/atomic.LoadUint32", "(*internal/sync.Mutex).Lock", "internal/race.Disable", "sync/atomic.CompareAndSwapInt32", "internal/race.Enable", "internal/race.Acquire", "(*internal/sync.Mutex).lockSlow", "internal/sync.runtime_canSpin", "internal/sync.runtime_doSpin", "internal/sync.throw", "internal/sync.runtime_nanotime", "internal/sync.runtime_SemacquireMutex", "sync/atomic.AddInt32", "(*internal/sync.Mutex).Unlock", "internal/race.ReleaseMerge", "(*internal/sync.Mutex).unlockSlow", "internal/sync.fatal", "internal/sync.runtime_Semrelease", "sync/atomic.StoreUint32"], unfollowed := true, recurses := true, apart := false }
def ChipReadsSaid : Prop := chipReadsRow.holds Tryz.pinned (OpenSpec.ofChange chipReadsSpec)

/-- ITS FALSE NEIGHBOUR: 'it returns false'. Refute it at one input. -/
def chipReadsWrong : ChangeSpec := { name := "chipReads", fn := fun _ => fun
  | [d1, d2, d3] => { results := [.lit (.bool false)], args := [d1, d2, d3] }
  | _ => none }
def ChipReadsWrongFalsely : Prop := chipReadsRow.holds Tryz.pinned (OpenSpec.ofChange chipReadsWrong)

/-- 'lichenlaw6.ChipSuspends': WHATEVER THE INPUT: true; the input reads as it did. -/
def chipSuspendsSpec : ChangeSpec := { name := "chipSuspends", fn := fun _ => fun
  | [d1, d2, d3] => { results := [.lit (.bool true)], args := [d1, d2, d3] }
  | _ => none }
def chipSuspendsRow : OpenClaim := { program := "ytjdjdfllggpckaagreat", sum := "b60ca60d1684864c2e0e827df9084145ada8f3bafe7724da4c9c816181b44b7d", func := "lichen/lichenlaw6.ChipSuspends", spec := "chipSuspends", inPlace := ["internal/abi.NoEscape", "internal/bytealg.MakeNoZero", "sync/atomic.LoadUint32", "(*internal/sync.Mutex).Lock", "internal/race.Disable", "sync/atomic.CompareAndSwapInt32", "internal/race.Enable", "internal/race.Acquire", "(*internal/sync.Mutex).lockSlow", "internal/sync.runtime_canSpin", "internal/sync.runtime_doSpin", "internal/sync.throw", "internal/sync.runtime_nanotime", "internal/sync.runtime_SemacquireMutex", "sync/atomic.AddInt32", "(*internal/sync.Mutex).Unlock", "internal/race.ReleaseMerge", "(*internal/sync.Mutex).unlockSlow", "internal/sync.fatal", "internal/sync.runtime_Semrelease", "sync/atomic.StoreUint32"], unfollowed := true, recurses := true, apart := false }
def ChipSuspendsSaid : Prop := chipSuspendsRow.holds Tryz.pinned (OpenSpec.ofChange chipSuspendsSpec)

/-- ITS FALSE NEIGHBOUR: 'it returns false'. Refute it at one input. -/
def chipSuspendsWrong : ChangeSpec := { name := "chipSuspends", fn := fun _ => fun
  | [d1, d2, d3] => { results := [.lit (.bool false)], args := [d1, d2, d3] }
  | _ => none }
def ChipSuspendsWrongFalsely : Prop := chipSuspendsRow.holds Tryz.pinned (OpenSpec.ofChange chipSuspendsWrong)

/-- 'lichenlaw6.ChipId': WHATEVER THE INPUT: true; the input reads as it did. -/
def chipIdSpec : ChangeSpec := { name := "chipId", fn := fun _ => fun
  | [d1, d2] => { results := [.lit (.bool true)], args := [d1, d2] }
  | _ => none }
def chipIdRow : OpenClaim := { program := "ytjdjdfllggpckaagreat", sum := "b60ca60d1684864c2e0e827df9084145ada8f3bafe7724da4c9c816181b44b7d", func := "lichen/lichenlaw6.ChipId", spec := "chipId", inPlace := ["internal/abi.NoEscape", "internal/bytealg.MakeNoZero", "sync/atomic.LoadUint32", "(*internal/sync.Mutex).Lock", "internal/race.Disable", "sync/atomic.CompareAndSwapInt32", "internal/race.Enable", "internal/race.Acquire", "(*internal/sync.Mutex).lockSlow", "internal/sync.runtime_canSpin", "internal/sync.runtime_doSpin", "internal/sync.throw", "internal/sync.runtime_nanotime", "internal/sync.runtime_SemacquireMutex", "sync/atomic.AddInt32", "(*internal/sync.Mutex).Unlock", "internal/race.ReleaseMerge", "(*internal/sync.Mutex).unlockSlow", "internal/sync.fatal", "internal/sync.runtime_Semrelease", "sync/atomic.StoreUint32"], unfollowed := true, recurses := true, apart := false }
def ChipIdSaid : Prop := chipIdRow.holds Tryz.pinned (OpenSpec.ofChange chipIdSpec)

/-- ITS FALSE NEIGHBOUR: 'it returns false'. Refute it at one input. -/
def chipIdWrong : ChangeSpec := { name := "chipId", fn := fun _ => fun
  | [d1, d2] => { results := [.lit (.bool false)], args := [d1, d2] }
  | _ => none }
def ChipIdWrongFalsely : Prop := chipIdRow.holds Tryz.pinned (OpenSpec.ofChange chipIdWrong)

/-- 'lichenlaw6.ChipSfdp': WHATEVER THE INPUT: true; the input reads as it did. -/
def chipSfdpSpec : ChangeSpec := { name := "chipSfdp", fn := fun _ => fun
  | [d1, d2] => { results := [.lit (.bool true)], args := [d1, d2] }
  | _ => none }
def chipSfdpRow : OpenClaim := { program := "ytjdjdfllggpckaagreat", sum := "b60ca60d1684864c2e0e827df9084145ada8f3bafe7724da4c9c816181b44b7d", func := "lichen/lichenlaw6.ChipSfdp", spec := "chipSfdp", inPlace := ["internal/abi.NoEscape", "internal/bytealg.MakeNoZero", "sync/atomic.LoadUint32", "(*internal/sync.Mutex).Lock", "internal/race.Disable", "sync/atomic.CompareAndSwapInt32", "internal/race.Enable", "internal/race.Acquire", "(*internal/sync.Mutex).lockSlow", "internal/sync.runtime_canSpin", "internal/sync.runtime_doSpin", "internal/sync.throw", "internal/sync.runtime_nanotime", "internal/sync.runtime_SemacquireMutex", "sync/atomic.AddInt32", "(*internal/sync.Mutex).Unlock", "internal/race.ReleaseMerge", "(*internal/sync.Mutex).unlockSlow", "internal/sync.fatal", "internal/sync.runtime_Semrelease", "sync/atomic.StoreUint32"], unfollowed := true, recurses := true, apart := false }
def ChipSfdpSaid : Prop := chipSfdpRow.holds Tryz.pinned (OpenSpec.ofChange chipSfdpSpec)

/-- ITS FALSE NEIGHBOUR: 'it returns false'. Refute it at one input. -/
def chipSfdpWrong : ChangeSpec := { name := "chipSfdp", fn := fun _ => fun
  | [d1, d2] => { results := [.lit (.bool false)], args := [d1, d2] }
  | _ => none }
def ChipSfdpWrongFalsely : Prop := chipSfdpRow.holds Tryz.pinned (OpenSpec.ofChange chipSfdpWrong)

/-- 'lichenlaw6.ChipGoes': WHATEVER THE INPUT: true; the input reads as it did. -/
def chipGoesSpec : ChangeSpec := { name := "chipGoes", fn := fun _ => fun
  | [d1, d2] => { results := [.lit (.bool true)], args := [d1, d2] }
  | _ => none }
def chipGoesRow : OpenClaim := { program := "ytjdjdfllggpckaagreat", sum := "b60ca60d1684864c2e0e827df9084145ada8f3bafe7724da4c9c816181b44b7d", func := "lichen/lichenlaw6.ChipGoes", spec := "chipGoes", inPlace := ["internal/abi.NoEscape", "internal/bytealg.MakeNoZero", "sync/atomic.LoadUint32", "(*internal/sync.Mutex).Lock", "internal/race.Disable", "sync/atomic.CompareAndSwapInt32", "internal/race.Enable", "internal/race.Acquire", "(*internal/sync.Mutex).lockSlow", "internal/sync.runtime_canSpin", "internal/sync.runtime_doSpin", "internal/sync.throw", "internal/sync.runtime_nanotime", "internal/sync.runtime_SemacquireMutex", "sync/atomic.AddInt32", "(*internal/sync.Mutex).Unlock", "internal/race.ReleaseMerge", "(*internal/sync.Mutex).unlockSlow", "internal/sync.fatal", "internal/sync.runtime_Semrelease", "sync/atomic.StoreUint32"], unfollowed := true, recurses := true, apart := false }
def ChipGoesSaid : Prop := chipGoesRow.holds Tryz.pinned (OpenSpec.ofChange chipGoesSpec)

/-- ITS FALSE NEIGHBOUR: 'it returns false'. Refute it at one input. -/
def chipGoesWrong : ChangeSpec := { name := "chipGoes", fn := fun _ => fun
  | [d1, d2] => { results := [.lit (.bool false)], args := [d1, d2] }
  | _ => none }
def ChipGoesWrongFalsely : Prop := chipGoesRow.holds Tryz.pinned (OpenSpec.ofChange chipGoesWrong)

/-- 'lichenlaw6.ChipGuards': WHATEVER THE INPUT: true; the input reads as it did. -/
def chipGuardsSpec : ChangeSpec := { name := "chipGuards", fn := fun _ => fun
  | [d1, d2] => { results := [.lit (.bool true)], args := [d1, d2] }
  | _ => none }
def chipGuardsRow : OpenClaim := { program := "ytjdjdfllggpckaagreat", sum := "b60ca60d1684864c2e0e827df9084145ada8f3bafe7724da4c9c816181b44b7d", func := "lichen/lichenlaw6.ChipGuards", spec := "chipGuards", inPlace := ["internal/abi.NoEscape", "internal/bytealg.MakeNoZero", "sync/atomic.LoadUint32", "(*internal/sync.Mutex).Lock", "internal/race.Disable", "sync/atomic.CompareAndSwapInt32", "internal/race.Enable", "internal/race.Acquire", "(*internal/sync.Mutex).lockSlow", "internal/sync.runtime_canSpin", "internal/sync.runtime_doSpin", "internal/sync.throw", "internal/sync.runtime_nanotime", "internal/sync.runtime_SemacquireMutex", "sync/atomic.AddInt32", "(*internal/sync.Mutex).Unlock", "internal/race.ReleaseMerge", "(*internal/sync.Mutex).unlockSlow", "internal/sync.fatal", "internal/sync.runtime_Semrelease", "sync/atomic.StoreUint32"], unfollowed := true, recurses := true, apart := false }
def ChipGuardsSaid : Prop := chipGuardsRow.holds Tryz.pinned (OpenSpec.ofChange chipGuardsSpec)

/-- ITS FALSE NEIGHBOUR: 'it returns false'. Refute it at one input. -/
def chipGuardsWrong : ChangeSpec := { name := "chipGuards", fn := fun _ => fun
  | [d1, d2] => { results := [.lit (.bool false)], args := [d1, d2] }
  | _ => none }
def ChipGuardsWrongFalsely : Prop := chipGuardsRow.holds Tryz.pinned (OpenSpec.ofChange chipGuardsWrong)

/-- 'lichenlaw6.ChipLoss': WHATEVER THE INPUT: true; the input reads as it did. -/
def chipLossSpec : ChangeSpec := { name := "chipLoss", fn := fun _ => fun
  | [d1, d2, d3] => { results := [.lit (.bool true)], args := [d1, d2, d3] }
  | _ => none }
def chipLossRow : OpenClaim := { program := "ytjdjdfllggpckaagreat", sum := "b60ca60d1684864c2e0e827df9084145ada8f3bafe7724da4c9c816181b44b7d", func := "lichen/lichenlaw6.ChipLoss", spec := "chipLoss", inPlace := ["internal/abi.NoEscape", "internal/bytealg.MakeNoZero", "sync/atomic.LoadUint32", "(*internal/sync.Mutex).Lock", "internal/race.Disable", "sync/atomic.CompareAndSwapInt32", "internal/race.Enable", "internal/race.Acquire", "(*internal/sync.Mutex).lockSlow", "internal/sync.runtime_canSpin", "internal/sync.runtime_doSpin", "internal/sync.throw", "internal/sync.runtime_nanotime", "internal/sync.runtime_SemacquireMutex", "sync/atomic.AddInt32", "(*internal/sync.Mutex).Unlock", "internal/race.ReleaseMerge", "(*internal/sync.Mutex).unlockSlow", "internal/sync.fatal", "internal/sync.runtime_Semrelease", "sync/atomic.StoreUint32"], unfollowed := true, recurses := true, apart := false }
def ChipLossSaid : Prop := chipLossRow.holds Tryz.pinned (OpenSpec.ofChange chipLossSpec)

/-- ITS FALSE NEIGHBOUR: 'it returns false'. Refute it at one input. -/
def chipLossWrong : ChangeSpec := { name := "chipLoss", fn := fun _ => fun
  | [d1, d2, d3] => { results := [.lit (.bool false)], args := [d1, d2, d3] }
  | _ => none }
def ChipLossWrongFalsely : Prop := chipLossRow.holds Tryz.pinned (OpenSpec.ofChange chipLossWrong)

/-- 'lichenlaw6.Chips': WHATEVER THE INPUT: true; the input reads as it did. -/
def chipsSpec : ChangeSpec := { name := "chips", fn := fun _ => fun
  | [d1, d2] => { results := [.lit (.bool true)], args := [d1, d2] }
  | _ => none }
def chipsRow : OpenClaim := { program := "ytjdjdfllggpckaagreat", sum := "b60ca60d1684864c2e0e827df9084145ada8f3bafe7724da4c9c816181b44b7d", func := "lichen/lichenlaw6.Chips", spec := "chips", inPlace := ["internal/abi.NoEscape", "internal/bytealg.MakeNoZero", "sync/atomic.LoadUint32", "(*internal/sync.Mutex).Lock", "internal/race.Disable", "sync/atomic.CompareAndSwapInt32", "internal/race.Enable", "internal/race.Acquire", "(*internal/sync.Mutex).lockSlow", "internal/sync.runtime_canSpin", "internal/sync.runtime_doSpin", "internal/sync.throw", "internal/sync.runtime_nanotime", "internal/sync.runtime_SemacquireMutex", "sync/atomic.AddInt32", "(*internal/sync.Mutex).Unlock", "internal/race.ReleaseMerge", "(*internal/sync.Mutex).unlockSlow", "internal/sync.fatal", "internal/sync.runtime_Semrelease", "sync/atomic.StoreUint32"], unfollowed := true, recurses := true, apart := false }
def ChipsSaid : Prop := chipsRow.holds Tryz.pinned (OpenSpec.ofChange chipsSpec)

/-- ITS FALSE NEIGHBOUR: 'it returns false'. Refute it at one input. -/
def chipsWrong : ChangeSpec := { name := "chips", fn := fun _ => fun
  | [d1, d2] => { results := [.lit (.bool false)], args := [d1, d2] }
  | _ => none }
def ChipsWrongFalsely : Prop := chipsRow.holds Tryz.pinned (OpenSpec.ofChange chipsWrong)

/- THE SECOND FORM. 'bulk': how many values and letters a reading holds, each counted each time it is reached (what is shared counts as often as it is met; a slice's spare places count too). A statement '..UptoSaid' is the law's where the arguments, and the package variables that the reading takes, are together of bulk at most 1048576: NARROWER than '..Said'. Prove '..Said' where nothing that the law and all that it calls make is longer than what came in: it says more and counts as full. Else prove '..UptoSaid'. A law counts once. -/
mutual
def uptoBulk {H : Type} : DataW H → Nat
  | .lit (.string bytes) => bytes.length + 1
  | .lit _ => 1
  | .nil => 1
  | .ptr d => uptoBulk d + 1
  | .slice elems spare => uptoBulkAll elems + uptoBulkAll spare + 1
  | .agg parts => uptoBulkAll parts + 1
  | .iface _ d => uptoBulk d + 1
  | .map entries => uptoBulkEntries entries + 1
  | .held _ => 1
def uptoBulkAll {H : Type} : List (DataW H) → Nat
  | [] => 0
  | d :: r => uptoBulk d + uptoBulkAll r
def uptoBulkEntries {H : Type} : List (Lit × DataW H) → Nat
  | [] => 0
  | x :: r => uptoBulkEntry x + uptoBulkEntries r
def uptoBulkEntry {H : Type} : Lit × DataW H → Nat
  | (.string bytes, d) => bytes.length + uptoBulk d + 1
  | (_, d) => uptoBulk d + 1
 end
def uptoSmall : (H : Type) → List (DataW H) → Bool := fun _ ds => decide (uptoBulkAll ds ≤ 1048576)
def OpenSpec.upto (s : _root_.Go.ChangeSpec) : _root_.Go.OpenSpec := { _root_.Go.OpenSpec.ofChange s with cond := some uptoSmall }

/-- 'lichenlaw6.ChipReads', WHERE WHAT IT READS IS OF BULK AT MOST 1048576: true; the input reads as it did. -/
def chipReadsUptoRow : OpenClaim := { program := "ytjdjdfllggpckaagreat", sum := "b60ca60d1684864c2e0e827df9084145ada8f3bafe7724da4c9c816181b44b7d", func := "lichen/lichenlaw6.ChipReads", spec := "chipReads", inPlace := ["internal/abi.NoEscape", "internal/bytealg.MakeNoZero", "sync/atomic.LoadUint32", "(*internal/sync.Mutex).Lock", "internal/race.Disable", "sync/atomic.CompareAndSwapInt32", "internal/race.Enable", "internal/race.Acquire", "(*internal/sync.Mutex).lockSlow", "internal/sync.runtime_canSpin", "internal/sync.runtime_doSpin", "internal/sync.throw", "internal/sync.runtime_nanotime", "internal/sync.runtime_SemacquireMutex", "sync/atomic.AddInt32", "(*internal/sync.Mutex).Unlock", "internal/race.ReleaseMerge", "(*internal/sync.Mutex).unlockSlow", "internal/sync.fatal", "internal/sync.runtime_Semrelease", "sync/atomic.StoreUint32"], unfollowed := true, recurses := true, apart := false, narrowed := true }
def ChipReadsUptoSaid : Prop := chipReadsUptoRow.holds Tryz.pinned (OpenSpec.upto chipReadsSpec)

/-- 'lichenlaw6.ChipSuspends', WHERE WHAT IT READS IS OF BULK AT MOST 1048576: true; the input reads as it did. -/
def chipSuspendsUptoRow : OpenClaim := { program := "ytjdjdfllggpckaagreat", sum := "b60ca60d1684864c2e0e827df9084145ada8f3bafe7724da4c9c816181b44b7d", func := "lichen/lichenlaw6.ChipSuspends", spec := "chipSuspends", inPlace := ["internal/abi.NoEscape", "internal/bytealg.MakeNoZero", "sync/atomic.LoadUint32", "(*internal/sync.Mutex).Lock", "internal/race.Disable", "sync/atomic.CompareAndSwapInt32", "internal/race.Enable", "internal/race.Acquire", "(*internal/sync.Mutex).lockSlow", "internal/sync.runtime_canSpin", "internal/sync.runtime_doSpin", "internal/sync.throw", "internal/sync.runtime_nanotime", "internal/sync.runtime_SemacquireMutex", "sync/atomic.AddInt32", "(*internal/sync.Mutex).Unlock", "internal/race.ReleaseMerge", "(*internal/sync.Mutex).unlockSlow", "internal/sync.fatal", "internal/sync.runtime_Semrelease", "sync/atomic.StoreUint32"], unfollowed := true, recurses := true, apart := false, narrowed := true }
def ChipSuspendsUptoSaid : Prop := chipSuspendsUptoRow.holds Tryz.pinned (OpenSpec.upto chipSuspendsSpec)

/-- 'lichenlaw6.ChipId', WHERE WHAT IT READS IS OF BULK AT MOST 1048576: true; the input reads as it did. -/
def chipIdUptoRow : OpenClaim := { program := "ytjdjdfllggpckaagreat", sum := "b60ca60d1684864c2e0e827df9084145ada8f3bafe7724da4c9c816181b44b7d", func := "lichen/lichenlaw6.ChipId", spec := "chipId", inPlace := ["internal/abi.NoEscape", "internal/bytealg.MakeNoZero", "sync/atomic.LoadUint32", "(*internal/sync.Mutex).Lock", "internal/race.Disable", "sync/atomic.CompareAndSwapInt32", "internal/race.Enable", "internal/race.Acquire", "(*internal/sync.Mutex).lockSlow", "internal/sync.runtime_canSpin", "internal/sync.runtime_doSpin", "internal/sync.throw", "internal/sync.runtime_nanotime", "internal/sync.runtime_SemacquireMutex", "sync/atomic.AddInt32", "(*internal/sync.Mutex).Unlock", "internal/race.ReleaseMerge", "(*internal/sync.Mutex).unlockSlow", "internal/sync.fatal", "internal/sync.runtime_Semrelease", "sync/atomic.StoreUint32"], unfollowed := true, recurses := true, apart := false, narrowed := true }
def ChipIdUptoSaid : Prop := chipIdUptoRow.holds Tryz.pinned (OpenSpec.upto chipIdSpec)

/-- 'lichenlaw6.ChipSfdp', WHERE WHAT IT READS IS OF BULK AT MOST 1048576: true; the input reads as it did. -/
def chipSfdpUptoRow : OpenClaim := { program := "ytjdjdfllggpckaagreat", sum := "b60ca60d1684864c2e0e827df9084145ada8f3bafe7724da4c9c816181b44b7d", func := "lichen/lichenlaw6.ChipSfdp", spec := "chipSfdp", inPlace := ["internal/abi.NoEscape", "internal/bytealg.MakeNoZero", "sync/atomic.LoadUint32", "(*internal/sync.Mutex).Lock", "internal/race.Disable", "sync/atomic.CompareAndSwapInt32", "internal/race.Enable", "internal/race.Acquire", "(*internal/sync.Mutex).lockSlow", "internal/sync.runtime_canSpin", "internal/sync.runtime_doSpin", "internal/sync.throw", "internal/sync.runtime_nanotime", "internal/sync.runtime_SemacquireMutex", "sync/atomic.AddInt32", "(*internal/sync.Mutex).Unlock", "internal/race.ReleaseMerge", "(*internal/sync.Mutex).unlockSlow", "internal/sync.fatal", "internal/sync.runtime_Semrelease", "sync/atomic.StoreUint32"], unfollowed := true, recurses := true, apart := false, narrowed := true }
def ChipSfdpUptoSaid : Prop := chipSfdpUptoRow.holds Tryz.pinned (OpenSpec.upto chipSfdpSpec)

/-- 'lichenlaw6.ChipGoes', WHERE WHAT IT READS IS OF BULK AT MOST 1048576: true; the input reads as it did. -/
def chipGoesUptoRow : OpenClaim := { program := "ytjdjdfllggpckaagreat", sum := "b60ca60d1684864c2e0e827df9084145ada8f3bafe7724da4c9c816181b44b7d", func := "lichen/lichenlaw6.ChipGoes", spec := "chipGoes", inPlace := ["internal/abi.NoEscape", "internal/bytealg.MakeNoZero", "sync/atomic.LoadUint32", "(*internal/sync.Mutex).Lock", "internal/race.Disable", "sync/atomic.CompareAndSwapInt32", "internal/race.Enable", "internal/race.Acquire", "(*internal/sync.Mutex).lockSlow", "internal/sync.runtime_canSpin", "internal/sync.runtime_doSpin", "internal/sync.throw", "internal/sync.runtime_nanotime", "internal/sync.runtime_SemacquireMutex", "sync/atomic.AddInt32", "(*internal/sync.Mutex).Unlock", "internal/race.ReleaseMerge", "(*internal/sync.Mutex).unlockSlow", "internal/sync.fatal", "internal/sync.runtime_Semrelease", "sync/atomic.StoreUint32"], unfollowed := true, recurses := true, apart := false, narrowed := true }
def ChipGoesUptoSaid : Prop := chipGoesUptoRow.holds Tryz.pinned (OpenSpec.upto chipGoesSpec)

/-- 'lichenlaw6.ChipGuards', WHERE WHAT IT READS IS OF BULK AT MOST 1048576: true; the input reads as it did. -/
def chipGuardsUptoRow : OpenClaim := { program := "ytjdjdfllggpckaagreat", sum := "b60ca60d1684864c2e0e827df9084145ada8f3bafe7724da4c9c816181b44b7d", func := "lichen/lichenlaw6.ChipGuards", spec := "chipGuards", inPlace := ["internal/abi.NoEscape", "internal/bytealg.MakeNoZero", "sync/atomic.LoadUint32", "(*internal/sync.Mutex).Lock", "internal/race.Disable", "sync/atomic.CompareAndSwapInt32", "internal/race.Enable", "internal/race.Acquire", "(*internal/sync.Mutex).lockSlow", "internal/sync.runtime_canSpin", "internal/sync.runtime_doSpin", "internal/sync.throw", "internal/sync.runtime_nanotime", "internal/sync.runtime_SemacquireMutex", "sync/atomic.AddInt32", "(*internal/sync.Mutex).Unlock", "internal/race.ReleaseMerge", "(*internal/sync.Mutex).unlockSlow", "internal/sync.fatal", "internal/sync.runtime_Semrelease", "sync/atomic.StoreUint32"], unfollowed := true, recurses := true, apart := false, narrowed := true }
def ChipGuardsUptoSaid : Prop := chipGuardsUptoRow.holds Tryz.pinned (OpenSpec.upto chipGuardsSpec)

/-- 'lichenlaw6.ChipLoss', WHERE WHAT IT READS IS OF BULK AT MOST 1048576: true; the input reads as it did. -/
def chipLossUptoRow : OpenClaim := { program := "ytjdjdfllggpckaagreat", sum := "b60ca60d1684864c2e0e827df9084145ada8f3bafe7724da4c9c816181b44b7d", func := "lichen/lichenlaw6.ChipLoss", spec := "chipLoss", inPlace := ["internal/abi.NoEscape", "internal/bytealg.MakeNoZero", "sync/atomic.LoadUint32", "(*internal/sync.Mutex).Lock", "internal/race.Disable", "sync/atomic.CompareAndSwapInt32", "internal/race.Enable", "internal/race.Acquire", "(*internal/sync.Mutex).lockSlow", "internal/sync.runtime_canSpin", "internal/sync.runtime_doSpin", "internal/sync.throw", "internal/sync.runtime_nanotime", "internal/sync.runtime_SemacquireMutex", "sync/atomic.AddInt32", "(*internal/sync.Mutex).Unlock", "internal/race.ReleaseMerge", "(*internal/sync.Mutex).unlockSlow", "internal/sync.fatal", "internal/sync.runtime_Semrelease", "sync/atomic.StoreUint32"], unfollowed := true, recurses := true, apart := false, narrowed := true }
def ChipLossUptoSaid : Prop := chipLossUptoRow.holds Tryz.pinned (OpenSpec.upto chipLossSpec)

/-- 'lichenlaw6.Chips', WHERE WHAT IT READS IS OF BULK AT MOST 1048576: true; the input reads as it did. -/
def chipsUptoRow : OpenClaim := { program := "ytjdjdfllggpckaagreat", sum := "b60ca60d1684864c2e0e827df9084145ada8f3bafe7724da4c9c816181b44b7d", func := "lichen/lichenlaw6.Chips", spec := "chips", inPlace := ["internal/abi.NoEscape", "internal/bytealg.MakeNoZero", "sync/atomic.LoadUint32", "(*internal/sync.Mutex).Lock", "internal/race.Disable", "sync/atomic.CompareAndSwapInt32", "internal/race.Enable", "internal/race.Acquire", "(*internal/sync.Mutex).lockSlow", "internal/sync.runtime_canSpin", "internal/sync.runtime_doSpin", "internal/sync.throw", "internal/sync.runtime_nanotime", "internal/sync.runtime_SemacquireMutex", "sync/atomic.AddInt32", "(*internal/sync.Mutex).Unlock", "internal/race.ReleaseMerge", "(*internal/sync.Mutex).unlockSlow", "internal/sync.fatal", "internal/sync.runtime_Semrelease", "sync/atomic.StoreUint32"], unfollowed := true, recurses := true, apart := false, narrowed := true }
def ChipsUptoSaid : Prop := chipsUptoRow.holds Tryz.pinned (OpenSpec.upto chipsSpec)

end Rows
end Go.Proofs.YtjdjdfllggpckaaGreat
