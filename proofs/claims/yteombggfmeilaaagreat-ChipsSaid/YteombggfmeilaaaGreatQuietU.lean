/- A region whose operations only read and whose callees leave what was there as it was: walked once. -/
import Derived.Test.YteombggfmeilaaaGreatCtx
import Derived.Deep.QuietTactic
namespace Go.Proofs.YteombggfmeilaaaGreat
open Go.RowKit
/-- A world in which all that was in w is as it was. -/
structure Uw (w : World) where
  it : World
  u : Upd none' w it
instance (w : World) : Inhabited (Uw w) := ⟨⟨w, Upd.refl none' w⟩⟩
theorem wp_region_quiet_upd {P : Program} {id : Nat} {Q : Exit → Act → World → Prop} {a : Act} {w : World} {l : List Oper} (hm : P.follows .mixedOrders = true) (hB : Region.lexB .any l.toArray = true)
    (h : wpQuiet P l.toArray (fun w' => ∃ p : Uw w, w' = p.it) (fun a' => ∀ w', (∃ p : Uw w, w' = p.it) → Q .normal a' w') l a) : (Code.region id l.toArray true).wp P Q a w :=
  wp_region_quiet (C := fun w' => ∃ p : Uw w, w' = p.it) hm hB ⟨⟨_, (Upd.refl none' w).drew⟩, rfl⟩ (by simpa using h)
theorem Uw.calls {P : Program} {f : FuncId} {args : Array Value} {w : World} {p : Uw w} {v : Value} (h : Calls P f args p.it fun e w' => e = .returned v ∧ Upd none' p.it w') : Calls P f args p.it fun e w'' => e = .returned v ∧ ∃ q : Uw w, w'' = q.it :=
  h.mono fun _ w' ⟨he, hu⟩ => ⟨he, ⟨w', p.u.trans hu (fun _ _ f => f)⟩, rfl⟩
theorem Uw.same {P : Program} {f : FuncId} {args : Array Value} {w : World} {p : Uw w} {v : Value} (h : Calls P f args p.it fun e w' => e = .returned v ∧ p.it = w') : Calls P f args p.it fun e w'' => e = .returned v ∧ ∃ q : Uw w, w'' = q.it :=
  h.mono fun _ _ ⟨he, hu⟩ => ⟨he, p, hu.symm⟩
end Go.Proofs.YteombggfmeilaaaGreat
