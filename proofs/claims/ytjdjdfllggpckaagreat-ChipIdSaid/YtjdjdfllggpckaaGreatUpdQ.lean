/- A region that draws its order, whose operations read and whose calls leave what was there alone ('Upd none''): one walk, in the text's order. -/
import Derived.Test.YtjdjdfllggpckaaGreatBase
namespace Go.Proofs.YtjdjdfllggpckaaGreat
open Go.RowKit
/-- A world in which of w's blocks nothing has turned. -/
structure UW (w : World) where
  val : World
  upd : Upd none' w val
instance instUW (w : World) : Inhabited (UW w) := ⟨⟨w, Upd.refl _ _⟩⟩
theorem wp_region_upd_lit {P : Program} {id : Nat} {Q : Exit → Act → World → Prop} {a : Act} {w : World} {l : List Oper} (w0 : World) (hw : Upd none' w0 w) (hm : P.follows .mixedOrders = true) (hB : Region.lexB .any l.toArray = true)
    (h : wpQuiet P l.toArray (fun w' => ∃ u : UW w0, w' = u.val) (fun a' => ∀ w', (∃ u : UW w0, w' = u.val) → Q .normal a' w') l a) : (Code.region id l.toArray true).wp P Q a w :=
  wp_region_quiet (C := fun w' => ∃ u : UW w0, w' = u.val) hm hB ⟨⟨_, hw.drew⟩, rfl⟩ (by simpa using h)
theorem quiet_upd {P : Program} {f : FuncId} {args : Array Value} {w0 : World} {u : UW w0} {v : Value} (h : Calls P f args u.val fun e w' => e = .returned v ∧ Upd none' u.val w') :
    Calls P f args u.val fun e w'' => e = .returned v ∧ ∃ u' : UW w0, w'' = u'.val :=
  h.mono fun _ w' ⟨he, hu⟩ => ⟨he, ⟨w', u.upd.trans hu (fun _ _ f => f)⟩, rfl⟩
theorem quiet_same {P : Program} {f : FuncId} {args : Array Value} {w0 : World} {u : UW w0} {v : Value} (h : Calls P f args u.val fun e w' => e = .returned v ∧ w' = u.val) :
    Calls P f args u.val fun e w'' => e = .returned v ∧ ∃ u' : UW w0, w'' = u'.val :=
  h.mono fun _ _ ⟨he, hu⟩ => ⟨he, u, hu⟩
end Go.Proofs.YtjdjdfllggpckaaGreat
