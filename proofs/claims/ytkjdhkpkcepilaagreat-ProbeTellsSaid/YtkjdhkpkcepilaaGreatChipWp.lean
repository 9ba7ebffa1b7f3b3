/- The walk over Wipes. -/
import Derived.Test.YtkjdhkpkcepilaaGreatCtx
import Derived.Test.YtkjdhkpkcepilaaGreatLaw0
namespace Go.Proofs.YtkjdhkpkcepilaaGreat
open Go.RowKit
def St.wipesL (s : St) : List Int := [s.wipes 0, s.wipes 1, s.wipes 2, s.wipes 3, s.wipes 4, s.wipes 5, s.wipes 6, s.wipes 7]
theorem c_same {P Q : Own} {w0 w : World} {rows : List (Value × List Value)} (hC : Ctx P Q w0 w rows) (i j : Nat) (v u : Value) (xs ys : List Int) (hi : rows[i]? = some (v, ints xs)) (hj : rows[j]? = some (u, ints ys)) (p : Bool) (hp : sameB xs ys = p) :
    Calls Tryz.prog 47 #[v, u] w fun e w' => e = .returned (.bool p) ∧ Ctx P Q w0 w' rows := by
  subst hp
  refine (same_ints w v u xs ys (hC.rs i hi) (hC.rs j hj)).mono ?_
  rintro e w' ⟨rfl, hU⟩
  exact ⟨rfl, hC.frame hU⟩
end Go.Proofs.YtkjdhkpkcepilaaGreat
