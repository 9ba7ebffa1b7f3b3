/- The walk over Wipes. -/
import Derived.Test.YteombggfmeilaaaGreatCtx
import Derived.Test.YteombggfmeilaaaGreatLaw0
namespace Go.Proofs.YteombggfmeilaaaGreat
open Go.RowKit
def St.wipesL (s : St) : List Int := [s.wipes 0, s.wipes 1, s.wipes 2, s.wipes 3, s.wipes 4, s.wipes 5, s.wipes 6, s.wipes 7]
set_option maxHeartbeats 1000000 in
theorem chip_wipes (b : Nat) (s : St) (S : Nat → Prop) (w : World) (hA : ChipAt w b s S) :
    Calls Tryz.prog 32 #[.pointer (some ⟨b, 0, none⟩)] w fun e w' => ∃ v', e = .returned v' ∧ Row w' 3 v' (ints s.wipesL) ∧ (∀ k, v'.ownBlock = some k → w.heap.size ≤ k) ∧ Upd none' w w' := by
  obtain ⟨jv, bv, dv, hv, rfl⟩ := hA
  have hr : RS w (.slice (some ⟨b, 3, none⟩) 8 8) (ints s.wipesL) := by
    refine ⟨by show (8 : Nat) * 8 ≤ _; decide, some ⟨b, 3, none⟩, 8, rfl, Nat.le_refl _, fun _ => ⟨b, 3, rfl, hv.cb.lt, fun j hj => ?_⟩⟩
    have hj8 : j < 8 := hj
    rw [hv.cb.cell]
    rcases (show j = 0 ∨ j = 1 ∨ j = 2 ∨ j = 3 ∨ j = 4 ∨ j = 5 ∨ j = 6 ∨ j = 7 by omega) with rfl | rfl | rfl | rfl | rfl | rfl | rfl | rfl <;> rfl
  have HC := Lib.hid (clone_ints w _ s.wipesL hr (by unfold St.wipesL; exact List.cons_ne_nil _ _) (by show (8 : Nat) ≤ 4096; decide))
  clear hr
  go_enter Tryz.func32, Tryz.ntmps32
  go_wp2_with (go_at_call 105; refine HC.out.mono ?_; rintro e w1 ⟨v', rfl, hR, hf, hU⟩)
  go_ret
  exact ⟨v', rfl, hR, hf, hU⟩
theorem c_wipes {Q : Own} {w0 w : World} {b : Nat} {s : St} {N : Int} {rows : List (Value × List Value)} (hC : Ctx (ChipP b s N) Q w0 w rows) (ws : List Int) (hw : s.wipesL = ws) :
    Calls Tryz.prog 32 #[.pointer (some ⟨b, 0, none⟩)] w fun e w' => ∃ a' c', e = .returned (.slice a' 8 c') ∧ (a' = none → c' = 0) ∧ Ctx (ChipP b s N) Q w0 w' ((.slice a' 8 c', ints ws) :: rows) := by
  subst hw
  obtain ⟨S, ⟨A, B, hA, _⟩, _⟩ := hC.all
  refine (hC.quiet (X := fun e news => ∃ a' c', e = .returned (.slice a' 8 c') ∧ (a' = none → c' = 0) ∧ news = [(.slice a' 8 c', ints s.wipesL)]) ((chip_wipes b s A w hA.1).mono ?_)).mono ?_
  · rintro e w' ⟨v', rfl, hR, hf, hU⟩
    obtain ⟨a', c', rfl, -, hn', -⟩ := hR.form
    refine ⟨_, ⟨a', c', rfl, fun h => (hn' h).2, rfl⟩, fun r hr => ?_, hU⟩
    obtain rfl := List.mem_singleton.1 hr
    exact row_new hR (by show (8 : Nat) ≤ _; decide) (fun k hk => ⟨hf k hk, fun f => f⟩)
  · rintro e w' ⟨news, ⟨a', c', rfl, h1, rfl⟩, h2⟩
    exact ⟨a', c', rfl, h1, h2⟩
theorem c_same {P Q : Own} {w0 w : World} {rows : List (Value × List Value)} (hC : Ctx P Q w0 w rows) (i j : Nat) (v u : Value) (xs ys : List Int) (hi : rows[i]? = some (v, ints xs)) (hj : rows[j]? = some (u, ints ys)) (p : Bool) (hp : sameB xs ys = p) :
    Calls Tryz.prog 33 #[v, u] w fun e w' => e = .returned (.bool p) ∧ Ctx P Q w0 w' rows := by
  subst hp
  refine (same_ints w v u xs ys (hC.rs i hi) (hC.rs j hj)).mono ?_
  rintro e w' ⟨rfl, hU⟩
  exact ⟨rfl, hC.frame hU⟩
end Go.Proofs.YteombggfmeilaaaGreat
