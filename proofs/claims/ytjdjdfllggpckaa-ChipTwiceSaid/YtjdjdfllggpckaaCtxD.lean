/- More calls on a chip among what a law holds. -/
import Derived.Test.YtjdjdfllggpckaaCtxC
import Derived.Test.YtjdjdfllggpckaaPureQ
import Derived.Test.YtjdjdfllggpckaaNums
namespace Go.Proofs.Ytjdjdfllggpckaa
open Go.RowKit
theorem Ctx.nilrow {P Q : Own} {w0 w : World} {rows : List (Value × List Value)} (hC : Ctx P Q w0 w rows) : Ctx P Q w0 w ((.slice none 0 0, ints []) :: rows) := by
  obtain ⟨S, h1, h2, h3⟩ := hC.all
  refine ⟨hC.okP, hC.okQ, hC.upd, S, h1, h2, fun r hr => ?_⟩
  rcases List.mem_cons.1 hr with rfl | hr
  · exact ⟨RS.nil w, fun k hk => by simp [Value.ownBlock] at hk⟩
  · exact h3 r hr
theorem c_quiet0 {P Q : Own} {w0 w : World} {rows : List (Value × List Value)} (hC : Ctx P Q w0 w rows) (k : Nat) (x : Int) (hx : x = (k : Int)) (hl : k ≤ 1048576) :
    Calls Try.prog 15 #[.slice none 0 0, .int .i64 x] w fun e w' => ∃ a' c', e = .returned (.slice a' k c') ∧ (a' = none → c' = 0) ∧ Ctx P Q w0 w' ((.slice a' k c', ints (List.replicate k 15)) :: rows) := by
  refine (c_quiet hC.nilrow 0 none 0 0 [] rfl (fun _ => rfl) k x hx k (by omega) hl).mono ?_
  rintro e w' ⟨a', c', rfl, h1, h2⟩
  refine ⟨a', c', rfl, h1, h2.sub fun r hr => ?_⟩
  rcases List.mem_cons.1 hr with h | h
  · exact List.mem_cons.2 (.inl (by rw [h, List.nil_append]))
  · exact List.mem_cons.2 (.inr (List.mem_cons.2 (.inr h)))
theorem word1_in (x : Int) (h : 0 ≤ x ∧ x ≤ 255) : ∀ y ∈ [x], 0 ≤ y ∧ y ≤ 255 := fun y hy => by rw [List.mem_singleton.1 hy]; exact h
theorem word5_in (c k : Nat) (x : Int) (hc : c ≤ 255) (hk : k < 4096) (h : 0 ≤ x ∧ x ≤ 255) : ∀ y ∈ [(c : Int), 0, (k : Int) / 256, (k : Int) % 256, x], 0 ≤ y ∧ y ≤ 255 := by
  intro y hy
  simp only [List.mem_cons, List.not_mem_nil, or_false] at hy
  omega
theorem byteIn_eq (x : Int) (h : 0 ≤ x ∧ x ≤ 255) : byteIn x = x := by
  unfold byteIn
  rw [bitsOn_byte 0 x h]
  omega
end Go.Proofs.Ytjdjdfllggpckaa
