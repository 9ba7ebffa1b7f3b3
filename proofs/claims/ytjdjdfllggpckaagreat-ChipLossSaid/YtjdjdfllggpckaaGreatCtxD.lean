/- More calls on a chip among what a law holds. -/
import Derived.Test.YtjdjdfllggpckaaGreatCtxC
import Derived.Test.YtjdjdfllggpckaaGreatPureQ
import Derived.Test.YtjdjdfllggpckaaGreatNums
import Derived.Laws.OwnMore
namespace Go.Proofs.YtjdjdfllggpckaaGreat
open Go.RowKit
theorem Ctx.nilrow {P Q : Own} {w0 w : World} {rows : List (Value × List Value)} (hC : Ctx P Q w0 w rows) : Ctx P Q w0 w ((.slice none 0 0, ints []) :: rows) := by
  obtain ⟨S, h1, h2, h3⟩ := hC.all
  refine ⟨hC.okP, hC.okQ, hC.upd, S, h1, h2, fun r hr => ?_⟩
  rcases List.mem_cons.1 hr with rfl | hr
  · exact ⟨RS.nil w, fun k hk => by simp [Value.ownBlock] at hk⟩
  · exact h3 r hr
theorem c_quiet0 {P Q : Own} {w0 w : World} {rows : List (Value × List Value)} (hC : Ctx P Q w0 w rows) (k : Nat) (x : Int) (hx : x = (k : Int)) (hl : k ≤ 1048576) :
    Calls Tryz.prog 15 #[.slice none 0 0, .int .i64 x] w fun e w' => ∃ a' c', e = .returned (.slice a' k c') ∧ (a' = none → c' = 0) ∧ Ctx P Q w0 w' ((.slice a' k c', ints (List.replicate k 15)) :: rows) := by
  refine (c_quiet hC.nilrow 0 none 0 0 [] rfl (fun _ => rfl) k x hx k (by omega) hl).mono ?_
  rintro e w' ⟨a', c', rfl, h1, h2⟩
  refine ⟨a', c', rfl, h1, h2.sub fun r hr => ?_⟩
  rcases List.mem_cons.1 hr with h | h
  · exact List.mem_cons.2 (.inl (by rw [h, List.nil_append]))
  · exact List.mem_cons.2 (.inr (List.mem_cons.2 (.inr h)))
theorem word1_in (x : Int) (h : 0 ≤ x ∧ x ≤ 255) : ∀ y ∈ [x], 0 ≤ y ∧ y ≤ 255 := fun y hy => by rw [List.mem_singleton.1 hy]; exact h
theorem word5_in (c k : Nat) (x : Int) (hc : c ≤ 255) (hk : k < 4096) (h : 0 ≤ x ∧ x ≤ 255) : ∀ y ∈ [(c : Int), 0, (k : Int) / 256, (k : Int) % 256, x], 0 ≤ y ∧ y ≤ 255 := by
  intro y hy
  simp only [List.mem_cons, List.not_mem_nil, or_false] at hy
  omega
theorem byteIn_eq (x : Int) (h : 0 ≤ x ∧ x ≤ 255) : byteIn x = x := by
  unfold byteIn
  rw [bitsOn_byte 0 x h]
  omega
/-- A row of the call's own that has just been laid. -/
theorem row_lit (w : World) (e : TypeId) (vs : List Value) (n : Nat) (hn : vs.length = n) (hl : n ≤ 1048576) : Row (w.alloc (.cells vs.toArray e)) e (.slice (some ⟨w.heap.size, 0, none⟩) n n) vs := by
  subst hn
  have h := World.ownsRow_lit (base := 0) (e := e) (size := 1) w vs.toArray vs.length (Nat.zero_le _) (by unfold maxLen; omega) (by simp)
  unfold Row
  simpa using h
/-- A row of the call's own has been written. -/
theorem Ctx.write {P Q : Own} {w0 w w' : World} {rows : List (Value × List Value)} {v v' : Value} {vs vs' : List Value} (hC : Ctx P Q w0 w rows) (i : Nat) (hi : rows[i]? = some (v, vs)) (hv0 : ∀ k, v.ownBlock = some k → w0.heap.size ≤ k) (hU : Upd (fun k => v.ownBlock = some k) w w') (hR : RS w' v' vs') (hv' : ∀ k, v'.ownBlock = some k → (v.ownBlock = some k ∨ w.heap.size ≤ k) ∧ k < w'.heap.size)
    (rest : List (Value × List Value)) (hr : ∀ r ∈ rest, r ∈ rows ∧ ∀ k, r.1.ownBlock = some k → v.ownBlock ≠ some k) : Ctx P Q w0 w' ((v', vs') :: rest) := by
  obtain ⟨S, h1, h2, h3⟩ := hC.all
  have hv := (h3 _ (List.mem_of_getElem? hi)).2
  have hlt := (hC.okP.star hC.okQ).lt h1
  refine ⟨hC.okP, hC.okQ, hC.upd.trans hU (fun k h4 h5 => absurd (hv0 k h5) (by omega)), S, (hC.okP.star hC.okQ).frame h1 hU (fun k hk he => (hv k he).2 hk), h2, fun r hr' => ?_⟩
  rcases List.mem_cons.1 hr' with rfl | hr'
  · refine ⟨hR, fun k hk => ⟨(hv' k hk).2, fun hs => ?_⟩⟩
    rcases (hv' k hk).1 with h | h
    · exact (hv k h).2 hs
    · have := hlt k hs; omega
  · obtain ⟨h4, h5⟩ := h3 r (hr r hr').1
    exact ⟨h4.upd hU (fun k _ he hk => (hr r hr').2 k he hk), fun k hk => ⟨Nat.lt_of_lt_of_le (h5 k hk).1 hU.size, (h5 k hk).2⟩⟩
theorem take_snoc' (zs : List Int) (f : Int → Int) (i : Nat) (h : i < zs.length) : (zs.map f).take (i + 1) = (zs.map f).take i ++ [f (zs.getD i 0)] := by
  rw [List.take_add_one]
  simp [List.getD_eq_getElem?_getD, List.getElem?_eq_getElem h]
end Go.Proofs.YtjdjdfllggpckaaGreat
