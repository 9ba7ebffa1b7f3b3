/- The pages of a text; what burning it leaves of the cells: in plain. -/
import Derived.Test.YtkjdhkpkcepilaaGreatPureP
import Derived.Test.YtkjdhkpkcepilaaGreatWaitP
namespace Go.Proofs.YtkjdhkpkcepilaaGreat
open Go.RowKit
def pagesF : Nat → Nat → Nat → List Nat
  | 0, _, _ => []
  | f + 1, a, n => if n = 0 then [] else min n (32 - a % 32) :: pagesF f (a + min n (32 - a % 32)) (n - min n (32 - a % 32))
def pagesL (a n : Nat) : List Nat := pagesF n a n
theorem pagesF_fuel : ∀ (f n g a : Nat), n ≤ f → n ≤ g → pagesF f a n = pagesF g a n := by
  intro f
  induction f with
  | zero =>
    intro n g a h1 h2
    obtain rfl : n = 0 := by omega
    cases g with
    | zero => rfl
    | succ g => rfl
  | succ f ih =>
    intro n g a h1 h2
    by_cases h0 : n = 0
    · subst h0
      cases g with
      | zero => rfl
      | succ g => rfl
    · cases g with
      | zero => omega
      | succ g =>
        unfold pagesF
        rw [if_neg h0, if_neg h0, ih _ g _ (by omega) (by omega)]
theorem pagesL_zero (a : Nat) : pagesL a 0 = [] := rfl
theorem pagesL_step (a n : Nat) (h : 0 < n) : pagesL a n = min n (32 - a % 32) :: pagesL (a + min n (32 - a % 32)) (n - min n (32 - a % 32)) := by
  unfold pagesL
  cases n with
  | zero => omega
  | succ n =>
    rw [pagesF, if_neg (by omega), pagesF_fuel n _ (n + 1 - min (n + 1) (32 - a % 32)) _ (by omega) (Nat.le_refl _)]
theorem pagesL_sum (n : Nat) : ∀ a, (pagesL a n).sum = n := by
  induction n using Nat.strongRecOn with
  | ind n ih =>
    intro a
    by_cases h : n = 0
    · subst h; rfl
    · rw [pagesL_step a n (by omega), List.sum_cons, ih _ (by omega)]
      omega
theorem pagesL_len (n : Nat) : ∀ a, (pagesL a n).length ≤ n ∧ (pagesL a n).length ≤ (n + a % 32 + 31) / 32 := by
  induction n using Nat.strongRecOn with
  | ind n ih =>
    intro a
    by_cases h : n = 0
    · subst h
      rw [pagesL_zero]
      exact ⟨Nat.le_refl _, Nat.zero_le _⟩
    · rw [pagesL_step a n (by omega), List.length_cons]
      have := ih (n - min n (32 - a % 32)) (by omega) (a + min n (32 - a % 32))
      by_cases hb : n ≤ 32 - a % 32
      · rw [Nat.min_eq_left hb, Nat.sub_self] at this ⊢
        rw [pagesL_zero] at *
        exact ⟨by show 0 + 1 ≤ n; omega, by show 0 + 1 ≤ _; omega⟩
      · rw [Nat.min_eq_right (by omega)] at this ⊢
        omega
def toI (bs : List UInt8) : List Int := bs.map fun c => ((c.toNat : Nat) : Int)
theorem toI_len (bs : List UInt8) : (toI bs).length = bs.length := List.length_map _
theorem toI_byte (bs : List UInt8) : ∀ x ∈ toI bs, 0 ≤ x ∧ x ≤ 255 := by
  intro x hx
  obtain ⟨c, -, rfl⟩ := List.mem_map.1 hx
  have := c.toNat_lt
  omega
theorem page_in (k : Int) (n : Nat) : ∀ (ds : List Int) (m : Nat), ds.length = n → n ≤ 32 → m < n → (pageOf k ds).getD ((k + (m : Int)) % 32).toNat 0 = UInt8.ofNat (ds.getD m 0 % 256).toNat := by
  induction n with
  | zero => intro ds m _ _ hm; omega
  | succ n ih =>
    intro ds m h0 h1 hm
    have hne : ds ≠ [] := by rintro rfl; simp at h0
    have hcat := List.dropLast_concat_getLast hne
    have hdl : ds.dropLast.length = n := by rw [List.length_dropLast]; omega
    rw [← hcat, page_snoc, getD_set _ _ _ _ (by rw [page_len]; omega), hdl]
    by_cases hmn : m = n
    · subst hmn
      rw [if_pos rfl, List.getD_eq_getElem?_getD, List.getElem?_append_right (by omega), hdl, Nat.sub_self]
      rfl
    · rw [if_neg (by omega), ih _ m hdl (by omega) (by omega), List.getD_eq_getElem?_getD, List.getD_eq_getElem?_getD, List.getElem?_append_left (by omega)]
/-- Some bytes, burned: the bits that both leave. -/
def burnB (a : List UInt8) (k : Nat) (bs : List UInt8) : List UInt8 := a.mapIdx fun j x => if k ≤ j ∧ j < k + bs.length then x &&& bs.getD (j - k) 0 else x
theorem burnB_len (a : List UInt8) (k : Nat) (bs : List UInt8) : (burnB a k bs).length = a.length := List.length_mapIdx
theorem burnB_at (a : List UInt8) (k : Nat) (bs : List UInt8) (j : Nat) (hj : j < a.length) : (burnB a k bs).getD j 0 = if k ≤ j ∧ j < k + bs.length then a.getD j 0 &&& bs.getD (j - k) 0 else a.getD j 0 := by
  unfold burnB
  rw [List.getD_eq_getElem?_getD, List.getElem?_mapIdx, List.getElem?_eq_getElem hj, Option.map_some, Option.getD_some, show a.getD j 0 = a[j] from by rw [List.getD_eq_getElem?_getD, List.getElem?_eq_getElem hj, Option.getD_some]]
theorem burnB_nil (a : List UInt8) (k : Nat) : burnB a k [] = a := by
  refine ext_getD _ _ (burnB_len _ _ _) fun j hj => ?_
  rw [burnB_len] at hj
  rw [burnB_at _ _ _ _ hj, if_neg (by show ¬ (k ≤ j ∧ j < k + 0); omega)]
theorem burnB_parts (a : List UInt8) (k i : Nat) (bs : List UInt8) (hi : i ≤ bs.length) : burnB (burnB a k (bs.take i)) (k + i) (bs.drop i) = burnB a k bs := by
  refine ext_getD _ _ (by rw [burnB_len, burnB_len, burnB_len]) fun j hj => ?_
  rw [burnB_len, burnB_len] at hj
  rw [burnB_at _ _ _ _ (by rw [burnB_len]; exact hj), burnB_at _ _ _ _ hj, burnB_at _ _ _ _ hj, List.length_take, List.length_drop, Nat.min_eq_left hi]
  by_cases h1 : k ≤ j ∧ j < k + i
  · rw [if_neg (by omega), if_pos h1, if_pos (by omega), List.getD_eq_getElem?_getD (l := bs.take i), List.getElem?_take_of_lt (by omega), ← List.getD_eq_getElem?_getD]
  · by_cases h2 : k + i ≤ j ∧ j < k + i + (bs.length - i)
    · rw [if_pos h2, if_neg h1, if_pos (by omega), List.getD_eq_getElem?_getD (l := bs.drop i), List.getElem?_drop, show i + (j - (k + i)) = j - k by omega, ← List.getD_eq_getElem?_getD]
    · rw [if_neg h2, if_neg h1, if_neg (by omega)]
theorem burnB_twice (a : List UInt8) (k : Nat) (bs : List UInt8) : burnB (burnB a k bs) k bs = burnB a k bs := by
  refine ext_getD _ _ (by rw [burnB_len]) fun j hj => ?_
  rw [burnB_len, burnB_len] at hj
  rw [burnB_at _ _ _ _ (by rw [burnB_len]; exact hj), burnB_at _ _ _ _ hj]
  by_cases h1 : k ≤ j ∧ j < k + bs.length
  · rw [if_pos h1, if_pos h1, UInt8.and_assoc, UInt8.and_self]
  · rw [if_neg h1, if_neg h1]
/-- What a page that is programmed leaves. -/
theorem page_cut (a : ByteArray) (ha : a.size = 4096) (k : Nat) (hk : k < 4096) (bs : List UInt8) (hb : k % 32 + bs.length ≤ 32) : (progCut a ((k : Int) - (k : Int) % 32).toNat ⟨(pageOf (k : Int) (toI bs)).toArray⟩ all255).data.toList = burnB a.data.toList k bs := by
  have hal : a.data.toList.length = 4096 := ha
  show wantN a (k : Int) (toI bs) = _
  refine ext_getD _ _ (by rw [wantN_len, burnB_len, hal, ha]) fun j hj => ?_
  rw [wantN_len, ha] at hj
  rw [wantN_at _ _ _ _ (by omega), burnB_at _ _ _ _ (by omega)]
  by_cases h1 : k ≤ j ∧ j < k + bs.length
  · rw [if_pos (by omega), if_pos h1]
    have := page_in (k : Int) bs.length (toI bs) (j - k) (toI_len bs) (by omega) (by omega)
    rw [show (j - ((k : Int) - (k : Int) % 32).toNat) = (((k : Int) + ((j - k : Nat) : Int)) % 32).toNat by omega, this]
    congr 1
    unfold toI
    rw [List.getD_eq_getElem?_getD, List.getElem?_map, List.getElem?_eq_getElem (show j - k < bs.length by omega), List.getD_eq_getElem?_getD, List.getElem?_eq_getElem (show j - k < bs.length by omega)]
    simp only [Option.map_some, Option.getD_some]
    apply UInt8.toNat_inj.1
    have := (bs[j - k]).toNat_lt
    rw [UInt8.toNat_ofNat']
    omega
  · rw [if_neg h1]
    by_cases h2 : ((k : Int) - (k : Int) % 32).toNat ≤ j ∧ j < ((k : Int) - (k : Int) % 32).toNat + 32
    · rw [if_pos h2]
      by_cases h3 : j < k
      · have := page_blank (k : Int) bs.length (toI bs) (j + 32 - k) (toI_len bs) (by omega) (by omega)
        rw [show (j - ((k : Int) - (k : Int) % 32).toNat) = (((k : Int) + ((j + 32 - k : Nat) : Int)) % 32).toNat by omega, this]
        exact andA _
      · have := page_blank (k : Int) bs.length (toI bs) (j - k) (toI_len bs) (by omega) (by omega)
        rw [show (j - ((k : Int) - (k : Int) % 32).toNat) = (((k : Int) + ((j - k : Nat) : Int)) % 32).toNat by omega, this]
        exact andA _
    · rw [if_neg h2]
end Go.Proofs.YtkjdhkpkcepilaaGreat
