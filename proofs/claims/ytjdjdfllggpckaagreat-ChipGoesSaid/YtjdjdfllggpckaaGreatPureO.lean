/- A read that goes on: in plain. -/
import Derived.Test.YtjdjdfllggpckaaGreatPureG
import Derived.Test.YtjdjdfllggpckaaGreatCtxB
import Derived.Test.YtjdjdfllggpckaaGreatNums
namespace Go.Proofs.YtjdjdfllggpckaaGreat
open Go.RowKit
def goX (k mode : Int) : List Int := [0, 0, k / 4096, k / 256 % 16, k / 16 % 16, k % 16, mode / 16, mode % 16]
def adrOf (x2 x3 x4 x5 : Int) : Int := ((((((0 * 16 + 0 % 16) * 16 + 0 % 16) * 16 + x2 % 16) * 16 + x3 % 16) * 16 + x4 % 16) * 16 + x5 % 16) % 4096
def modOf (y0 y1 : Int) : Int := (0 * 16 + y0 % 16) * 16 + y1 % 16
/-- A chip at rest that has quad; does a read go on? -/
structure Go4 (a : ByteArray) (g : Bool) (t : St) : Prop where
  sel : t.sel = false
  goes : t.goes = g
  job : t.job = none
  quad : t.quad = true
  en : t.en = false
  prot : t.prot = false
  a : t.a = a
theorem go4_new (a : ByteArray) : Go4 a false (qd2 a) := ⟨by kernel_rfl, by kernel_rfl, by kernel_rfl, by kernel_rfl, by kernel_rfl, by kernel_rfl, by kernel_rfl⟩
theorem go4_a (a : ByteArray) (t : St) (h : Go4 a false t) (x2 x3 x4 x5 y0 y1 : Int) : (t.said ((wordL [235] ++ [0, 0, x2, x3, x4, x5, y0, y1]) ++ List.replicate 6 15)).2 = List.replicate 20 15 ++ nibs (byteOf a ((adrOf x2 x3 x4 x5 + 0) % 4096).toNat) ∧ Go4 a (decide (modOf y0 y1 = 160)) (t.af ((wordL [235] ++ [0, 0, x2, x3, x4, x5, y0, y1]) ++ List.replicate 6 15)) := by
  obtain ⟨h1, h2, h3, h4, h5, h6, h7⟩ := h
  obtain ⟨a', prot, quad, wipes, tabled, sel, en, goes, job, busy, op, stage, left', got, addr, mode, moded, data', told, now, beyond⟩ := t
  change goes = false at h2
  change job = _ at h3
  change quad = true at h4
  change en = false at h5
  change prot = false at h6
  change a' = a at h7
  subst h2
  subst h3
  subst h4
  subst h5
  subst h6
  subst h7
  exact ⟨by kernel_rfl, by kernel_rfl, by kernel_rfl, by kernel_rfl, by kernel_rfl, by kernel_rfl, by kernel_rfl, by kernel_rfl⟩
theorem go4_b (a : ByteArray) (t : St) (h : Go4 a true t) (x2 x3 x4 x5 y0 y1 : Int) : (t.said ([0, 0, x2, x3, x4, x5, y0, y1] ++ List.replicate 6 15)).2 = List.replicate 12 15 ++ nibs (byteOf a ((adrOf x2 x3 x4 x5 + 0) % 4096).toNat) ∧ Go4 a (decide (modOf y0 y1 = 160)) (t.af ([0, 0, x2, x3, x4, x5, y0, y1] ++ List.replicate 6 15)) := by
  obtain ⟨h1, h2, h3, h4, h5, h6, h7⟩ := h
  obtain ⟨a', prot, quad, wipes, tabled, sel, en, goes, job, busy, op, stage, left', got, addr, mode, moded, data', told, now, beyond⟩ := t
  change goes = true at h2
  change job = _ at h3
  change quad = true at h4
  change en = false at h5
  change prot = false at h6
  change a' = a at h7
  subst h2
  subst h3
  subst h4
  subst h5
  subst h6
  subst h7
  exact ⟨by kernel_rfl, by kernel_rfl, by kernel_rfl, by kernel_rfl, by kernel_rfl, by kernel_rfl, by kernel_rfl, by kernel_rfl⟩
theorem go4_stat (a : ByteArray) (t : St) (h : Go4 a false t) : (t.said (wordL [5] ++ List.replicate 8 15)).2 = List.replicate 8 15 ++ List.replicate 8 13 := by
  obtain ⟨h1, h2, h3, h4, h5, h6, h7⟩ := h
  obtain ⟨a', prot, quad, wipes, tabled, sel, en, goes, job, busy, op, stage, left', got, addr, mode, moded, data', told, now, beyond⟩ := t
  change goes = false at h2
  change job = _ at h3
  change en = false at h5
  change prot = false at h6
  subst h2
  subst h3
  subst h5
  subst h6
  kernel_rfl
theorem stat_bytes : bytesN (List.replicate 8 15 ++ List.replicate 8 13) 8 1 = [0] := by kernel_rfl
theorem adr_eq (k : Int) (hk : 0 ≤ k ∧ k < 4096) : adrOf (k / 4096) (k / 256 % 16) (k / 16 % 16) (k % 16) = k := by unfold adrOf; omega
theorem mod_eq (m : Int) (hm : 0 ≤ m ∧ m ≤ 255) : modOf (m / 16) (m % 16) = m := by unfold modOf; omega
theorem goX_in (k mode : Int) (hk : 0 ≤ k ∧ k < 4096) (hm : 0 ≤ mode ∧ mode ≤ 255) : ∀ x ∈ goX k mode, 0 ≤ x ∧ x ≤ 15 := by
  intro x hx
  simp only [goX, List.mem_cons, List.not_mem_nil, or_false] at hx
  omega
/-- What is said, from place m on, and what is left. -/
theorem goes_a (a : ByteArray) (ha : a.size = 4096) (t : St) (h : Go4 a false t) (k : Nat) (hk : k < 4096) (hks : k < a.size) (mode : Int) (hm : 0 ≤ mode ∧ mode ≤ 255) : ∃ u ys, t.said ((wordL [235] ++ goX k mode) ++ List.replicate 6 15) = (u, ys) ∧ Go4 a (decide (mode = 160)) u ∧ (ints ys)[20]? = some (.int .i64 ((a[k]'hks).toNat / 16 : Int)) ∧ (ints ys)[21]? = some (.int .i64 ((a[k]'hks).toNat % 16 : Int)) := by
  obtain ⟨e1, e2⟩ := go4_a a t h ((k : Int) / 4096) ((k : Int) / 256 % 16) ((k : Int) / 16 % 16) ((k : Int) % 16) (mode / 16) (mode % 16)
  rw [adr_eq (k : Int) (by omega), show ((k : Int) + 0) % 4096 = (k : Int) by omega, Int.toNat_natCast, byteOf_get a k hks] at e1
  rw [mod_eq mode hm] at e2
  have hlt := (a[k]'hks).toNat_lt
  refine ⟨_, _, said_of t _ _ _ (by unfold St.af; rfl) e1, e2, ?_, ?_⟩
  · show some (Value.int .i64 (((a[k]'hks).toNat : Int) / 16 % 16)) = _
    rw [show ((a[k]'hks).toNat : Int) / 16 % 16 = ((a[k]'hks).toNat : Int) / 16 by omega]
  · show some (Value.int .i64 (((a[k]'hks).toNat : Int) / 1 % 16)) = _
    rw [show ((a[k]'hks).toNat : Int) / 1 % 16 = ((a[k]'hks).toNat : Int) % 16 by omega]
theorem goes_b (a : ByteArray) (ha : a.size = 4096) (t : St) (h : Go4 a true t) (k : Nat) (hk : k < 4096) (hks : k < a.size) (mode : Int) (hm : 0 ≤ mode ∧ mode ≤ 255) : ∃ u ys, t.said (goX k mode ++ List.replicate 6 15) = (u, ys) ∧ Go4 a (decide (mode = 160)) u ∧ (ints ys)[12]? = some (.int .i64 ((a[k]'hks).toNat / 16 : Int)) ∧ (ints ys)[13]? = some (.int .i64 ((a[k]'hks).toNat % 16 : Int)) := by
  obtain ⟨e1, e2⟩ := go4_b a t h ((k : Int) / 4096) ((k : Int) / 256 % 16) ((k : Int) / 16 % 16) ((k : Int) % 16) (mode / 16) (mode % 16)
  rw [adr_eq (k : Int) (by omega), show ((k : Int) + 0) % 4096 = (k : Int) by omega, Int.toNat_natCast, byteOf_get a k hks] at e1
  rw [mod_eq mode hm] at e2
  have hlt := (a[k]'hks).toNat_lt
  refine ⟨_, _, said_of t _ _ _ (by unfold St.af; rfl) e1, e2, ?_, ?_⟩
  · show some (Value.int .i64 (((a[k]'hks).toNat : Int) / 16 % 16)) = _
    rw [show ((a[k]'hks).toNat : Int) / 16 % 16 = ((a[k]'hks).toNat : Int) / 16 by omega]
  · show some (Value.int .i64 (((a[k]'hks).toNat : Int) / 1 % 16)) = _
    rw [show ((a[k]'hks).toNat : Int) / 1 % 16 = ((a[k]'hks).toNat : Int) % 16 by omega]
end Go.Proofs.YtjdjdfllggpckaaGreat
