/- Numbers that a law takes out of its arguments. -/
import Derived.Test.YtepnljeojlbliaaGreatChipM
import Derived.Test.YtepnljeojlbliaaGreatLow
import Derived.IntWalk
namespace Go.Proofs.YtepnljeojlbliaaGreat
open Go.RowKit
theorem wrap_1m (m : Nat) (h1 : 1 ≤ m) (h2 : m ≤ 1048576) : IntKind.i64.wrap (1 + ((m : Int) - 1)) = (m : Int) := by
  rw [show 1 + ((m : Int) - 1) = (m : Int) by omega]
  exact IntWalk.i64_in _ (by omega)
theorem many_15 (many : Int) : ∃ m : Nat, 1 ≤ m ∧ m ≤ 16 ∧ bits .and .i64 many 15 = (m : Int) - 1 ∧ IntKind.i64.wrap (1 + ((m : Int) - 1)) = (m : Int) :=
  ⟨(many % 16 + 1).toNat, by omega, by omega, by rw [i64_and15]; omega, wrap_1m _ (by omega) (by omega)⟩
theorem many_31 (many : Int) : ∃ m : Nat, 1 ≤ m ∧ m ≤ 32 ∧ bits .and .i64 many 31 = (m : Int) - 1 ∧ IntKind.i64.wrap (1 + ((m : Int) - 1)) = (m : Int) :=
  ⟨(many % 32 + 1).toNat, by omega, by omega, by rw [i64_and31]; omega, wrap_1m _ (by omega) (by omega)⟩
theorem many_63 (many : Int) : ∃ m : Nat, 1 ≤ m ∧ m ≤ 64 ∧ bits .and .i64 many 63 = (m : Int) - 1 ∧ IntKind.i64.wrap (1 + ((m : Int) - 1)) = (m : Int) :=
  ⟨(many % 64 + 1).toNat, by omega, by omega, by rw [i64_and63]; omega, wrap_1m _ (by omega) (by omega)⟩
theorem many_1023 (many : Int) : ∃ m : Nat, 1 ≤ m ∧ m ≤ 1024 ∧ bits .and .i64 many 1023 = (m : Int) - 1 ∧ IntKind.i64.wrap (1 + ((m : Int) - 1)) = (m : Int) := by
  have h : bits .and .i64 many 1023 = many % 1024 := by
    have hm : (BitVec.ofInt 64 1023).toNat = 2 ^ 10 - 1 := by decide
    have key : (BitVec.ofInt 64 many &&& BitVec.ofInt 64 1023).toNat = (many % ((2 ^ 64 : Nat) : Int)).toNat % 2 ^ 10 := by
      rw [BitVec.toNat_and, BitVec.toNat_ofInt, hm, Nat.and_two_pow_sub_one_eq_mod]
    show IntKind.i64.wrap ((BitVec.ofInt 64 many &&& BitVec.ofInt 64 1023).toNat : Nat) = many % 1024
    rw [key, IntKind.wrap_i64]
    omega
  exact ⟨(many % 1024 + 1).toNat, by omega, by omega, by rw [h]; omega, wrap_1m _ (by omega) (by omega)⟩
theorem at_4095 (n : Int) : ∃ k : Nat, bits .and .i64 n 4095 = (k : Int) ∧ k < 4096 := ⟨(n % 4096).toNat, by rw [i64_and4095]; omega, by omega⟩
theorem mod_4096 (x : Int) : ∃ q : Nat, x % 4096 = (q : Int) ∧ q < 4096 ∧ (x % 4096).toNat = q := ⟨(x % 4096).toNat, by omega, by omega, rfl⟩
theorem at_4096 (x : Int) : ∃ k : Nat, (IntKind.u64.wrap x).tmod 4096 = (k : Int) ∧ k < 4096 := by
  have h : IntKind.u64.wrap x = x % 18446744073709551616 := by first | exact IntKind.wrap_u64 x | rfl
  refine ⟨(x % 18446744073709551616 % 4096).toNat, ?_, by omega⟩
  rw [h, Int.tmod_eq_emod_of_nonneg (by omega)]
  omega
theorem sum_4096 (k i : Nat) (hk : k < 4096) (hi : i < 1048576) : ∃ q : Nat, q < 4096 ∧ (((k : Int) + (i : Int)) % 4096).toNat = q ∧ ((k : Int) + (i : Int)).tmod 4096 = (q : Int) ∧ IntKind.i64.wrap ((k : Int) + (i : Int)) = (k : Int) + (i : Int) :=
  ⟨(k + i) % 4096, by omega, by omega, by rw [Int.tmod_eq_emod_of_nonneg (by omega)]; omega, IntWalk.i64_in _ (by omega)⟩
theorem word4_in (c k : Nat) (hc : c ≤ 255) (hk : k < 4096) : ∀ x ∈ [(c : Int), 0, (k : Int) / 256, (k : Int) % 256], 0 ≤ x ∧ x ≤ 255 := by
  intro x hx
  simp only [List.mem_cons, List.not_mem_nil, or_false] at hx
  omega
theorem byteOf_get (a : ByteArray) (q : Nat) (h : q < a.size) : byteOf a q = ((a[q]'h).toNat : Int) := by
  unfold byteOf
  rw [List.getD_eq_getElem?_getD, List.getElem?_eq_getElem (show q < a.data.toList.length from h)]
  rfl
theorem sum_32 (k i : Nat) (hk : k < 4096) (hi : i < 1048576) : ∃ q : Nat, q < 32 ∧ (((k : Int) + (i : Int)) % 32).toNat = q ∧ ((k : Int) + (i : Int)).tmod 32 = (q : Int) ∧ IntKind.i64.wrap ((k : Int) + (i : Int)) = (k : Int) + (i : Int) :=
  ⟨(k + i) % 32, by omega, by omega, by rw [Int.tmod_eq_emod_of_nonneg (by omega)]; omega, IntWalk.i64_in _ (by omega)⟩
end Go.Proofs.YtepnljeojlbliaaGreat
