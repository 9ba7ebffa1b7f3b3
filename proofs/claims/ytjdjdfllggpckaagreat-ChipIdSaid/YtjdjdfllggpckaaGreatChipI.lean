/- What holds of a chip at all times. -/
import Derived.Test.YtjdjdfllggpckaaGreatChipM
namespace Go.Proofs.YtjdjdfllggpckaaGreat
open Go.RowKit
def Job.Form (j : Job) : Prop := j.sector = -1 ∧ 0 ≤ j.page ∧ j.page + 32 ≤ 4096 ∧ j.data.size = 32 ∨ 0 ≤ j.sector ∧ j.sector < 8
/-- What holds of a job that is under way. -/
def Job.Ok (j : Job) : Prop := j.Form ∧ 1 ≤ j.left ∧ j.left ≤ 400
/-- How far a command's part may be. -/
def St.Part (s : St) : Prop :=
  (s.stage = 0 ∧ 1 ≤ s.left ∧ s.left ≤ 8 ∧ 0 ≤ s.got ∧ (s.got + 1) * 2 ^ s.left.toNat ≤ 256) ∨
  s.stage = 1 ∨
  (s.stage = 2 ∧ 0 ≤ s.got ∧ (s.op.addr = 1 ∧ 1 ≤ s.left ∧ s.left ≤ 24 ∧ (s.got + 1) * 2 ^ s.left.toNat ≤ 16777216 ∨ s.op.addr = 4 ∧ 1 ≤ s.left ∧ s.left ≤ 6 ∧ (s.got + 1) * 16 ^ s.left.toNat ≤ 16777216)) ∨
  (s.stage = 3 ∧ s.op.addr = 4 ∧ 1 ≤ s.left ∧ s.left ≤ 2 ∧ 0 ≤ s.got ∧ (s.got + 1) * 16 ^ s.left.toNat ≤ 256) ∨
  (s.stage = 4 ∧ 1 ≤ s.left ∧ s.left ≤ 8) ∨
  (s.stage = 5 ∧ s.op.inn = true ∧ s.op.data = 1 ∧ 1 ≤ s.left ∧ s.left ≤ 8 ∧ 0 ≤ s.got ∧ (s.got + 1) * 2 ^ s.left.toNat ≤ 256) ∨
  (s.stage = 6 ∧ s.op.inn = false ∧ (s.op.data = 1 ∧ 0 ≤ s.left ∧ s.left ≤ 7 ∨ s.op.data = 4 ∧ 0 ≤ s.left ∧ s.left ≤ 1)) ∨
  s.stage = 7
/-- What holds of a chip; N bounds its counts. -/
structure St.Inv (s : St) (N : Int) : Prop where
  size : s.a.size = 4096
  job : ∀ j, s.job = some j → j.Ok
  addr : 0 ≤ s.addr ∧ s.addr < 4096
  told : 0 ≤ s.told ∧ s.told ≤ N
  len : (s.data.length : Int) ≤ N
  data : ∀ x ∈ s.data, 0 ≤ x ∧ x ≤ 255
  now : 0 ≤ s.now ∧ s.now ≤ 255
  mode : 0 ≤ s.mode ∧ s.mode ≤ 255
  op : ∃ c, s.op = opOf c
  wipes : ∀ k, 0 ≤ s.wipes k ∧ s.wipes k ≤ N
  busy : s.busy.length ≤ 16 ∧ ∀ d ∈ s.busy, 1 ≤ d ∧ d ≤ 400
  part : s.Part
theorem pow2_pos (n : Nat) : (1 : Int) ≤ 2 ^ n := by
  have : 0 < (2 : Int) ^ n := Int.pow_pos (by decide)
  omega
theorem pow16_pos (n : Nat) : (1 : Int) ≤ 16 ^ n := by
  have : 0 < (16 : Int) ^ n := Int.pow_pos (by decide)
  omega
theorem got_le (g p B : Int) (hp : 1 ≤ p) (h : (g + 1) * p ≤ B) (hg : 0 ≤ g) : g + 1 ≤ B := by
  have := Int.mul_le_mul_of_nonneg_left hp (show 0 ≤ g + 1 by omega)
  omega
theorem got2 {g l B : Int} (hg : 0 ≤ g) (h : (g + 1) * 2 ^ l.toNat ≤ B) : g + 1 ≤ B := got_le g _ B (pow2_pos _) h hg
theorem got16 {g l B : Int} (hg : 0 ≤ g) (h : (g + 1) * 16 ^ l.toNat ≤ B) : g + 1 ≤ B := got_le g _ B (pow16_pos _) h hg
theorem first_bd (x y z : Bool) : 0 ≤ first x y z ∧ first x y z ≤ 7 := by cases x <;> cases y <;> cases z <;> decide
theorem second_bd (x y : Bool) : 0 ≤ second x y ∧ second x y ≤ 130 := by cases x <;> cases y <;> decide
theorem byteOf_bd (s : ByteArray) (i : Nat) : 0 ≤ byteOf s i ∧ byteOf s i ≤ 255 := by
  unfold byteOf
  have := (s.data.toList.getD i 0).toNat_lt
  omega
theorem byteAt_bd (s : St) (i : Int) : 0 ≤ s.byteAt i ∧ s.byteAt i ≤ 255 := by
  unfold St.byteAt
  have h1 := first_bd s.works s.en s.prot
  have h2 := second_bd s.quad s.susp
  split
  · have : (i % 3).toNat = 0 ∨ (i % 3).toNat = 1 ∨ (i % 3).toNat = 2 := by omega
    rcases this with h | h | h <;> rw [h] <;> decide
  · split
    · unfold St.first; omega
    · split
      · unfold St.second; omega
      · split
        · exact byteOf_bd _ _
        · exact byteOf_bd _ _
end Go.Proofs.YtjdjdfllggpckaaGreat
