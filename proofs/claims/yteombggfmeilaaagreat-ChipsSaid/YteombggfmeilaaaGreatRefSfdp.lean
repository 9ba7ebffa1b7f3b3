/- The walk over lichenref1.PutSfdp, at the chip's own numbers. -/
import Derived.Test.YteombggfmeilaaaGreatBlank
import Derived.Test.YteombggfmeilaaaGreatTable
namespace Go.Proofs.YteombggfmeilaaaGreat
open Go.RowKit
theorem make_bytes12 (u : World) : (Instr.makeSlice 23 (.int .i64 12) (.int .i64 12)).run Tryz.prog u = .ok (.slice (some ⟨u.heap.size, 0, none⟩) 12 12) (u.alloc (.cells (bytesV (List.replicate 12 0)).toArray 5)) := by
  have := run_make (P := Tryz.prog) u 23 5 Tryz.t5 (.int .u8 0) Tryz.underlying23 (by kernel_rfl) (by kernel_rfl) .i64 .i64 12 12 (by decide) (by decide) (by show ((1 : Nat) : Int) * 12 ≤ _; decide) (by decide)
  rw [this, show madeCells (Value.int .u8 0).cells (Int.toNat 12 * Tryz.t5.size) = (bytesV (List.replicate 12 0)).toArray from by kernel_rfl]
  rfl
set_option maxRecDepth 100000 in
set_option maxHeartbeats 1000000 in
theorem ref_full12 (w : World) : Calls Tryz.prog 89 #[.int .i64 12] w fun e w' => e = .returned (.string ⟨#[255, 255, 255, 255, 255, 255, 255, 255, 255, 255, 255, 255]⟩) ∧ Upd none' w w' := by
  have hmk := make_bytes12
  go_enter Tryz.func89, Tryz.ntmps89
  go_wp2_with fail
  clear hmk
  obtain ⟨Z, hZ⟩ : ∃ Z, List.replicate 12 (0 : UInt8) = Z := ⟨_, rfl⟩
  first | rw [hZ] | rw [show [(0 : UInt8), 0, 0, 0, 0, 0, 0, 0, 0, 0, 0, 0] = Z from hZ]
  have hBz : Buf (w.alloc (.cells (bytesV Z).toArray 5)) w.heap.size Z 5 := ⟨[], (0, 0), by rw [List.append_nil]; exact heap_alloc_new w _, .inl rfl⟩
  have hUz := (Upd.refl none' w).alloc (.cells (bytesV Z).toArray 5)
  generalize w.alloc (.cells (bytesV Z).toArray 5) = W at *
  go_loopw [4] (fun iv wr => ∃ (i : Nat) (l : List UInt8), i ≤ 12 ∧ iv = .int .i64 i ∧ Upd none' w wr ∧ Buf wr w.heap.size l 5 ∧ Hid (l = List.replicate i 255 ++ List.replicate (12 - i) 0)) (fun iv _ => 12 - (intOf iv).toNat)
  case atStart => exact ⟨0, Z, by omega, rfl, hUz, hBz, Lib.hid (by rw [← hZ, List.replicate_zero, List.nil_append])⟩
  case round =>
    clear hBz hUz
    obtain ⟨i, l, hi, rfl, hU, hB, hl⟩ := hrel
    have hll : l.length = 12 := by rw [hl.out]; simp; omega
    by_cases hlt : i < 12
    · have hc := hB.cell (j := i) (by omega)
      have hf := hB.frozen (j := i) (by omega)
      have HB := Lib.hid (hB.set (j := i) (by omega) 255)
      have HU := Lib.hid (hU.setCell ⟨w.heap.size, i, none⟩ (.int .u8 255) (fun h => absurd h (by dsimp only; omega)))
      clear hB hU hZ
      go_wp2
      exact ⟨⟨i + 1, _, by omega, by go_num, HU.out, HB.out, Lib.hid (by rw [hl.out, fillN 12 i hlt])⟩, by simp [intOf]; omega⟩
    · have hieq : i = 12 := by omega
      subst hieq
      have hle : l = [255, 255, 255, 255, 255, 255, 255, 255, 255, 255, 255, 255] := by rw [hl.out]; rfl
      clear hZ
      subst hle
      have hst := fun cap => run_string_buf hB 23 5 9 Tryz.underlying23 Tryz.underlying5 Tryz.underlying9 12 cap hll
      have HU := Lib.hid hU
      clear hB hU hl
      go_wp2
      go_ret
      exact ⟨rfl, HU.out⟩
theorem ref_power (x : Int) (hx : x = 4096 ∨ x = 512 ∨ x = 32) (w : World) :
    Calls Tryz.prog 206 #[.int .i64 x] w fun e w' => e = .returned (.bool true) ∧ w = w' := by
  rcases hx with rfl | rfl | rfl
  all_goals
    go_enter Tryz.func206, Tryz.ntmps206
    go_wp2
    go_ret
    exact ⟨rfl, rfl⟩
def Four (x : Int) (b0 b1 b2 b3 : UInt8) : Prop := x = 4096 ∧ b0 = 0 ∧ b1 = 16 ∧ b2 = 0 ∧ b3 = 0 ∨ x = 512 ∧ b0 = 0 ∧ b1 = 2 ∧ b2 = 0 ∧ b3 = 0 ∨ x = 32 ∧ b0 = 32 ∧ b1 = 0 ∧ b2 = 0 ∧ b3 = 0
set_option maxRecDepth 100000 in
theorem ref_four {w0 w : World} (hU : Upd none' w0 w) (x : Int) (b0 b1 b2 b3 : UInt8) (hb : Four x b0 b1 b2 b3) :
    Calls Tryz.prog 207 #[.int .i64 x] w fun e w' => e = .returned (.string ⟨#[b0, b1, b2, b3]⟩) ∧ Upd none' w0 w' := by
  have hB : Buf (w.alloc (.cells (bytesV [b0, b1, b2, b3]).toArray 5)) w.heap.size [b0, b1, b2, b3] 5 := ⟨[], (0, 0), by rw [List.append_nil]; exact heap_alloc_new w _, .inl rfl⟩
  have hst := run_string_buf hB 23 5 9 Tryz.underlying23 Tryz.underlying5 Tryz.underlying9 4 4 rfl
  clear hB
  have HU := Lib.hid hU
  have e0 : ((UInt8.toNat 0 : Nat) : Int) = 0 := rfl
  have e2 : ((UInt8.toNat 2 : Nat) : Int) = 2 := rfl
  have e16 : ((UInt8.toNat 16 : Nat) : Int) = 16 := rfl
  have e32 : ((UInt8.toNat 32 : Nat) : Int) = 32 := rfl
  clear hU
  rcases hb with ⟨rfl, rfl, rfl, rfl, rfl⟩ | ⟨rfl, rfl, rfl, rfl, rfl⟩ | ⟨rfl, rfl, rfl, rfl, rfl⟩
  all_goals
    simp only [bytesV, List.map_cons, List.map_nil, e0, e2, e16, e32] at hst
    go_enter Tryz.func207, Tryz.ntmps207
    clear e0 e2 e16 e32
    go_wp2
    go_ret
    exact ⟨rfl, HU.out.alloc _⟩
set_option maxRecDepth 100000 in
set_option maxHeartbeats 1000000 in
theorem ref_sfdp (w : World) :
    Calls Tryz.prog 187 #[.int .i64 4096, .int .i64 512, .int .i64 32] w fun e w' => e = .returned (.tuple #[.string sfdpTab, .int .i64 0]) ∧ Upd none' w w' := by
  have hU : Upd none' w w := Upd.refl _ _
  go_enter Tryz.func187, Tryz.ntmps187
  go_upto_region 4 with (first | (go_at_call 206; refine (ref_power _ (by omega) _).mono ?_; rintro e w' ⟨rfl, rfl⟩) | (go_at_call 207; refine (ref_four hU _ _ _ _ _ (by unfold Four; first | exact .inl ⟨rfl, rfl, rfl, rfl, rfl⟩ | exact .inr (.inl ⟨rfl, rfl, rfl, rfl, rfl⟩) | exact .inr (.inr ⟨rfl, rfl, rfl, rfl, rfl⟩))).mono ?_; rintro e w1 ⟨rfl, hU⟩))
  rw [show ({ data := #[83, 70, 68, 80, 6, 1, 0, 255] } ++ { data := #[0, 16, 0, 0] } ++ { data := #[0, 2, 0, 0] } ++ { data := #[32, 0, 0, 0] } : ByteArray) = outB 3 from by kernel_rfl]
  have hts : (outB 3).size = 20 := rfl
  have HT : Hid (outB 3 ++ ⟨#[255, 255, 255, 255, 255, 255, 255, 255, 255, 255, 255, 255]⟩ = sfdpTab) := by
    show outB 3 ++ ⟨#[255, 255, 255, 255, 255, 255, 255, 255, 255, 255, 255, 255]⟩ = sfdpTab
    kernel_rfl
  generalize outB 3 = T at *
  go_wp2_with (go_at_call 89; refine (ref_full12 _).mono ?_; rintro e w4 ⟨rfl, hU4⟩)
  go_ret2
  exact ⟨by rw [HT.out]; rfl, hU.trans hU4 (fun _ _ f => f)⟩
end Go.Proofs.YteombggfmeilaaaGreat
