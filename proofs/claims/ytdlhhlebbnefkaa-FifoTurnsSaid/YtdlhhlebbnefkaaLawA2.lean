/- The law FifoTurns. -/
import Derived.Test.YtdlhhlebbnefkaaLawA
namespace Go.Proofs.Ytdlhhlebbnefkaa
open Go.RowKit
def turns (o n : Nat) : List Int := (List.range (n - o)).map fun j => ((o + j : Nat) : Int)
theorem turns_len (o n : Nat) : (turns o n).length = n - o := by simp [turns]
theorem turns_push (o n : Nat) (h : o ≤ n) : turns o n ++ [(n : Int)] = turns o (n + 1) := by
  unfold turns
  rw [show n + 1 - o = (n - o) + 1 by omega, List.range_succ, List.map_append]
  simp; omega
theorem turns_pop (o n : Nat) (h : o < n) : turns o n = (o : Int) :: turns (o + 1) n := by
  unfold turns
  rw [show n - o = (n - (o + 1)) + 1 by omega, List.range_succ_eq_map]
  simp [Function.comp_def, Nat.add_assoc, Nat.add_comm 1]
set_option maxRecDepth 100000 in
theorem lawFifoTurns (w : World) (v0 : Value) (xs : List Int) (h0 : IntsR w v0 xs) :
    Calls Try.prog 5 #[v0] w fun e w' => e = .returned (.bool true) ∧ Upd none' w w' := by
  obtain ⟨h1, _, a, cap, rfl, h4, h5⟩ := h0
  go_enter Try.func5, Try.ntmps5
  go_wp2_with fail
  refine (awake8 w).mono ?_
  rintro e w1 ⟨rfl, hU1⟩
  go_wp2_with fail
  refine (fifo_new_ok w1).mono ?_
  rintro e w2 ⟨b, rfl, hb, hF, hU2⟩
  have hUw : Upd none' w w2 := hU1.trans hU2 (fun _ _ f => f)
  clear hU2
  go_wp2_with fail
  go_loopw [4, 5, 6] (fun nv ov iv wr => ∃ o n i : Nat, o ≤ n ∧ n - o ≤ 16 ∧ n ≤ i ∧ i ≤ 100 ∧ nv = .int .i64 n ∧ ov = .int .i64 o ∧ iv = .int .i64 i ∧ FifoAt wr b (turns o n) ∧ Upd none' w wr) (fun _ _ iv _ => 100 - (intOf iv).toNat)
  case atStart => exact ⟨0, 0, 0, by omega, by omega, by omega, by omega, rfl, rfl, rfl, by simpa [turns] using hF, hUw⟩
  case round =>
    obtain ⟨o, n, i, hon, hno, hni, hi, rfl, rfl, rfl, hFi, hUi⟩ := hrel
    have hl := turns_len o n
    have HL := Lib.hid hl
    clear hl
    by_cases hlt : i < xs.length ∧ i < 100
    · obtain ⟨hlt1, hlt2⟩ := hlt
      obtain ⟨bb, oo, rfl, hbb, hcc⟩ := h5 (by intro h; simp [h] at hlt1)
      have hcell : wr.cell? ⟨bb, oo + i, none⟩ = some (.int .i64 (xs.getD i 0)) := by
        rw [hUi.cell (p := ⟨bb, oo + i, none⟩) hbb (fun f => f)]; exact hcc i hlt1
      go_wp2_with fail
      · by_cases hroom : n - o < 16
        · have ht : (n : Int) - (o : Int) < 16 := by omega
          refine (fifo_push_ok b _ _ wr hFi (by have := HL.out; omega)).mono ?_
          rintro e w3 ⟨rfl, hF3, hU3⟩
          rw [turns_push o n hon] at hF3
          have hU3' : Upd none' w w3 := hUi.trans hU3 (fun k h1 h2 => by have := hU1.size; omega)
          go_wp2_with (first | (go_at_call 14; refine (num_any _ _).mono ?_; rintro e w' ⟨rfl, rfl⟩) | (go_at_call 17; fail))
          refine (fifo_len b _ w3 hF3).mono ?_
          rintro e w4 ⟨rfl, hF4, hU4⟩
          have hU4' : Upd none' w w4 := hU3'.trans hU4 (fun _ _ f => f)
          have hl3 := turns_len o (n + 1)
          have hl4 : ((turns o (n + 1)).length : Int) = ((n + 1 : Nat) : Int) - ((o : Nat) : Int) := by omega
          clear hl3
          first | rw [hl4] | skip
          have HL4 := Lib.hid hl4
          clear hl4
          go_wp2
          go_roundw
          case rel => exact ⟨o, n + 1, i + 1, by omega, by omega, by omega, by omega, by go_num, by go_num, by go_num, hF4, hU4'⟩
          case measure => simp [intOf]; omega
        · have ht : ¬ (n : Int) - (o : Int) < 16 := by omega
          refine (fifo_push_no b _ _ wr hFi (by have := HL.out; omega)).mono ?_
          rintro e w3 ⟨rfl, hF3, hU3⟩
          have hU3' : Upd none' w w3 := hUi.trans hU3 (fun k h1 h2 => by have := hU1.size; omega)
          go_wp2_with (first | (go_at_call 14; refine (num_any _ _).mono ?_; rintro e w' ⟨rfl, rfl⟩) | (go_at_call 17; fail))
          refine (fifo_len b _ w3 hF3).mono ?_
          rintro e w4 ⟨rfl, hF4, hU4⟩
          have hU4' : Upd none' w w4 := hU3'.trans hU4 (fun _ _ f => f)
          have hl3 := turns_len o n
          have hl4 : ((turns o n).length : Int) = ((n : Nat) : Int) - ((o : Nat) : Int) := by omega
          clear hl3
          first | rw [hl4] | skip
          have HL4 := Lib.hid hl4
          clear hl4
          go_wp2
          go_roundw
          case rel => exact ⟨o, n, i + 1, by omega, by omega, by omega, by omega, by go_num, by go_num, by go_num, hF4, hU4'⟩
          case measure => simp [intOf]; omega
      · by_cases hsome : o < n
        · have ht : (o : Int) < (n : Int) := by omega
          rw [turns_pop o n hsome] at hFi
          refine (fifo_pop_ok b _ _ wr hFi).mono ?_
          rintro e w3 ⟨rfl, hF3, hU3⟩
          have hU3' : Upd none' w w3 := hUi.trans hU3 (fun k h1 h2 => by have := hU1.size; omega)
          go_wp2_with (first | (go_at_call 14; refine (num_any _ _).mono ?_; rintro e w' ⟨rfl, rfl⟩) | (go_at_call 17; fail))
          refine (fifo_len b _ w3 hF3).mono ?_
          rintro e w4 ⟨rfl, hF4, hU4⟩
          have hU4' : Upd none' w w4 := hU3'.trans hU4 (fun _ _ f => f)
          have hl3 := turns_len (o + 1) n
          have hl4 : ((turns (o + 1) n).length : Int) = ((n : Nat) : Int) - ((o + 1 : Nat) : Int) := by omega
          clear hl3
          first | rw [hl4] | skip
          have HL4 := Lib.hid hl4
          clear hl4
          go_wp2
          go_roundw
          case rel => exact ⟨o + 1, n, i + 1, by omega, by omega, by omega, by omega, by go_num, by go_num, by go_num, hF4, hU4'⟩
          case measure => simp [intOf]; omega
        · have ht : ¬ (o : Int) < (n : Int) := by omega
          rw [show turns o n = [] from List.eq_nil_of_length_eq_zero (by have := HL.out; omega)] at hFi
          refine (fifo_pop_no b wr hFi).mono ?_
          rintro e w3 ⟨rfl, hF3, hU3⟩
          rw [show [] = turns o n from (List.eq_nil_of_length_eq_zero (by have := HL.out; omega)).symm] at hF3
          have hU3' : Upd none' w w3 := hUi.trans hU3 (fun k h1 h2 => by have := hU1.size; omega)
          go_wp2_with (first | (go_at_call 14; refine (num_any _ _).mono ?_; rintro e w' ⟨rfl, rfl⟩) | (go_at_call 17; fail))
          refine (fifo_len b _ w3 hF3).mono ?_
          rintro e w4 ⟨rfl, hF4, hU4⟩
          have hU4' : Upd none' w w4 := hU3'.trans hU4 (fun _ _ f => f)
          have hl3 := turns_len o n
          have hl4 : ((turns o n).length : Int) = ((n : Nat) : Int) - ((o : Nat) : Int) := by omega
          clear hl3
          first | rw [hl4] | skip
          have HL4 := Lib.hid hl4
          clear hl4
          go_wp2
          go_roundw
          case rel => exact ⟨o, n, i + 1, by omega, by omega, by omega, by omega, by go_num, by go_num, by go_num, hF4, hU4'⟩
          case measure => simp [intOf]; omega
    · by_cases hlt1 : i < xs.length
      · have hlt2 : ¬ (i : Int) < 100 := by omega
        go_wp2
        go_ret
        exact ⟨rfl, hUi⟩
      · go_wp2
        go_ret
        exact ⟨rfl, hUi⟩
end Go.Proofs.Ytdlhhlebbnefkaa
