/- The laws over package fifo. -/
import Derived.Test.YtdlhhlebbnefkaaFifo
namespace Go.Proofs.Ytdlhhlebbnefkaa
open Go.RowKit
theorem num_any (n : Int) (w : World) :
    Calls Try.prog 14 #[.int .i64 n] w fun e w' => e = .returned (.int .i64 n) ∧ w = w' := by
  go_enter Try.func14, Try.ntmps14
  go_wp2
  go_ret
  exact ⟨rfl, rfl⟩
theorem awake8 (w : World) :
    Calls Try.prog 18 #[] w fun e w' => e = .returned (.bool true) ∧ Upd none' w w' := by
  go_enter Try.func18, Try.ntmps18
  go_wp2_with fail
  refine (fifo_new_ok w).mono ?_
  rintro e w1 ⟨b, rfl, hb, hF1, hU1⟩
  go_wp2_with fail
  refine (fifo_push_ok b 3 _ w1 hF1 (by simp)).mono ?_
  rintro e w2 ⟨rfl, hF2, hU2⟩
  go_wp2_with fail
  refine (fifo_push_ok b 4 _ w2 hF2 (by simp)).mono ?_
  rintro e w3 ⟨rfl, hF3, hU3⟩
  go_wp2_with fail
  refine (fifo_pop_ok b 3 [4] w3 hF3).mono ?_
  rintro e w4 ⟨rfl, hF4, hU4⟩
  go_wp2_with fail
  refine (fifo_pop_ok b 4 [] w4 hF4).mono ?_
  rintro e w5 ⟨rfl, hF5, hU5⟩
  go_wp2_with fail
  refine (fifo_pop_no b w5 hF5).mono ?_
  rintro e w6 ⟨rfl, hF6, hU6⟩
  go_wp2_with fail
  refine (fifo_pop_nil w6).mono ?_
  rintro e w7 ⟨rfl, hA7⟩
  have hU7 := (Upd.refl none' w6).alike hA7
  have hF7 := hF6.upd hU7 (fun f => f)
  go_wp2_with (first | (go_at_call 14; refine (num_any _ _).mono ?_; rintro e w' ⟨rfl, rfl⟩) | (go_at_call 17; fail) | (go_at_call 15; fail))
  refine (fifo_len b [] _ hF7).mono ?_
  rintro e w8 ⟨rfl, hF8, hU8⟩
  go_wp2_with (first | (go_at_call 14; refine (num_any _ _).mono ?_; rintro e w' ⟨rfl, rfl⟩) | (go_at_call 15; fail))
  refine (fifo_push_nil 1 w8).mono ?_
  rintro e w9 ⟨rfl, hA9⟩
  have hU9 := (Upd.refl none' w8).alike hA9
  go_wp2_with (first | (go_at_call 14; refine (num_any _ _).mono ?_; rintro e w' ⟨rfl, rfl⟩) | (go_at_call 17; fail))
  refine (fifo_len_nil w9).mono ?_
  rintro e w10 ⟨rfl, hA10⟩
  have hU10 := (Upd.refl none' w9).alike hA10
  go_wp2
  go_ret
  refine ⟨rfl, ?_⟩
  have hs : ∀ k, k < w.heap.size → k = b → none' k := fun k h1 h2 => by omega
  have h2 := hU1.trans hU2 (fun k hk e => hs k hk e)
  have h3 := h2.trans hU3 hs
  have h4 := h3.trans hU4 hs
  have h5 := h4.trans hU5 hs
  have h6 := h5.trans hU6 hs
  exact (((h6.trans hU7 (fun _ _ f => f)).trans hU8 (fun _ _ f => f)).trans hU9 (fun _ _ f => f)).trans hU10 (fun _ _ f => f)
theorem take_snoc1 (xs : List Int) (i : Nat) (h : i < xs.length) : xs.take i ++ [xs[i]] = xs.take (i + 1) := by
  rw [List.take_add_one, List.getElem?_eq_getElem h]; rfl
theorem drop_take_cons (xs : List Int) (i k : Nat) (h : i < k) (hk : k ≤ xs.length) : (xs.take k).drop i = xs.getD i 0 :: (xs.take k).drop (i + 1) := by
  have hl : i < (xs.take k).length := by simp; omega
  rw [List.drop_eq_getElem_cons hl]
  simp [List.getD_eq_getElem?_getD, List.getElem?_eq_getElem (show i < xs.length by omega)]
theorem lawFifoRow (w : World) (v0 : Value) (xs : List Int) (h0 : IntsR w v0 xs) (a1 : Int) (_ : (Lit.int .i64 a1).wf = true) :
    Calls Try.prog 4 #[v0, .int .i64 a1] w fun e w' => e = .returned (.bool true) ∧ Upd none' w w' := by
  have hR := Lib.hid h0
  obtain ⟨h1, _, a, cap, rfl, h4, h5⟩ := h0
  go_enter Try.func4, Try.ntmps4
  go_wp2_with fail
  refine (awake8 w).mono ?_
  rintro e w1 ⟨rfl, hU1⟩
  go_wp2_with fail
  refine (fifo_new_ok w1).mono ?_
  rintro e w2 ⟨b, rfl, hb, hF, hU2⟩
  have hUw : Upd none' w w2 := hU1.trans hU2 (fun _ _ f => f)
  clear hU2
  by_cases hk : 16 < xs.length
  · go_wp2_with fail
    go_loopw [7] (fun iv wr => ∃ i : Nat, i ≤ 16 ∧ iv = .int .i64 i ∧ FifoAt wr b (xs.take i) ∧ Upd none' w wr) (fun iv _ => 16 - (intOf iv).toNat)
    case atStart => exact ⟨0, by omega, rfl, by simpa using hF, hUw⟩
    case round =>
      obtain ⟨i, hi, rfl, hFi, hUi⟩ := hrel
      by_cases hlt : i < 16
      · obtain ⟨bb, oo, rfl, hbb, hcc⟩ := h5 (by intro h; simp [h] at hk hlt)
        have hix : i < xs.length := by omega
        have hcell : wr.cell? ⟨bb, oo + i, none⟩ = some (.int .i64 (xs.getD i 0)) := by
          rw [hUi.cell (p := ⟨bb, oo + i, none⟩) hbb (fun f => f)]; exact hcc i (by omega)
        go_wp2_with fail
        refine (fifo_push_ok b _ _ wr hFi (by simp; omega)).mono ?_
        rintro e w3 ⟨rfl, hF3, hU3⟩
        have hU3' : Upd none' w w3 := hUi.trans hU3 (fun k h1 h2 => by have := hU1.size; omega)
        go_wp2_with (first | (go_at_call 14; refine (num_any _ _).mono ?_; rintro e w' ⟨rfl, rfl⟩) | (go_at_call 17; fail))
        rw [take_snoc1 xs i (by omega)] at hF3
        have hlen : (xs.take (i + 1)).length = i + 1 := by simp; omega
        refine (fifo_len b _ w3 hF3).mono ?_
        rintro e w4 ⟨rfl, hF4, hU4⟩
        have hU4' : Upd none' w w4 := hU3'.trans hU4 (fun _ _ f => f)
        go_wp2
        go_roundw
        case rel => exact ⟨i + 1, by omega, by go_num, hF4, hU4'⟩
        case measure => simp [intOf]; omega
      · have hieq : i = 16 := by omega
        subst hieq
        go_wp2_with (first | (go_at_call 15; fail))
        refine (fifo_push_no b a1 _ wr hFi (by simp; omega)).mono ?_
        rintro e w3 ⟨rfl, hF3, hU3⟩
        have hU3' : Upd none' w w3 := hUi.trans hU3 (fun k h1 h2 => by have := hU1.size; omega)
        go_wp2_with (go_at_call 14; refine (num_any _ _).mono ?_; rintro e w' ⟨rfl, rfl⟩)
        go_loopw [8] (fun iv wr => ∃ i : Nat, i ≤ 16 ∧ iv = .int .i64 i ∧ FifoAt wr b ((xs.take (16)).drop i) ∧ Upd none' w wr) (fun iv _ => 16 - (intOf iv).toNat)
        case atStart => exact ⟨0, by omega, rfl, by simpa using hF3, hU3'⟩
        case round =>
          obtain ⟨i, hi, rfl, hFi, hUi⟩ := hrel
          by_cases hlt : i < 16
          · obtain ⟨bb, oo, rfl, hbb, hcc⟩ := h5 (by intro h; simp [h] at hk hlt)
            have hix : i < xs.length := by omega
            have hcell : wr.cell? ⟨bb, oo + i, none⟩ = some (.int .i64 (xs.getD i 0)) := by
              rw [hUi.cell (p := ⟨bb, oo + i, none⟩) hbb (fun f => f)]; exact hcc i (by omega)
            rw [drop_take_cons xs i (16) hlt (by omega)] at hFi
            go_wp2_with fail
            refine (fifo_pop_ok b _ _ wr hFi).mono ?_
            rintro e w6 ⟨rfl, hF6, hU6⟩
            have hU6' : Upd none' w w6 := hUi.trans hU6 (fun k h1 h2 => by have := hU1.size; omega)
            have hcell6 : w6.cell? ⟨bb, oo + i, none⟩ = some (.int .i64 (xs.getD i 0)) := by
              rw [hU6'.cell (p := ⟨bb, oo + i, none⟩) hbb (fun f => f)]; exact hcc i (by omega)
            go_wp2_with (go_at_call 14; refine (num_any _ _).mono ?_; rintro e w' ⟨rfl, rfl⟩)
            go_roundw
            case rel => exact ⟨i + 1, by omega, by go_num, hF6, hU6'⟩
            case measure => simp [intOf]; omega
          · have hieq : i = 16 := by omega
            subst hieq
            rw [List.drop_of_length_le (by rw [List.length_take]; omega)] at hFi
            go_wp2_with fail
            refine (fifo_pop_no b wr hFi).mono ?_
            rintro e w6 ⟨rfl, hF6, hU6⟩
            have hU6' : Upd none' w w6 := hUi.trans hU6 (fun k h1 h2 => by have := hU1.size; omega)
            go_wp2_with (first | (go_at_call 14; refine (num_any _ _).mono ?_; rintro e w' ⟨rfl, rfl⟩) | (go_at_call 17; fail))
            refine (fifo_len b _ w6 hF6).mono ?_
            rintro e w7 ⟨rfl, hF7, hU7⟩
            go_wp2
            go_ret
            exact ⟨rfl, hU6'.trans hU7 (fun _ _ f => f)⟩
  · by_cases hk2 : xs.length = 16
    · have HK2 := Lib.hid hk2
      clear hk2
      go_wp2_with fail
      go_loopw [7] (fun iv wr => ∃ i : Nat, i ≤ xs.length ∧ iv = .int .i64 i ∧ FifoAt wr b (xs.take i) ∧ Upd none' w wr) (fun iv _ => xs.length - (intOf iv).toNat)
      case atStart => exact ⟨0, by omega, rfl, by simpa using hF, hUw⟩
      case round =>
        obtain ⟨i, hi, rfl, hFi, hUi⟩ := hrel
        by_cases hlt : i < xs.length
        · obtain ⟨bb, oo, rfl, hbb, hcc⟩ := h5 (by intro h; simp [h] at hk hlt)
          have hix : i < xs.length := by omega
          have hcell : wr.cell? ⟨bb, oo + i, none⟩ = some (.int .i64 (xs.getD i 0)) := by
            rw [hUi.cell (p := ⟨bb, oo + i, none⟩) hbb (fun f => f)]; exact hcc i (by omega)
          go_wp2_with fail
          refine (fifo_push_ok b _ _ wr hFi (by simp; omega)).mono ?_
          rintro e w3 ⟨rfl, hF3, hU3⟩
          have hU3' : Upd none' w w3 := hUi.trans hU3 (fun k h1 h2 => by have := hU1.size; omega)
          go_wp2_with (first | (go_at_call 14; refine (num_any _ _).mono ?_; rintro e w' ⟨rfl, rfl⟩) | (go_at_call 17; fail))
          rw [take_snoc1 xs i (by omega)] at hF3
          have hlen : (xs.take (i + 1)).length = i + 1 := by simp; omega
          refine (fifo_len b _ w3 hF3).mono ?_
          rintro e w4 ⟨rfl, hF4, hU4⟩
          have hU4' : Upd none' w w4 := hU3'.trans hU4 (fun _ _ f => f)
          go_wp2
          go_roundw
          case rel => exact ⟨i + 1, by omega, by go_num, hF4, hU4'⟩
          case measure => simp [intOf]; omega
        · have hieq : i = xs.length := by omega
          subst hieq
          have hne : ((xs.length : Int) == 16) = true := by rw [beq_iff_eq]; have := HK2.out; omega
          go_wp2_with (first | (go_at_call 15; fail))
          refine (fifo_push_no b a1 _ wr hFi (by have := HK2.out; simp; omega)).mono ?_
          rintro e w3 ⟨rfl, hF3, hU3⟩
          have hU3' : Upd none' w w3 := hUi.trans hU3 (fun k h1 h2 => by have := hU1.size; omega)
          go_wp2_with (go_at_call 14; refine (num_any _ _).mono ?_; rintro e w' ⟨rfl, rfl⟩)
          go_loopw [8] (fun iv wr => ∃ i : Nat, i ≤ xs.length ∧ iv = .int .i64 i ∧ FifoAt wr b ((xs.take (xs.length)).drop i) ∧ Upd none' w wr) (fun iv _ => xs.length - (intOf iv).toNat)
          case atStart => exact ⟨0, by omega, rfl, by simpa using hF3, hU3'⟩
          case round =>
            obtain ⟨i, hi, rfl, hFi, hUi⟩ := hrel
            by_cases hlt : i < xs.length
            · obtain ⟨bb, oo, rfl, hbb, hcc⟩ := h5 (by intro h; simp [h] at hk hlt)
              have hix : i < xs.length := by omega
              have hcell : wr.cell? ⟨bb, oo + i, none⟩ = some (.int .i64 (xs.getD i 0)) := by
                rw [hUi.cell (p := ⟨bb, oo + i, none⟩) hbb (fun f => f)]; exact hcc i (by omega)
              rw [drop_take_cons xs i (xs.length) hlt (by omega)] at hFi
              go_wp2_with fail
              refine (fifo_pop_ok b _ _ wr hFi).mono ?_
              rintro e w6 ⟨rfl, hF6, hU6⟩
              have hU6' : Upd none' w w6 := hUi.trans hU6 (fun k h1 h2 => by have := hU1.size; omega)
              have hcell6 : w6.cell? ⟨bb, oo + i, none⟩ = some (.int .i64 (xs.getD i 0)) := by
                rw [hU6'.cell (p := ⟨bb, oo + i, none⟩) hbb (fun f => f)]; exact hcc i (by omega)
              go_wp2_with (go_at_call 14; refine (num_any _ _).mono ?_; rintro e w' ⟨rfl, rfl⟩)
              go_roundw
              case rel => exact ⟨i + 1, by omega, by go_num, hF6, hU6'⟩
              case measure => simp [intOf]; omega
            · have hieq : i = xs.length := by omega
              subst hieq
              rw [List.drop_of_length_le (by rw [List.length_take]; omega)] at hFi
              go_wp2_with fail
              refine (fifo_pop_no b wr hFi).mono ?_
              rintro e w6 ⟨rfl, hF6, hU6⟩
              have hU6' : Upd none' w w6 := hUi.trans hU6 (fun k h1 h2 => by have := hU1.size; omega)
              go_wp2_with (first | (go_at_call 14; refine (num_any _ _).mono ?_; rintro e w' ⟨rfl, rfl⟩) | (go_at_call 17; fail))
              refine (fifo_len b _ w6 hF6).mono ?_
              rintro e w7 ⟨rfl, hF7, hU7⟩
              go_wp2
              go_ret
              exact ⟨rfl, hU6'.trans hU7 (fun _ _ f => f)⟩
    · go_wp2_with fail
      go_loopw [7] (fun iv wr => ∃ i : Nat, i ≤ xs.length ∧ iv = .int .i64 i ∧ FifoAt wr b (xs.take i) ∧ Upd none' w wr) (fun iv _ => xs.length - (intOf iv).toNat)
      case atStart => exact ⟨0, by omega, rfl, by simpa using hF, hUw⟩
      case round =>
        obtain ⟨i, hi, rfl, hFi, hUi⟩ := hrel
        by_cases hlt : i < xs.length
        · obtain ⟨bb, oo, rfl, hbb, hcc⟩ := h5 (by intro h; simp [h] at hk hlt)
          have hix : i < xs.length := by omega
          have hcell : wr.cell? ⟨bb, oo + i, none⟩ = some (.int .i64 (xs.getD i 0)) := by
            rw [hUi.cell (p := ⟨bb, oo + i, none⟩) hbb (fun f => f)]; exact hcc i (by omega)
          go_wp2_with fail
          refine (fifo_push_ok b _ _ wr hFi (by simp; omega)).mono ?_
          rintro e w3 ⟨rfl, hF3, hU3⟩
          have hU3' : Upd none' w w3 := hUi.trans hU3 (fun k h1 h2 => by have := hU1.size; omega)
          go_wp2_with (first | (go_at_call 14; refine (num_any _ _).mono ?_; rintro e w' ⟨rfl, rfl⟩) | (go_at_call 17; fail))
          rw [take_snoc1 xs i (by omega)] at hF3
          have hlen : (xs.take (i + 1)).length = i + 1 := by simp; omega
          refine (fifo_len b _ w3 hF3).mono ?_
          rintro e w4 ⟨rfl, hF4, hU4⟩
          have hU4' : Upd none' w w4 := hU3'.trans hU4 (fun _ _ f => f)
          go_wp2
          go_roundw
          case rel => exact ⟨i + 1, by omega, by go_num, hF4, hU4'⟩
          case measure => simp [intOf]; omega
        · have hieq : i = xs.length := by omega
          subst hieq
          have hne : ((xs.length : Int) == 16) = false := by rw [beq_eq_false_iff_ne]; omega
          go_wp2_with fail
          have hF3 := hFi
          have hU3' := hUi
          go_loopw [8] (fun iv wr => ∃ i : Nat, i ≤ xs.length ∧ iv = .int .i64 i ∧ FifoAt wr b ((xs.take (xs.length)).drop i) ∧ Upd none' w wr) (fun iv _ => xs.length - (intOf iv).toNat)
          case atStart => exact ⟨0, by omega, rfl, by simpa using hF3, hU3'⟩
          case round =>
            obtain ⟨i, hi, rfl, hFi, hUi⟩ := hrel
            by_cases hlt : i < xs.length
            · obtain ⟨bb, oo, rfl, hbb, hcc⟩ := h5 (by intro h; simp [h] at hk hlt)
              have hix : i < xs.length := by omega
              have hcell : wr.cell? ⟨bb, oo + i, none⟩ = some (.int .i64 (xs.getD i 0)) := by
                rw [hUi.cell (p := ⟨bb, oo + i, none⟩) hbb (fun f => f)]; exact hcc i (by omega)
              rw [drop_take_cons xs i (xs.length) hlt (by omega)] at hFi
              go_wp2_with fail
              refine (fifo_pop_ok b _ _ wr hFi).mono ?_
              rintro e w6 ⟨rfl, hF6, hU6⟩
              have hU6' : Upd none' w w6 := hUi.trans hU6 (fun k h1 h2 => by have := hU1.size; omega)
              have hcell6 : w6.cell? ⟨bb, oo + i, none⟩ = some (.int .i64 (xs.getD i 0)) := by
                rw [hU6'.cell (p := ⟨bb, oo + i, none⟩) hbb (fun f => f)]; exact hcc i (by omega)
              go_wp2_with (go_at_call 14; refine (num_any _ _).mono ?_; rintro e w' ⟨rfl, rfl⟩)
              go_roundw
              case rel => exact ⟨i + 1, by omega, by go_num, hF6, hU6'⟩
              case measure => simp [intOf]; omega
            · have hieq : i = xs.length := by omega
              subst hieq
              rw [List.drop_of_length_le (by rw [List.length_take]; omega)] at hFi
              go_wp2_with fail
              refine (fifo_pop_no b wr hFi).mono ?_
              rintro e w6 ⟨rfl, hF6, hU6⟩
              have hU6' : Upd none' w w6 := hUi.trans hU6 (fun k h1 h2 => by have := hU1.size; omega)
              go_wp2_with (first | (go_at_call 14; refine (num_any _ _).mono ?_; rintro e w' ⟨rfl, rfl⟩) | (go_at_call 17; fail))
              refine (fifo_len b _ w6 hF6).mono ?_
              rintro e w7 ⟨rfl, hF7, hU7⟩
              go_wp2
              go_ret
              exact ⟨rfl, hU6'.trans hU7 (fun _ _ f => f)⟩
end Go.Proofs.Ytdlhhlebbnefkaa
