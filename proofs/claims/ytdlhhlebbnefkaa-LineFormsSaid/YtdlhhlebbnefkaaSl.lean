/- Slices that are read: 'RS'; slices.Index; line.begins, line.First. -/
import Derived.Test.YtdlhhlebbnefkaaRow
import Derived.Test.YtdlhhlebbnefkaaProg
import Derived.Test.YtdlhhlebbnefkaaRefFifo
namespace Go.Proofs.Ytdlhhlebbnefkaa
open Go.RowKit
/-- v is a slice that reads as vs. -/
def RS (w : World) (v : Value) (vs : List Value) : Prop :=
  vs.length * 8 ≤ 140737488351232 ∧ ∃ a cap, v = .slice a vs.length cap ∧ vs.length ≤ cap ∧
    (vs ≠ [] → ∃ b o, a = some ⟨b, o, none⟩ ∧ b < w.heap.size ∧ ∀ j, j < vs.length → w.cell? ⟨b, o + j, none⟩ = vs[j]?)
theorem RS.upd {S : Nat → Prop} {w w' : World} {v : Value} {xs : List Value} (h : RS w v xs) (u : Upd S w w') (hS : ∀ k, k < w.heap.size → v.ownBlock = some k → ¬ S k) : RS w' v xs := by
  obtain ⟨h1, a, cap, h3, h4, h5⟩ := h
  refine ⟨h1, a, cap, h3, h4, fun hn => ?_⟩
  obtain ⟨b, o, h6, h7, h8⟩ := h5 hn
  exact ⟨b, o, h6, Nat.lt_of_lt_of_le h7 u.size, fun j hj => by rw [u.cell (p := ⟨b, o + j, none⟩) h7 (hS b h7 (by rw [h3, h6]; rfl))]; exact h8 j hj⟩
def idx (xs : List Int) (x : Int) : Int := match xs.findIdx? (· == x) with | some i => i | none => -1
theorem idx_loop (xs : List Int) (x : Int) (i : Nat) (hi : i < xs.length) (hno : ∀ j, j < i → xs.getD j 0 ≠ x) (h : xs.getD i 0 = x) : idx xs x = i := by
  have : xs.findIdx? (· == x) = some i := by
    rw [List.findIdx?_eq_some_iff_getElem]
    refine ⟨hi, ?_, fun j hj => ?_⟩
    · simpa [List.getD_eq_getElem?_getD, List.getElem?_eq_getElem hi] using h
    · have := hno j hj
      simpa [List.getD_eq_getElem?_getD, List.getElem?_eq_getElem (show j < xs.length by omega)] using this
  simp [idx, this]
theorem idx_none (xs : List Int) (x : Int) (hno : ∀ j, j < xs.length → xs.getD j 0 ≠ x) : idx xs x = -1 := by
  have : xs.findIdx? (· == x) = none := by
    rw [List.findIdx?_eq_none_iff]
    intro y hy
    obtain ⟨j, hj, rfl⟩ := List.getElem_of_mem hy
    have := hno j hj
    simpa [List.getD_eq_getElem?_getD, List.getElem?_eq_getElem hj] using this
  simp [idx, this]
set_option maxHeartbeats 1000000 in
theorem slices_index (w : World) (v : Value) (xs : List Int) (h : RS w v (ints xs)) (x : Int) :
    Calls Try.prog 35 #[v, .int .i64 x] w fun e w' => e = .returned (.int .i64 (idx xs x)) ∧ w = w' := by
  obtain ⟨h1, a, cap, rfl, h4, h5⟩ := h
  have hlen : (ints xs).length = xs.length := by simp [ints]
  rw [hlen] at h1 h4 h5
  rw [hlen]
  go_enter Try.func35, Try.ntmps35
  go_wp2_with fail
  go_loopw [8] (fun iv wr => ∃ i : Nat, i ≤ xs.length ∧ iv = .int .i64 i ∧ Hid (w = wr) ∧ ∀ j, j < i → xs.getD j 0 ≠ x) (fun iv _ => xs.length - (intOf iv).toNat)
  case atStart => exact ⟨0, by omega, rfl, Lib.hid rfl, fun j hj => by omega⟩
  case round =>
    obtain ⟨i, hi, rfl, hw, hno⟩ := hrel
    by_cases hlt : i < xs.length
    · obtain ⟨bb, oo, rfl, hbb, hcc⟩ := h5 (by intro h; simp [ints] at h; simp [h] at hlt)
      have hcell : wr.cell? ⟨bb, oo + i, none⟩ = some (.int .i64 (xs.getD i 0)) := by
        rw [← hw.out, hcc i hlt]; simp [ints, List.getD_eq_getElem?_getD, List.getElem?_eq_getElem hlt]
      clear hcc
      obtain ⟨y, hy⟩ : ∃ y, xs.getD i 0 = y := ⟨_, rfl⟩
      rw [hy] at hcell
      have HY := Lib.hid hy
      clear hy
      by_cases he : x = y
      · have hb : (x == y) = true := by simpa using he
        go_wp2
        go_ret
        exact ⟨by rw [idx_loop xs x i hlt hno (HY.out.trans he.symm)]; rfl, hw.out⟩
      · have hb : (x == y) = false := by simpa using he
        go_wp2
        refine ⟨?rel, ?measure⟩
        case rel => exact ⟨i + 1, by omega, by go_num, hw, fun j hj => by
          rcases Nat.lt_succ_iff_lt_or_eq.1 hj with h | h
          · exact hno j h
          · subst h; exact fun e => he (e.symm.trans HY.out)⟩
        case measure => simp [intOf]; omega
    · have hieq : i = xs.length := by omega
      subst hieq
      go_wp2
      go_ret
      exact ⟨by rw [idx_none xs x hno]; rfl, hw.out⟩
/-- May a line begin there? -/
def beginsB (x : Int) : Bool := decide (0 ≤ x ∧ x < 4096 ∧ x % 16 = 0)
theorem line_begins (w : World) (x : Int) :
    Calls Try.prog 32 #[.int .i64 x] w fun e w' => e = .returned (.bool (beginsB x)) ∧ w = w' := by
  by_cases h0 : 0 ≤ x
  · by_cases h1 : x < 4096
    · by_cases h2 : x % 16 = 0
      · have h3 : (x.tmod 16 == 0) = true := by rw [Int.tmod_eq_emod_of_nonneg h0]; simpa using h2
        have h5 : (x % 16 == 0) = true := by simpa using h2
        go_enter Try.func32, Try.ntmps32
        go_wp2
        go_ret
        exact ⟨by rw [show beginsB x = true from decide_eq_true ⟨h0, h1, h2⟩]; rfl, rfl⟩
      · have h3 : (x.tmod 16 == 0) = false := by rw [Int.tmod_eq_emod_of_nonneg h0]; simpa using h2
        have h5 : (x % 16 == 0) = false := by simpa using h2
        go_enter Try.func32, Try.ntmps32
        go_wp2
        go_ret
        exact ⟨by rw [show beginsB x = false from decide_eq_false (by omega)]; first | rfl | (rw [h5]; rfl), rfl⟩
    · go_enter Try.func32, Try.ntmps32
      go_wp2
      go_ret
      exact ⟨by rw [show beginsB x = false from decide_eq_false (by omega)]; first | rfl | (rw [h5]; rfl), rfl⟩
  · go_enter Try.func32, Try.ntmps32
    go_wp2
    go_ret
    exact ⟨by rw [show beginsB x = false from decide_eq_false (by omega)]; first | rfl | (rw [h5]; rfl), rfl⟩
theorem line_first (w : World) (x : Int) (h0 : 0 ≤ x) (h1 : x < 9223372036854775808) :
    Calls Try.prog 37 #[.int .i64 x] w fun e w' => e = .returned (.int .i64 (x - x % 16)) ∧ w = w' := by
  have h3 : x.tmod 16 = x % 16 := Int.tmod_eq_emod_of_nonneg h0
  go_enter Try.func37, Try.ntmps37
  go_wp2
  go_ret
  exact ⟨by go_num, rfl⟩
end Go.Proofs.Ytdlhhlebbnefkaa
