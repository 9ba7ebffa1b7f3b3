/- The walk over bytesOf. · The walk over bytesOf, among what a law holds. · What is told is read back. -/
import Derived.Test.YtjdjdfllggpckaaGreatLow
import Derived.Test.YtjdjdfllggpckaaGreatCtxC
import Derived.Test.YtjdjdfllggpckaaGreatPure
namespace Go.Proofs.YtjdjdfllggpckaaGreat
open Go.RowKit
def bitsTo (xs : List Int) (p n : Nat) : Int := (List.range n).foldl (fun x t => x * 2 + xs.getD (p + t) 0 / 2 % 2) 0
theorem bitsTo_succ (xs : List Int) (p n : Nat) : bitsTo xs p (n + 1) = bitsTo xs p n * 2 + xs.getD (p + n) 0 / 2 % 2 := by
  unfold bitsTo
  rw [List.range_succ, List.foldl_append]
  rfl
theorem bitsTo_bd (xs : List Int) (p n : Nat) : 0 ≤ bitsTo xs p n ∧ bitsTo xs p n < 2 ^ n := by
  induction n with
  | zero => exact ⟨Int.le_refl 0, show (0 : Int) < 2 ^ 0 by decide⟩
  | succ n ih =>
    rw [bitsTo_succ, Int.pow_succ]
    omega
def bytesN (xs : List Int) (from' n : Nat) : List Int := (List.range n).map (fun j => bitsTo xs (from' + 8 * j) 8)
theorem bytesN_succ (xs : List Int) (f n : Nat) : bytesN xs f (n + 1) = bytesN xs f n ++ [bitsTo xs (f + 8 * n) 8] := by
  unfold bytesN
  rw [List.range_succ, List.map_append]
  rfl
theorem bytesN_len (xs : List Int) (f n : Nat) : (bytesN xs f n).length = n := by unfold bytesN; rw [List.length_map, List.length_range]
set_option maxRecDepth 100000 in
set_option maxHeartbeats 2000000 in
theorem law_bytesOf (w : World) (a0 : Option Addr) (n0 c0 : Nat) (xs : List Int) (f : Nat) (hr : RS w (.slice a0 n0 c0) (ints xs)) (hlen : xs.length ≤ 1048576) (hf : f ≤ xs.length) :
    Calls Tryz.prog 17 #[.slice a0 n0 c0, .int .i64 (f : Int)] w fun e w' => ∃ v', e = .returned v' ∧ Row w' 3 v' (ints (bytesN xs f ((xs.length - f) / 8))) ∧ (∀ g, v'.ownBlock = some g → w.heap.size ≤ g) ∧ Upd none' w w' := by
  have HR := Lib.hid hr
  obtain ⟨h1, a', cap', e0, h4, h5⟩ := hr
  simp only [Value.slice.injEq, ints_len] at e0 h4 h5 h1
  obtain ⟨rfl, rfl, rfl⟩ := e0
  obtain ⟨n, hn⟩ : ∃ n, (xs.length - f) / 8 = n := ⟨_, rfl⟩
  rw [hn]
  have hn8 : f + 8 * n ≤ xs.length := by omega
  have hn9 : xs.length < f + 8 * n + 8 := by omega
  clear hn HR
  go_enter Tryz.func17, Tryz.ntmps17
  go_wp2_with fail
  go_loopw [5, 6] (fun ov iv wr => ∃ j : Nat, j ≤ n ∧ iv = .int .i64 ((f + 8 * j : Nat) : Int) ∧ Row wr 3 ov (ints (bytesN xs f j)) ∧ (∀ g, ov.ownBlock = some g → w.heap.size ≤ g) ∧ Upd none' w wr) (fun _ iv _ => xs.length + 8 - (intOf iv).toNat)
  case atStart => exact ⟨0, by omega, by simp, Row.nil _ _, fun k hk => (by simp [Value.ownBlock] at hk), Upd.refl _ _⟩
  case round =>
    obtain ⟨j, hj, rfl, hrow, hown, hU⟩ := hrel
    obtain ⟨oa, oc, rfl, -⟩ := hrow.form
    have hol : (ints (bytesN xs f j)).length = j := by rw [ints_len, bytesN_len]
    rw [hol] at hrow hown ⊢
    obtain ⟨p, hp⟩ : ∃ p, f + 8 * j = p := ⟨_, rfl⟩
    rw [hp]
    have HROW := Lib.hid hrow
    have HOWN := Lib.hid hown
    have HU := Lib.hid hU
    have HOL := Lib.hid hol
    clear hrow hown hU hol
    by_cases hlt : j < n
    · have hple : p + 8 ≤ xs.length := by omega
      obtain ⟨bb, oo, rfl, hbb, hcc⟩ := h5 (by intro h; simp [ints] at h; simp [h] at hple)
      have HCC := Lib.hid hcc
      clear hcc h5
      go_wp2_with fail
      go_loopw [7, 8] (fun xv tv w2 => ∃ t : Nat, t ≤ 8 ∧ tv = .int .i64 (t : Int) ∧ xv = .int .i64 (bitsTo xs p t) ∧ Hid (wr = w2)) (fun _ tv _ => 8 - (intOf tv).toNat)
      case atStart => exact ⟨0, by omega, rfl, rfl, Lib.hid rfl⟩
      case round =>
        rename World => W2
        obtain ⟨t, ht, rfl, rfl, hw2⟩ := hrel
        by_cases ht8 : t < 8
        · have hbd := bitsTo_bd xs p t
          have hsu := bitsTo_succ xs p t
          obtain ⟨y, hy⟩ : ∃ y, xs.getD (p + t) 0 = y := ⟨_, rfl⟩
          rw [hy] at hsu
          have hcell : W2.cell? ⟨bb, oo + (p + t), none⟩ = some (.int .i64 y) := by
            rw [← hw2.out, HU.out.cell (p := ⟨bb, oo + (p + t), none⟩) hbb (fun f => f), HCC.out (p + t) (by omega), ints_at _ _ (by omega), hy]
          have hpw : (2 : Int) ^ t ≤ 128 := by
            rcases (show t = 0 ∨ t = 1 ∨ t = 2 ∨ t = 3 ∨ t = 4 ∨ t = 5 ∨ t = 6 ∨ t = 7 by omega) with rfl | rfl | rfl | rfl | rfl | rfl | rfl | rfl <;> decide
          have HSU := Lib.hid hsu
          obtain ⟨b0, hb0⟩ : ∃ b0, bitsTo xs p t = b0 := ⟨_, rfl⟩
          rw [hb0] at hbd HSU ⊢
          have hb1 : 0 ≤ b0 ∧ b0 < 128 := by omega
          have ha := i64_and1 (y / 2)
          have ho := i64_or1 (b0 * 2) (y / 2 % 2) (by omega) (by omega) (by omega) (by omega) (by omega)
          clear hbd hpw hsu hy
          go_wp2
          refine ⟨?rel, ?measure⟩
          case rel => exact ⟨t + 1, by omega, by go_num, by rw [HSU.out], hw2⟩
          case measure => simp [intOf]; omega
        · have ht9 : t = 8 := by omega
          subst ht9
          obtain ⟨b0, hb0⟩ : ∃ b0, bitsTo xs p 8 = b0 := ⟨_, rfl⟩
          rw [hb0]
          have hrow2 : Row W2 3 (.slice oa j oc) (ints (bytesN xs f j)) := hw2.out ▸ HROW.out
          have HROW2 := Lib.hid hrow2
          have HB0 := Lib.hid hb0
          clear hrow2 hb0
          go_wp2_with (at_builtin; go_must (refine wpList_app1 rfl _ _ 27 rfl 3 (.int .i64 0) 8 Tryz.underlying27 info_int rfl _ (ints (bytesN xs f j)) j HOL.out rfl W2 (.int .i64 b0) ⟨rfl, rfl, rfl⟩ HROW2.out rfl rfl (by omega) (by omega) ?_); intro g cap w3 hR3 hU3 hg3 hgs3)
          have hU' : Upd none' w W2 := hw2.out ▸ HU.out
          have hg : w.heap.size ≤ g := by
            rcases hg3 with e | e
            · exact HOWN.out g e
            · have := hU'.size; omega
          refine ⟨?rel, ?measure⟩
          case rel =>
            refine ⟨j + 1, by omega, ?_, ?_, ?_, ?_⟩
            · rw [show ((f + 8 * (j + 1) : Nat) : Int) = (p : Int) + 8 by omega]
            · rw [bytesN_succ, hp, HB0.out, ints_app]
              exact hR3
            · intro k hk
              simp [Value.ownBlock] at hk
              rw [← hk]
              exact hg
            · exact hU'.trans hU3 (fun k h1 h2 => absurd (HOWN.out k h2) (by omega))
          case measure => simp [intOf]; omega
    · have hjn : j = n := by omega
      subst hjn
      have hpgt : ¬ p + 8 ≤ xs.length := by omega
      go_wp2
      go_ret
      exact ⟨.slice oa j oc, rfl, HROW.out, HOWN.out, HU.out⟩
end Go.Proofs.YtjdjdfllggpckaaGreat
namespace Go.Proofs.YtjdjdfllggpckaaGreat
open Go.RowKit
theorem c_bytesOf {P Q : Own} {w0 w : World} {rows : List (Value × List Value)} (hC : Ctx P Q w0 w rows) (i : Nat) (a : Option Addr) (m c : Nat) (xs : List Int) (hi : rows[i]? = some (.slice a m c, ints xs)) (f : Nat) (x : Int) (hx : x = (f : Int)) (n : Nat) (hn : (m - f) / 8 = n) (hf : f ≤ m) (hl : m ≤ 1048576) (ys : List Int) (hy : bytesN xs f n = ys) :
    Calls Tryz.prog 17 #[.slice a m c, .int .i64 x] w fun e w' => ∃ a' c', e = .returned (.slice a' n c') ∧ (a' = none → c' = 0) ∧ Ctx P Q w0 w' ((.slice a' n c', ints ys) :: rows) := by
  subst hx
  have hrs := hC.rs i hi
  have hlen := hrs.len.1
  rw [ints_len] at hlen
  refine (hC.quiet (X := fun e news => ∃ a' c', e = .returned (.slice a' n c') ∧ (a' = none → c' = 0) ∧ news = [(.slice a' n c', ints ys)]) ((law_bytesOf w a m c xs f hrs (by omega) (by omega)).mono ?_)).mono ?_
  · rintro e w' ⟨v', rfl, hR, hf, hU⟩
    rw [← hlen, hn, hy] at hR
    obtain ⟨a', c', rfl, -, hn', -⟩ := hR.form
    have hL : (ints ys).length = n := by rw [ints_len, ← hy, bytesN_len]
    rw [hL] at hR hf ⊢
    refine ⟨_, ⟨a', c', rfl, fun h => (hn' h).2, rfl⟩, fun r hr => ?_, hU⟩
    obtain rfl := List.mem_singleton.1 hr
    exact row_new hR (by omega) (fun k hk => ⟨hf k hk, fun f => f⟩)
  · rintro e w' ⟨news, ⟨a', c', rfl, h1, rfl⟩, h2⟩
    exact ⟨a', c', rfl, h1, h2⟩
end Go.Proofs.YtjdjdfllggpckaaGreat
namespace Go.Proofs.YtjdjdfllggpckaaGreat
open Go.RowKit
theorem tell_bit (v k : Int) : (13 + 2 * (v / k % 2)) / 2 % 2 = v / k % 2 := by
  generalize v / k = q
  omega
theorem bitsTo_tell (xs : List Int) (p : Nat) (v : Int) (hv : 0 ≤ v ∧ v ≤ 255) (h : ∀ t, t < 8 → xs.getD (p + t) 0 = (tellL v).getD t 0) : bitsTo xs p 8 = v := by
  have h0 := h 0 (by decide)
  have h1 := h 1 (by decide)
  have h2 := h 2 (by decide)
  have h3 := h 3 (by decide)
  have h4 := h 4 (by decide)
  have h5 := h 5 (by decide)
  have h6 := h 6 (by decide)
  have h7 := h 7 (by decide)
  clear h
  have e : bitsTo xs p 8 = (((((((0 * 2 + xs.getD (p + 0) 0 / 2 % 2) * 2 + xs.getD (p + 1) 0 / 2 % 2) * 2 + xs.getD (p + 2) 0 / 2 % 2) * 2 + xs.getD (p + 3) 0 / 2 % 2) * 2 + xs.getD (p + 4) 0 / 2 % 2) * 2 + xs.getD (p + 5) 0 / 2 % 2) * 2 + xs.getD (p + 6) 0 / 2 % 2) * 2 + xs.getD (p + 7) 0 / 2 % 2 := rfl
  rw [e, h0, h1, h2, h3, h4, h5, h6, h7]
  show (((((((0 * 2 + (13 + 2 * (v / 128 % 2)) / 2 % 2) * 2 + (13 + 2 * (v / 64 % 2)) / 2 % 2) * 2 + (13 + 2 * (v / 32 % 2)) / 2 % 2) * 2 + (13 + 2 * (v / 16 % 2)) / 2 % 2) * 2 + (13 + 2 * (v / 8 % 2)) / 2 % 2) * 2 + (13 + 2 * (v / 4 % 2)) / 2 % 2) * 2 + (13 + 2 * (v / 2 % 2)) / 2 % 2) * 2 + (13 + 2 * (v / 1 % 2)) / 2 % 2 = v
  rw [tell_bit, tell_bit, tell_bit, tell_bit, tell_bit, tell_bit, tell_bit, tell_bit]
  have e7 : 0 * 2 + v / 128 % 2 = v / 128 := by omega
  rw [e7, show v / 128 * 2 + v / 64 % 2 = v / 64 by omega, show v / 64 * 2 + v / 32 % 2 = v / 32 by omega, show v / 32 * 2 + v / 16 % 2 = v / 16 by omega, show v / 16 * 2 + v / 8 % 2 = v / 8 by omega, show v / 8 * 2 + v / 4 % 2 = v / 4 by omega, show v / 4 * 2 + v / 2 % 2 = v / 2 by omega]
  omega
theorem tellL_len (v : Int) : (tellL v).length = 8 := rfl
theorem flat_at (f : Nat → Int) (m i t : Nat) (hi : i < m) (ht : t < 8) : ((List.range m).flatMap fun i => tellL (f i)).getD (8 * i + t) 0 = (tellL (f i)).getD t 0 := by
  induction m generalizing f i with
  | zero => omega
  | succ m ih =>
    rw [List.range_succ_eq_map, List.flatMap_cons, List.flatMap_map]
    cases i with
    | zero =>
      rw [List.getD_eq_getElem?_getD, List.getElem?_append_left (by rw [tellL_len]; omega), ← List.getD_eq_getElem?_getD]
      rw [show 8 * 0 + t = t by omega]
    | succ i =>
      rw [List.getD_eq_getElem?_getD, List.getElem?_append_right (by rw [tellL_len]; omega), ← List.getD_eq_getElem?_getD, tellL_len]
      have := ih (fun j => f (j + 1)) i (by omega)
      rw [show 8 * (i + 1) + t - 8 = 8 * i + t by omega]
      exact this
/-- What is told on one lane behind so many clocks is read back as the bytes. -/
theorem bytesN_tells (pre : List Int) (f : Nat → Int) (m : Nat) (hf : ∀ i, i < m → 0 ≤ f i ∧ f i ≤ 255) : bytesN (pre ++ (List.range m).flatMap fun i => tellL (f i)) pre.length m = (List.range m).map f := by
  unfold bytesN
  apply List.map_congr_left
  intro i hi
  have hi' : i < m := List.mem_range.1 hi
  refine bitsTo_tell _ _ _ (hf i hi') (fun t ht => ?_)
  rw [List.getD_eq_getElem?_getD, List.getElem?_append_right (by omega), ← List.getD_eq_getElem?_getD, show pre.length + 8 * i + t - pre.length = 8 * i + t by omega]
  exact flat_at f m i t hi' ht
end Go.Proofs.YtjdjdfllggpckaaGreat
