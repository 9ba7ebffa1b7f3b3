/- line.May. -/
import Derived.Test.YtdlhhlebbnefkaaClone
namespace Go.Proofs.Ytdlhhlebbnefkaa
open Go.RowKit
def lineOk (xs : List Int) (ts : List ByteArray) (i : Nat) : Prop :=
  if xs.getD i 0 = -1 then (ts.getD i ⟨#[]⟩) = ⟨#[]⟩ else beginsB (xs.getD i 0) = true ∧ (ts.getD i ⟨#[]⟩).size = 16 ∧ idx xs (xs.getD i 0) = i
instance (xs : List Int) (ts : List ByteArray) (i : Nat) : Decidable (lineOk xs ts i) := by unfold lineOk; infer_instance
def mayB (xs : List Int) (ts : List ByteArray) (nx : Int) : Bool := decide (xs.length = 2 ∧ ts.length = 2 ∧ 0 ≤ nx ∧ nx < 2 ∧ lineOk xs ts 0 ∧ lineOk xs ts 1)
/-- The value of a cache. -/
def cacheV (v u : Value) (nx : Int) : Value := .agg #[v, u, .int .i64 nx]
theorem may_len1 (w : World) (a : Option Addr) (n c : Nat) (u : Value) (nx : Int) (h : ((n : Int) == 2) = false) :
    Calls Try.prog 25 #[cacheV (.slice a n c) u nx] w fun e w' => e = .returned (.bool false) ∧ Upd none' w w' := by
  have hn : ((n : Int) != 2) = true := by simpa [bne] using h
  unfold cacheV
  go_enter Try.func25, Try.ntmps25
  go_wp2
  go_ret
  exact ⟨rfl, ((Upd.refl none' w).alloc _)⟩
theorem may_len2 (w : World) (a a' : Option Addr) (n c c' : Nat) (nx : Int) (h : ((n : Int) == 2) = false) :
    Calls Try.prog 25 #[cacheV (.slice a 2 c) (.slice a' n c') nx] w fun e w' => e = .returned (.bool false) ∧ Upd none' w w' := by
  have hn : ((n : Int) != 2) = true := by simpa [bne] using h
  have hn2 : ¬ ((n : Int) = 2) := by simpa using h
  unfold cacheV
  go_enter Try.func25, Try.ntmps25
  go_wp2
  all_goals go_ret
  all_goals exact ⟨rfl, ((Upd.refl none' w).alloc _)⟩
theorem may_next (w : World) (a a' : Option Addr) (c c' : Nat) (nx : Int) (h : nx < 0 ∨ 2 ≤ nx) :
    Calls Try.prog 25 #[cacheV (.slice a 2 c) (.slice a' 2 c') nx] w fun e w' => e = .returned (.bool false) ∧ Upd none' w w' := by
  unfold cacheV
  rcases h with h | h
  · go_enter Try.func25, Try.ntmps25
    go_wp2
    go_ret
    exact ⟨rfl, ((Upd.refl none' w).alloc _)⟩
  · go_enter Try.func25, Try.ntmps25
    go_wp2
    go_ret
    exact ⟨rfl, ((Upd.refl none' w).alloc _)⟩
theorem may_row (w : World) (v u : Value) (xs : List Int) (ts : List ByteArray) (nx : Int) (hv : RS w v (ints xs)) (hu : RS w u (strs ts)) (hx : xs.length = 2) (ht : ts.length = 2) (h0 : 0 ≤ nx) (h2 : nx < 2) :
    Calls Try.prog 25 #[cacheV v u nx] w fun e w' => e = .returned (.bool (mayB xs ts nx)) ∧ Upd none' w w' := by
  have HV := Lib.hid hv
  obtain ⟨_, a, cap, rfl, h4, h5⟩ := hv
  obtain ⟨_, a', cap', rfl, h4', h5'⟩ := hu
  have hlen : (ints xs).length = 2 := by simp [ints, hx]
  have hlen' : (strs ts).length = 2 := by simp [strs, ht]
  obtain ⟨b, o, rfl, hb, hc⟩ := h5 (by intro h; rw [h] at hlen; cases hlen)
  obtain ⟨b', o', rfl, hb', hc'⟩ := h5' (by intro h; rw [h] at hlen'; cases hlen')
  rw [hlen] at h4 hc HV
  rw [hlen'] at h4' hc'
  have hcell : Hid (∀ i, i < 2 → w.cell? ⟨b, o + i, none⟩ = some (.int .i64 (xs.getD i 0))) := by
    intro i hi; rw [hc i hi]; simp [ints, List.getD_eq_getElem?_getD, List.getElem?_eq_getElem (show i < xs.length by omega)]
  have hcell' : Hid (∀ i, i < 2 → w.cell? ⟨b', o' + i, none⟩ = some (.string (ts.getD i ⟨#[]⟩))) := by
    intro i hi; rw [hc' i hi]; simp [strs, List.getD_eq_getElem?_getD, List.getElem?_eq_getElem (show i < ts.length by omega)]
  rw [hlen, hlen']
  have HX := Lib.hid hx
  have HT := Lib.hid ht
  clear hc hc' hlen hlen' h5 h5' hx ht
  unfold cacheV
  go_enter Try.func25, Try.ntmps25
  go_wp2_with fail
  go_loopw [28] (fun iv wr => ∃ i : Nat, i ≤ 2 ∧ iv = .int .i64 i ∧ Upd none' w wr ∧ Blk wr w.heap.size [.slice (some ⟨b, o, none⟩) 2 cap, .slice (some ⟨b', o', none⟩) 2 cap', .int .i64 nx] 42 ∧ ∀ j, j < i → lineOk xs ts j) (fun iv _ => 2 - (intOf iv).toNat)
  case atStart => exact ⟨0, by omega, rfl, ((Upd.refl none' w).alloc _), Blk.new w _ _, fun j hj => by omega⟩
  case round =>
    obtain ⟨i, hi, rfl, hU, hB, hno⟩ := hrel
    by_cases hlt : i < 2
    · have hx := hcell.out i hlt
      have ht := hcell'.out i hlt
      have hx' : wr.cell? ⟨b, o + i, none⟩ = some (.int .i64 (xs.getD i 0)) := by rw [hU.cell (p := ⟨b, o + i, none⟩) hb (fun f => f)]; exact hx
      have ht' : wr.cell? ⟨b', o' + i, none⟩ = some (.string (ts.getD i ⟨#[]⟩)) := by rw [hU.cell (p := ⟨b', o' + i, none⟩) hb' (fun f => f)]; exact ht
      clear hx ht
      have hc0 := hB.cell 0
      have hc1 := hB.cell 1
      simp only [List.getElem?_cons_zero, List.getElem?_cons_succ] at hc0 hc1
      have HN : Hid (¬ lineOk xs ts i → mayB xs ts nx = false) := by
        intro hne
        refine decide_eq_false fun ⟨_, _, _, _, q0, q1⟩ => hne ?_
        match i, hlt with
        | 0, _ => exact q0
        | 1, _ => exact q1
      have HY : Hid (∀ k, k < i + 1 → lineOk xs ts i → lineOk xs ts k) := by
        intro k hk hl
        rcases Nat.lt_succ_iff_lt_or_eq.1 hk with h | h
        · exact hno k h
        · subst h; exact hl
      unfold lineOk at HN HY
      obtain ⟨x, ex⟩ : ∃ x, xs.getD i 0 = x := ⟨_, rfl⟩
      obtain ⟨t, et⟩ : ∃ t, ts.getD i ⟨#[]⟩ = t := ⟨_, rfl⟩
      rw [ex] at hx' HN HY
      rw [et] at ht' HN HY
      clear ex et hno hcell hcell'
      by_cases hm : x = -1
      · subst hm
        by_cases he : t = ⟨#[]⟩
        · have he1 : t.toList.isEmpty = true := by rw [← decide_eq_emptyBytes]; exact decide_eq_true he
          go_wp2
          refine ⟨?rel, ?measure⟩
          case rel => exact ⟨i + 1, by omega, by go_num, hU, hB, fun k hk => HY.out k hk (by simpa using he)⟩
          case measure => simp [intOf]; omega
        · have he1 : t.toList.isEmpty = false := by rw [← decide_eq_emptyBytes]; exact decide_eq_false he
          go_wp2
          go_ret
          exact ⟨by rw [HN.out (by simpa using he)]; rfl, hU⟩
      · have hm' : (x == -1) = false := by simpa using hm
        have hU1 := hU
        by_cases hbeg : beginsB x = true
        · by_cases hsz : t.size = 16
          · have hsz' : ((t.size : Int) == 16) = true := by simp [hsz]
            by_cases hix : idx xs x = i
            · go_wp2_with (first | (go_at_call 32; refine (line_begins wr x).mono ?_; rintro e w1 ⟨rfl, rfl⟩; rw [hbeg]) | (go_at_call 35; refine (slices_index _ _ _ (HV.out.upd hU (fun _ _ _ f => f)) _).mono ?_; rintro e w1 ⟨rfl, rfl⟩; rw [hix]))
              refine ⟨?rel, ?measure⟩
              case rel => exact ⟨i + 1, by omega, by go_num, hU, hB, fun k hk => HY.out k hk (by simp [hm, hbeg, hsz, hix])⟩
              case measure => simp [intOf]; omega
            · have hix' : (idx xs x == (i : Int)) = false := by simpa using hix
              go_wp2_with (first | (go_at_call 32; refine (line_begins wr x).mono ?_; rintro e w1 ⟨rfl, rfl⟩; rw [hbeg]) | (go_at_call 35; refine (slices_index _ _ _ (HV.out.upd hU (fun _ _ _ f => f)) _).mono ?_; rintro e w1 ⟨rfl, rfl⟩))
              go_ret
              exact ⟨by rw [HN.out (by simp [hm, hix])]; rfl, hU⟩
          · have hsz' : ((t.size : Int) == 16) = false := by simp; omega
            go_wp2_with (first | (go_at_call 32; refine (line_begins wr x).mono ?_; rintro e w1 ⟨rfl, rfl⟩; rw [hbeg]))
            go_ret
            exact ⟨by rw [HN.out (by simp [hm, hsz])]; rfl, hU⟩
        · have hbeg' : beginsB x = false := by simpa using hbeg
          go_wp2_with fail
          refine (line_begins wr x).mono ?_
          rintro e w1 ⟨rfl, rfl⟩
          rw [hbeg']
          go_wp2
          go_ret
          exact ⟨by rw [HN.out (by simp [hm, hbeg])]; rfl, hU⟩
    · have hieq : i = 2 := by omega
      subst hieq
      go_wp2
      go_ret
      exact ⟨by rw [show mayB xs ts nx = true from decide_eq_true ⟨HX.out, HT.out, h0, h2, hno 0 (by omega), hno 1 (by omega)⟩]; rfl, hU⟩

theorem line_may (w : World) (v u : Value) (xs : List Int) (ts : List ByteArray) (nx : Int) (hv : RS w v (ints xs)) (hu : RS w u (strs ts)) :
    Calls Try.prog 25 #[cacheV v u nx] w fun e w' => e = .returned (.bool (mayB xs ts nx)) ∧ Upd none' w w' := by
  by_cases hx : xs.length = 2
  · by_cases ht : ts.length = 2
    · by_cases hn : 0 ≤ nx ∧ nx < 2
      · exact may_row w v u xs ts nx hv hu hx ht hn.1 hn.2
      · rw [show mayB xs ts nx = false from decide_eq_false (by intro h; exact hn ⟨h.2.2.1, h.2.2.2.1⟩)]
        obtain ⟨_, a, cap, rfl, _⟩ := hv
        obtain ⟨_, a', cap', rfl, _⟩ := hu
        rw [show (ints xs).length = 2 by simp [ints, hx], show (strs ts).length = 2 by simp [strs, ht]]
        exact may_next w a a' cap cap' nx (by omega)
    · rw [show mayB xs ts nx = false from decide_eq_false (by intro h; exact ht h.2.1)]
      obtain ⟨_, a, cap, rfl, _⟩ := hv
      obtain ⟨_, a', cap', rfl, _⟩ := hu
      rw [show (ints xs).length = 2 by simp [ints, hx]]
      exact may_len2 w a a' _ cap cap' nx (by simp [strs]; omega)
  · rw [show mayB xs ts nx = false from decide_eq_false (by intro h; exact hx h.1)]
    obtain ⟨_, a, cap, rfl, _⟩ := hv
    exact may_len1 w a _ cap u nx (by simp [ints]; omega)
end Go.Proofs.Ytdlhhlebbnefkaa
