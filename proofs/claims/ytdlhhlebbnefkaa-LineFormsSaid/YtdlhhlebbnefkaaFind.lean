/- line.Find. -/
import Derived.Test.YtdlhhlebbnefkaaMay
import Derived.Test.YtdlhhlebbnefkaaUpdQ
namespace Go.Proofs.Ytdlhhlebbnefkaa
open Go.RowKit
/-- What Find tells. -/
def findV (xs : List Int) (ts : List ByteArray) (nx a : Int) : Int × Bool :=
  if mayB xs ts nx = true ∧ 0 ≤ a then
    if idx xs (a - a % 16) < 0 then (0, false) else (((ts.getD (idx xs (a - a % 16)).toNat ⟨#[]⟩).data.toList.getD (a % 16).toNat 0).toNat, true)
  else (0, false)
theorem quiet_eq {P : Program} {f : FuncId} {args : Array Value} {w0 : World} {u : UW w0} {v : Value} (h : Calls P f args u.val fun e w' => e = .returned v ∧ u.val = w') :
    Calls P f args u.val fun e w'' => e = .returned v ∧ ∃ u' : UW w0, w'' = u'.val :=
  h.mono fun _ _ ⟨he, hu⟩ => ⟨he, u, hu.symm⟩
theorem wrap64_byte (c : UInt8) : wrap64 (c.toNat : Int) = c.toNat := by
  have := UInt8.toNat_lt c
  exact IntWalk.wrap64_in _ (by omega)
theorem idx_spec (xs : List Int) (x : Int) : idx xs x = -1 ∨ ∃ i : Nat, i < xs.length ∧ idx xs x = i ∧ xs.getD i 0 = x := by
  unfold idx
  cases h : xs.findIdx? (· == x) with
  | none => exact .inl rfl
  | some i =>
    right
    rw [List.findIdx?_eq_some_iff_getElem] at h
    obtain ⟨hi, he, _⟩ := h
    exact ⟨i, hi, rfl, by simpa [List.getD_eq_getElem?_getD, List.getElem?_eq_getElem hi] using he⟩
set_option maxHeartbeats 1000000 in
theorem line_find (w : World) (v u : Value) (xs : List Int) (ts : List ByteArray) (nx a : Int) (hv : RS w v (ints xs)) (hu : RS w u (strs ts)) (ha : a < 9223372036854775808) :
    Calls Try.prog 22 #[cacheV v u nx, .int .i64 a] w fun e w' => e = .returned (.tuple #[.int .i64 (findV xs ts nx a).1, .bool (findV xs ts nx a).2]) ∧ Upd none' w w' := by
  have HV := Lib.hid hv
  have HU := Lib.hid hu
  obtain ⟨_, av, cap, rfl, h4, _⟩ := hv
  obtain ⟨_, au, cap', rfl, h4', h5'⟩ := hu
  have hB := Blk.new w [.slice av (ints xs).length cap, .slice au (strs ts).length cap', .int .i64 nx] 42
  have hm0 := line_may (w.alloc (.cells #[.slice av (ints xs).length cap, .slice au (strs ts).length cap', .int .i64 nx] 42)) _ _ xs ts nx (HV.out.upd ((Upd.refl none' w).alloc _) (fun _ _ _ f => f)) (HU.out.upd ((Upd.refl none' w).alloc _) (fun _ _ _ f => f))
  have HM := Lib.hid hm0
  have hU0 : Upd none' w (w.alloc (.cells #[.slice av (ints xs).length cap, .slice au (strs ts).length cap', .int .i64 nx] 42)) := (Upd.refl none' w).alloc _
  clear hm0
  unfold cacheV at HM ⊢
  by_cases hm : mayB xs ts nx = true
  · by_cases h0 : 0 ≤ a
    · have hfv : findV xs ts nx a = if idx xs (a - a % 16) < 0 then (0, false) else ((((ts.getD (idx xs (a - a % 16)).toNat ⟨#[]⟩).data.toList.getD (a % 16).toNat 0).toNat : Int), true) := if_pos ⟨hm, h0⟩
      rw [hfv]
      have hB1 : ∀ w1, Upd none' (w.alloc (.cells #[.slice av (ints xs).length cap, .slice au (strs ts).length cap', .int .i64 nx] 42)) w1 → Blk w1 w.heap.size [.slice av (ints xs).length cap, .slice au (strs ts).length cap', .int .i64 nx] 42 := fun w1 hU => hB.upd hU (fun f => f)
      have HB := Lib.hid hB1
      clear hB hB1
      obtain ⟨m, em⟩ : ∃ m, a - a % 16 = m := ⟨_, rfl⟩
      obtain ⟨y, ey⟩ : ∃ y, idx xs m = y := ⟨_, rfl⟩
      rw [em, ey]
      have EM := Lib.hid em
      have EY := Lib.hid ey
      clear em ey hfv
      have step : ∀ w1, Upd none' (w.alloc (.cells #[.slice av (ints xs).length cap, .slice au (strs ts).length cap', .int .i64 nx] 42)) w1 →
          (∀ u : UW w1, u.val.cell? ⟨w.heap.size, 0, none⟩ = some (.slice av (ints xs).length cap)) ∧ (∀ u : UW w1, RS u.val (.slice av (ints xs).length cap) (ints xs)) := fun w1 hU => ⟨fun u => ((HB.out w1 hU).upd u.upd (fun f => f)).cell 0, fun u => ((HV.out.upd hU0 (fun _ _ _ f => f)).upd hU (fun _ _ _ f => f)).upd u.upd (fun _ _ _ f => f)⟩
      have HS := Lib.hid step
      clear step
      rcases idx_spec xs m with hy | ⟨i, hi, hy, hxi⟩
      · rw [EY.out] at hy
        subst hy
        rw [if_pos (by decide)]
        clear h5'
        go_enter Try.func22, Try.ntmps22
        go_wp2_with fail
        refine HM.out.mono ?_
        rintro e w1 ⟨rfl, hU1⟩
        rw [hm]
        obtain ⟨l0, lr⟩ := HS.out w1 hU1
        have LR := Lib.hid lr
        clear lr
        go_wp2_with fail
        refine wp_region_upd_lit w1 (Upd.refl none' w1) (by kernel_rfl) (by kernel_rfl) ?_
        repeat (go_big_quiet_step ((first | (go_at_call 37; exact quiet_eq (EM.out ▸ line_first _ a h0 ha)) | (go_at_call 35; exact quiet_eq (EY.out ▸ slices_index _ _ xs (LR.out _) m)))))
        refine wpQuiet_nil ?_
        rintro _ ⟨⟨w2, hU2⟩, rfl⟩
        go_wp2
        go_ret2
        exact ⟨rfl, (hU0.trans hU1 (fun _ _ f => f)).trans hU2 (fun _ _ f => f)⟩
      · rw [EY.out] at hy
        subst hy
        have hlk : lineOk xs ts i := by
          have hmm : mayB xs ts nx = true := hm
          unfold mayB at hmm
          obtain ⟨q1, q2, _, _, q3, q4⟩ := of_decide_eq_true hmm
          rw [q1] at hi
          match i, hi with
          | 0, _ => exact q3
          | 1, _ => exact q4
        have hi2 : i < 2 ∧ ts.length = 2 := by
          have hmm : mayB xs ts nx = true := hm
          unfold mayB at hmm
          obtain ⟨q1, q2, _, _, q3, q4⟩ := of_decide_eq_true hmm
          exact ⟨by omega, q2⟩
        have hm0 : 0 ≤ m := by have := EM.out; omega
        unfold lineOk at hlk
        rw [hxi, if_neg (by omega)] at hlk
        have hsz := hlk.2.1
        obtain ⟨t, et⟩ : ∃ t, ts.getD i ⟨#[]⟩ = t := ⟨_, rfl⟩
        rw [if_neg (by omega), show ((i : Nat) : Int).toNat = i from by simp, et]
        rw [et] at hsz
        obtain ⟨k, hk, ek⟩ : ∃ k : Nat, k < 16 ∧ a % 16 = (k : Int) := ⟨(a % 16).toNat, by omega, by omega⟩
        have ek' : a.tmod 16 = (k : Int) := by rw [Int.tmod_eq_emod_of_nonneg h0]; exact ek
        rw [ek, show ((k : Nat) : Int).toNat = k from by simp]
        have hlen' : (strs ts).length = 2 := by simp [strs, hi2.2]
        have hil : i < (strs ts).length := by rw [hlen']; exact hi2.1
        obtain ⟨b', o', rfl, hb', hc'⟩ := h5' (by intro h; rw [h] at hlen'; cases hlen')
        have hct : w.cell? ⟨b', o' + i, none⟩ = some (.string t) := by
          rw [hc' i hil, ← et]; simp [strs, List.getD_eq_getElem?_getD, List.getElem?_eq_getElem (show i < ts.length by omega)]
        have CT := Lib.hid hct
        have ET := Lib.hid et
        have EK := Lib.hid ek
        have HX := Lib.hid hxi
        have hi2' := hi2.1
        clear h5' hc' et ek hct hlk hi2 hxi hlen'
        go_enter Try.func22, Try.ntmps22
        go_wp2_with fail
        refine HM.out.mono ?_
        rintro e w1 ⟨rfl, hU1⟩
        rw [hm]
        obtain ⟨l0, lr⟩ := HS.out w1 hU1
        have LR := Lib.hid lr
        clear lr
        go_wp2_with fail
        refine wp_region_upd_lit w1 (Upd.refl none' w1) (by kernel_rfl) (by kernel_rfl) ?_
        repeat (go_big_quiet_step ((first | (go_at_call 37; exact quiet_eq (EM.out ▸ line_first _ a h0 ha)) | (go_at_call 35; exact quiet_eq (EY.out ▸ slices_index _ _ xs (LR.out _) m)))))
        refine wpQuiet_nil ?_
        rintro _ ⟨⟨w2, hU2⟩, rfl⟩
        have hUU := (hU0.trans hU1 (fun _ _ f => f)).trans hU2 (fun _ _ f => f)
        have c1 := ((HB.out w1 hU1).upd hU2 (fun f => f)).cell 1
        simp only [List.getElem?_cons_zero, List.getElem?_cons_succ] at c1
        have c2 := (hUU.cell (p := ⟨b', o' + i, none⟩) hb' (fun f => f)).trans CT.out
        go_wp2
        go_ret2
        refine ⟨?_, hUU⟩
        rw [str_at t k (by omega)]
        exact congrArg (fun z => Ending.returned (.tuple #[.int .i64 z, .bool true])) (wrap64_byte _)
    · have hfv : findV xs ts nx a = (0, false) := if_neg (fun h => h0 h.2)
      rw [hfv]
      clear hB h5'
      go_enter Try.func22, Try.ntmps22
      go_wp2_with fail
      refine HM.out.mono ?_
      rintro e w1 ⟨rfl, hU1⟩
      rw [hm]
      go_wp2
      go_ret2
      exact ⟨rfl, hU0.trans hU1 (fun _ _ f => f)⟩
  · have hm' : mayB xs ts nx = false := by simpa using hm
    have hfv : findV xs ts nx a = (0, false) := if_neg (fun h => hm h.1)
    rw [hfv]
    clear hB h5'
    go_enter Try.func22, Try.ntmps22
    go_wp2_with fail
    refine HM.out.mono ?_
    rintro e w1 ⟨rfl, hU1⟩
    rw [hm']
    go_wp2
    go_ret2
    exact ⟨rfl, hU0.trans hU1 (fun _ _ f => f)⟩
end Go.Proofs.Ytdlhhlebbnefkaa
