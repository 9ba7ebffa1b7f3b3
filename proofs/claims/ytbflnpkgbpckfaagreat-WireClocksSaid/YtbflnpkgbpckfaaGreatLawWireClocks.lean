/- lichenlaw10.WireClocks. -/
import Derived.Test.YtbflnpkgbpckfaaGreatAwake10
import Derived.Test.YtbflnpkgbpckfaaGreatWireK
namespace Go.Proofs.YtbflnpkgbpckfaaGreat
open Go.RowKit
theorem wire_cnt (s : St) (ps : List Ph) (h : ps.all Ph.may = true) (m : Int) (h0 : 0 ≤ m) : ∃ d : Drv, Drv.phases ⟨s.select, [], 0, m⟩ ps = (d, decide (phsMany ps ≤ m)) ∧ d.clocks = min (phsMany ps) m := by
  obtain ⟨h1, h2, h3⟩ := phases_cnt ps ⟨s.select, [], 0, m⟩ h h0 h0
  dsimp only at h1 h2 h3
  rw [Int.zero_add] at h2 h3
  exact ⟨(Drv.phases ⟨s.select, [], 0, m⟩ ps).1, by rw [← h3], h2⟩
set_option maxRecDepth 100000 in
set_option maxHeartbeats 8000000 in
theorem lawWireClocks (w : World) (a : Option Addr) (n cap : Nat) (L : List (Ph × Value)) (rows : List (Value × List Value)) (hrows : ∀ r ∈ rows, RS w r.1 r.2 ∧ ∀ k, r.1.ownBlock = some k → k < w.heap.size) (hP : PhsV rows (.slice a n cap) L) (most : Int) (_ : (Lit.int .i64 most).wf = true) :
    Calls Tryz.prog 3 #[.slice a n cap, .int .i64 most] w fun e w' => e = .returned (.bool true) ∧ Upd none' w w' := by
  obtain ⟨fa, hfa⟩ : ∃ fa : ByteArray, (⟨(freshL ⟨#[97, 98, 99]⟩).toArray⟩ : ByteArray) = fa := ⟨_, rfl⟩
  have HFA := Lib.hid hfa
  have HROWS := Lib.hid hrows
  have HP := Lib.hid hP
  have hm := i64_and1023 most
  obtain ⟨m, hmm⟩ : ∃ m, most % 1024 = m := ⟨_, rfl⟩
  have hm0 : 0 ≤ m := by omega
  have hm1 : m ≤ 1023 := by omega
  rw [hmm] at hm
  clear hfa hrows hP hmm
  have hcat : ∀ w1 b, Ctx (ChipP b (St.new fa) 0) .emp w w1 [] → Hid (Ctx (ChipP b (St.new fa) 0) .emp w w1 rows) := fun w1 b h => Lib.hid (by have := h.old HROWS.out; rwa [List.append_nil] at this)
  have HCAT := Lib.hid hcat
  clear hcat
  cases hall : L.all (fun x => x.1.may) with
  | false =>
    have hv : clocksV L = 0 := by unfold clocksV; rw [hall]; rfl
    have he : clocksE L = 1000 := by unfold clocksE; rw [hall]; rfl
    have hcl := fun w1 b (h : Ctx (ChipP b (St.new fa) 0) .emp w w1 rows) => wire_clocks h a n cap L HP.out
    rw [hv, he] at hcl
    have HCL := Lib.hid hcl
    have HDR := Lib.hid (fun w1 b (h : Ctx (ChipP b (St.new fa) 0) .emp w w1 rows) m => c_drive_no (b := b) h a n cap L HP.out m hall)
    clear hcl hall hv he
    go_enter Tryz.func3, Tryz.ntmps3
    go_wp2_with (first | (go_at_call 19; refine (num_any _ _).mono ?_; rintro e w' ⟨rfl, rfl⟩) | (go_at_call 15; refine (awake10 _).mono ?_; rintro e w1 ⟨rfl, hU1⟩) | (go_at_call 16; refine (c_twins10 hU1 _ (by decide) fa HFA.out).mono ?_; rintro e w2 ⟨b, r, rfl, hC2⟩) | (go_at_call 18; refine (HDR.out _ _ hC3 _).mono ?_; rintro e w4 ⟨rfl, hC4⟩) | (go_at_call 17; refine (HCL.out _ _ (HCAT.out _ _ hC2).out).mono ?_; rintro e w3 ⟨rfl, hC3⟩))
    go_ret
    exact ⟨rfl, hC4.upd⟩
  | true =>
    have hmap : (L.map Prod.fst).all Ph.may = true := by rw [map_all]; exact hall
    obtain ⟨k, hk⟩ : ∃ k, phsMany (L.map Prod.fst) = k := ⟨_, rfl⟩
    have hv : clocksV L = k := by unfold clocksV; rw [hall, ← hk]; rfl
    have he : clocksE L = 0 := by unfold clocksE; rw [hall]; rfl
    have hcl := fun w1 b (h : Ctx (ChipP b (St.new fa) 0) .emp w w1 rows) => wire_clocks h a n cap L HP.out
    rw [hv, he] at hcl
    obtain ⟨d, hd, hdc⟩ := wire_cnt (St.new fa) _ hmap m hm0
    rw [hk] at hd hdc
    have HCL := Lib.hid hcl
    have hdr := fun w1 b (h : Ctx (ChipP b (St.new fa) 0) .emp w w1 rows) => c_drive Own.emp_ok h (by decide) rfl a n cap L HP.out m ⟨by omega, by omega⟩ hall (.inr ⟨hm0, by omega⟩) d _ hd
    rw [hdc] at hdr
    have HDR := Lib.hid hdr
    clear hcl hdr hd hdc hall hmap hv he hk
    by_cases hkm : k ≤ m
    · rw [decide_eq_true hkm, show min k m = k by omega] at HDR
      have hmin : min k m = k := by omega
      go_enter Tryz.func3, Tryz.ntmps3
      go_wp2_with (first | (go_at_call 19; refine (num_any _ _).mono ?_; rintro e w' ⟨rfl, rfl⟩) | (go_at_call 15; refine (awake10 _).mono ?_; rintro e w1 ⟨rfl, hU1⟩) | (go_at_call 16; refine (c_twins10 hU1 _ (by decide) fa HFA.out).mono ?_; rintro e w2 ⟨b, r, rfl, hC2⟩) | (go_at_call 18; refine (HDR.out _ _ hC3).mono ?_; rintro e w4 ⟨oa, oc, rfl, hC4⟩) | (go_at_call 17; refine (HCL.out _ _ (HCAT.out _ _ hC2).out).mono ?_; rintro e w3 ⟨rfl, hC3⟩))
      go_ret
      exact ⟨rfl, hC4.upd⟩
    · rw [decide_eq_false hkm, show min k m = m by omega] at HDR
      have hmin : min k m = m := by omega
      go_enter Tryz.func3, Tryz.ntmps3
      go_wp2_with (first | (go_at_call 19; refine (num_any _ _).mono ?_; rintro e w' ⟨rfl, rfl⟩) | (go_at_call 15; refine (awake10 _).mono ?_; rintro e w1 ⟨rfl, hU1⟩) | (go_at_call 16; refine (c_twins10 hU1 _ (by decide) fa HFA.out).mono ?_; rintro e w2 ⟨b, r, rfl, hC2⟩) | (go_at_call 18; refine (HDR.out _ _ hC3).mono ?_; rintro e w4 ⟨oa, oc, rfl, hC4⟩) | (go_at_call 17; refine (HCL.out _ _ (HCAT.out _ _ hC2).out).mono ?_; rintro e w3 ⟨rfl, hC3⟩))
      go_ret
      exact ⟨by show Ending.returned (Value.bool (!decide (k ≤ m))) = _; rw [decide_eq_false (show ¬ k ≤ m by omega)]; rfl, hC4.upd⟩
end Go.Proofs.YtbflnpkgbpckfaaGreat
