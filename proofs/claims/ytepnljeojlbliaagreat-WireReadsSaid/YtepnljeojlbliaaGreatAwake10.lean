/- lichenlaw10.awake. -/
import Derived.Test.YtepnljeojlbliaaGreatTwins10
import Derived.Test.YtepnljeojlbliaaGreatWireJ
import Derived.Test.YtepnljeojlbliaaGreatWireR
import Derived.Test.YtepnljeojlbliaaGreatChipWp
namespace Go.Proofs.YtepnljeojlbliaaGreat
open Go.RowKit
def p10 : List Ph := [⟨1, [159], 0, 0⟩, ⟨1, [], 0, 3⟩]
def aw10 (a : ByteArray) : Drv := (Drv.phases ⟨(St.new a).select, [], 0, -1⟩ p10).1
def bw10 (a : ByteArray) : Drv := (Drv.phases ⟨(aw10 a).s.deselect.select, [], 0, 20⟩ p10).1
theorem aw10_all (a : ByteArray) : Drv.phases ⟨(St.new a).select, [], 0, -1⟩ p10 = (aw10 a, true) ∧ (aw10 a).out = [239, 64, 12] ∧ (aw10 a).clocks = 32 ∧ (aw10 a).s.deselect.sel = false := ⟨by kernel_rfl, by kernel_rfl, by kernel_rfl, by kernel_rfl⟩
theorem bw10_all (a : ByteArray) : Drv.phases ⟨(aw10 a).s.deselect.select, [], 0, 20⟩ p10 = (bw10 a, false) ∧ (bw10 a).out = [239] ∧ (bw10 a).clocks = 20 ∧ (bw10 a).s.sel = true := ⟨by kernel_rfl, by kernel_rfl, by kernel_rfl, by kernel_rfl⟩
theorem p10_many : phsMany p10 = 32 := by kernel_rfl
theorem ab10 (a : ByteArray) : ∃ d e : Drv, Drv.phases ⟨(St.new a).select, [], 0, -1⟩ p10 = (d, true) ∧ d.out = [239, 64, 12] ∧ d.clocks = 32 ∧ d.s.deselect.sel = false ∧ Drv.phases ⟨d.s.deselect.select, [], 0, 20⟩ p10 = (e, false) ∧ e.out = [239] ∧ e.clocks = 20 ∧ e.s.sel = true := by
  obtain ⟨h1, h2, h3, h4⟩ := aw10_all a
  obtain ⟨k1, k2, k3, k4⟩ := bw10_all a
  exact ⟨aw10 a, bw10 a, h1, h2, h3, h4, k1, k2, k3, k4⟩
theorem new_sel (a : ByteArray) : (St.new a).sel = false := rfl
def L0 : List (Ph × Value) := [(⟨0, [], 0, 0⟩, .slice none 0 0)]
theorem L0_all : clocksV L0 = 0 ∧ clocksE L0 = 1000 := ⟨by kernel_rfl, by kernel_rfl⟩
def L10 (v : Value) : List (Ph × Value) := [(⟨1, [159], 0, 0⟩, v), (⟨1, [], 0, 3⟩, .slice none 0 0)]
theorem L10_all (v : Value) : (L10 v).map Prod.fst = p10 ∧ (L10 v).all (fun x => x.1.may) = true ∧ clocksV (L10 v) = 32 ∧ clocksE (L10 v) = 0 := ⟨rfl, by kernel_rfl, by kernel_rfl, by kernel_rfl⟩
set_option maxRecDepth 100000 in
set_option maxHeartbeats 8000000 in
theorem awake10 (w : World) :
    Calls Tryz.prog 36 #[] w fun e w' => e = .returned (.bool true) ∧ Upd none' w w' := by
  obtain ⟨fa, hfa⟩ : ∃ fa : ByteArray, (⟨(freshL ⟨#[120, 121, 122]⟩).toArray⟩ : ByteArray) = fa := ⟨_, rfl⟩
  have HFA := Lib.hid hfa
  clear hfa
  obtain ⟨d1, d2, r1, r2, r3, r4, r5, r6, r7, r8⟩ := ab10 fa
  have HA := Lib.hid (And.intro r1 (And.intro r2 (And.intro r3 r4)))
  have HB := Lib.hid (And.intro r5 (And.intro r6 (And.intro r7 r8)))
  clear r1 r2 r3 r4 r5 r6 r7 r8
  go_enter Tryz.func36, Tryz.ntmps36
  go_upto_region 4 with (go_at_call 37; refine (c_twins10 (Upd.refl none' w) _ (by decide) fa HFA.out).mono ?_; rintro e w1 ⟨b, r, rfl, hC1⟩)
  have hC2 := (hC1.nilrow.lit (ints [159]) 3 1 rfl (by decide))
  obtain ⟨hC3, hP3⟩ := phs_lit hC2 (L10 (.slice (some ⟨w1.heap.size, 0, none⟩) 1 1)) 2 rfl (by decide) (by
    intro x hx
    simp only [L10, List.mem_cons, List.not_mem_nil, or_false] at hx
    rcases hx with rfl | rfl
    · exact List.mem_cons_self
    · exact List.mem_cons_of_mem _ List.mem_cons_self)
  have hs3 : (w1.alloc (.cells (ints [159]).toArray 3)).heap.size = w1.heap.size + 1 := by simp
  rw [hs3] at hC3 hP3
  have HC3 := Lib.hid hC3
  have HP3 := Lib.hid hP3
  obtain ⟨q1, q2, q3, q4⟩ := L10_all (.slice (some ⟨w1.heap.size, 0, none⟩) 1 1)
  have hcl := wire_clocks HC3.out _ _ _ _ HP3.out
  rw [q3, q4] at hcl
  have HCL := Lib.hid hcl
  have HL := Lib.hid (And.intro q1 q2)
  clear hs3 hC1 hC2 hC3 hP3 hcl q1 q2 q3 q4
  go_upto_region 6 with (go_at_call 41; refine HCL.out.mono ?_; rintro e w2 ⟨rfl, hC4⟩)
  have hd1 := c_drive Own.emp_ok hC4 (by decide) (new_sel fa) _ _ _ _ HP3.out (-1) (by unfold i64B; decide) HL.out.2 (.inl (by rw [HL.out.1, p10_many]; decide)) d1 true (by rw [HL.out.1]; exact HA.out.1)
  rw [HA.out.2.1, HA.out.2.2.1] at hd1
  have HD1 := Lib.hid hd1
  clear hC4 hd1
  go_upto_region 7 with (go_at_call 40; refine HD1.out.mono ?_; rintro e w3 ⟨oa, oc, rfl, hC5⟩)
  have hP5 := HP3.out.sub (fun r hr => List.mem_cons_of_mem (Value.slice oa [(239 : Int), 64, 12].length oc, ints [239, 64, 12]) hr)
  have hd2 := c_drive Own.emp_ok hC5 (by decide) HA.out.2.2.2 _ _ _ _ hP5 20 (by unfold i64B; decide) HL.out.2 (.inr (by decide)) d2 false (by rw [HL.out.1]; exact HB.out.1)
  rw [HB.out.2.1, HB.out.2.2.1] at hd2
  have HD2 := Lib.hid hd2
  have HP5 := Lib.hid hP5
  clear hC5 hd2 hP5
  go_upto_region 8 with (go_at_call 40; refine HD2.out.mono ?_; rintro e w4 ⟨oa2, oc2, rfl, hC6⟩)
  have hP6 := HP5.out.sub (fun r hr => List.mem_cons_of_mem (Value.slice oa2 [(239 : Int)].length oc2, ints [239]) hr)
  have HD3 := Lib.hid (c_drive_sel hC6 HB.out.2.2.2 _ _ _ _ hP6 (-1))
  clear hC6 hP6
  go_upto_region 9 with (go_at_call 40; refine HD3.out.mono ?_; rintro e w5 ⟨rfl, hC7⟩)
  obtain ⟨hC8, hP8⟩ := phs_lit hC7.nilrow L0 1 rfl (by decide) (by
    intro x hx
    simp only [L0, List.mem_cons, List.not_mem_nil, or_false] at hx
    subst hx
    exact List.mem_cons_self)
  have hcl := wire_clocks hC8 _ _ _ _ hP8
  rw [L0_all.1, L0_all.2] at hcl
  have HCL := Lib.hid hcl
  have HNIL := Lib.hid drive_nil
  clear hC7 hC8 hP8 hcl
  go_upto_region 11 with (first | (go_at_call 41; refine HCL.out.mono ?_; rintro e w6 ⟨rfl, hC9⟩) | (go_at_call 40; refine (HNIL.out _ _ _).mono ?_; rintro e w7 ⟨rfl, rfl⟩))
  have hr1 : RS w6 (.slice oa 3 oc) (ints [239, 64, 12]) := hC9.rs_mem (by repeat (first | exact List.mem_cons_self | apply List.mem_cons_of_mem))
  have hr2 : RS w6 (.slice oa2 1 oc2) (ints [239]) := hC9.rs_mem (by repeat (first | exact List.mem_cons_self | apply List.mem_cons_of_mem))
  have hb1 : ∀ k, (Value.slice oa 3 oc).ownBlock = some k → k < w6.heap.size := hC9.below (.slice oa 3 oc, ints [239, 64, 12]) (by repeat (first | exact List.mem_cons_self | apply List.mem_cons_of_mem))
  have hs1 : Calls Tryz.prog 33 #[.slice oa 3 oc, .slice (some ⟨w6.heap.size, 0, none⟩) 3 3] (w6.alloc (.cells #[.int .i64 239, .int .i64 64, .int .i64 12] 3)) fun e w' => e = .returned (.bool true) ∧ Upd none' w6 w' :=
    (same_ints _ _ _ [239, 64, 12] [239, 64, 12] (hr1.upd ((Upd.refl none' w6).alloc _) (fun _ _ _ f => f)) (rs_lit w6 [239, 64, 12] (by decide))).mono (fun e w' h => ⟨h.1, ((Upd.refl none' w6).alloc _).trans h.2 (fun _ _ f => f)⟩)
  have hs2 : ∀ w7, Upd none' w6 w7 → Calls Tryz.prog 33 #[.slice oa2 1 oc2, .slice (some ⟨w7.heap.size, 0, none⟩) 1 1] (w7.alloc (.cells #[.int .i64 239] 3)) fun e w' => e = .returned (.bool true) ∧ Upd none' w6 w' :=
    fun w7 hU => (same_ints _ _ _ [239] [239] (hr2.upd (hU.alloc _) (fun _ _ _ f => f)) (rs_lit w7 [239] (by decide))).mono (fun e w' h => ⟨h.1, (hU.alloc _).trans h.2 (fun _ _ f => f)⟩)
  have HS1 := Lib.hid hs1
  have HS2 := Lib.hid hs2
  have HU := Lib.hid hC9.upd
  clear hr1 hr2 hb1 hs1 hs2 hC9 HA HB HFA HC3 HP3 HP5 HL HCL HNIL
  go_wp2_with (first | (go_at_call 16; refine (num_any _ _).mono ?_; rintro e w' ⟨rfl, rfl⟩) | (go_at_call 33; refine (HS2.out _ hU7).mono ?_; rintro e w8 ⟨rfl, hU8⟩) | (go_at_call 33; refine HS1.out.mono ?_; rintro e w7 ⟨rfl, hU7⟩))
  go_ret
  exact ⟨rfl, HU.out.trans hU8 (fun _ _ f => f)⟩
end Go.Proofs.YtepnljeojlbliaaGreat
