/- lichenlaw11.CtlExit. -/
import Derived.Test.YtkjdhkpkcepilaaGreatAwake11
import Derived.Test.YtkjdhkpkcepilaaGreatReadM
namespace Go.Proofs.YtkjdhkpkcepilaaGreat
open Go.RowKit
set_option maxRecDepth 100000 in
set_option maxHeartbeats 8000000 in
theorem lawCtlExit (w : World) (at_ : Int) (_ : (Lit.int .i64 at_).wf = true) (which : Int) (_ : (Lit.int .i64 which).wf = true) :
    Calls Tryz.prog 14 #[.int .i64 at_, .int .i64 which] w fun e w' => e = .returned (.bool true) ∧ Upd none' w w' := by
  have hat := i64_and4095 at_
  obtain ⟨a, ha⟩ : ∃ a : Nat, at_ % 4096 = (a : Int) := ⟨(at_ % 4096).toNat, by omega⟩
  have ha2 : a < 4096 := by omega
  rw [ha] at hat
  have hw3 := i64_and3 which
  have hw1 := i64_and1 which
  obtain ⟨j, hj⟩ : ∃ j : Nat, which % 4 = (j : Int) := ⟨(which % 4).toNat, by omega⟩
  have hj4 : j < 4 := by omega
  have hpar : which % 2 = ((j % 2 : Nat) : Int) := by omega
  rw [hj] at hw3
  rw [hpar] at hw1
  clear ha hj hpar
  obtain ⟨fa, hfa⟩ : ∃ fa : ByteArray, (⟨(freshL ⟨#[102, 103, 104]⟩).toArray⟩ : ByteArray) = fa := ⟨_, rfl⟩
  have HFA := Lib.hid hfa
  clear hfa
  go_enter Tryz.func14, Tryz.ntmps14
  go_upto_region 4 with (first | (go_at_call 41; refine (awake11 _).mono ?_; rintro e w0 ⟨rfl, hU1⟩) | (go_at_call 42; refine (c_twins11 hU1 _ (by decide) fa HFA.out).mono ?_; rintro e w1 ⟨b, r, rfl, hC1⟩))
  have HN := Lib.hid (reg_new (at_new fa) hC1 (Int.le_refl 0) (by decide))
  clear hC1
  go_upto_region 7 with (first | (go_at_call 28; refine HN.out.mono ?_; rintro e w2 ⟨k, rfl, hR2⟩) | (go_at_call 25; refine (num_any _ _).mono ?_; rintro e w' ⟨rfl, rfl⟩))
  have HE := Lib.hid (reg_en hR2 rfl rfl (by decide))
  clear hR2 HN
  go_upto_region 8 with (go_at_call 36; refine HE.out.mono ?_; rintro e w3 ⟨oa3, oc3, rfl, hR3⟩)
  have HP := Lib.hid (reg_put hR3 rfl rfl rfl (by decide))
  clear hR3 HE
  go_upto_region 9 with (go_at_call 36; refine HP.out.mono ?_; rintro e w4 ⟨oa4, oc4, rfl, hR4⟩)
  obtain ⟨C, hC, hCg, hCj, hCq, hCC⟩ : ∃ C : Cor, RegQ false C b k 34 32 w w4 [] ∧ C.goes = false ∧ C.job = none ∧ C.quad = true ∧ ({ C with goes := false } : Cor) = C := ⟨_, hR4.asQ, rfl, rfl, rfl, rfl⟩
  have HCC := Lib.hid (And.intro hCg (And.intro hCj (And.intro hCq hCC)))
  have hl := hC.lit (ints [159, 3, 53, 107]) 3 4 rfl (by decide)
  obtain ⟨g1, o1, e1, -, hc1⟩ := (hl.rs List.mem_cons_self).cells (by decide)
  simp only [Option.some.injEq, Addr.mk.injEq, and_true] at e1
  obtain ⟨rfl, rfl⟩ := e1
  have k1 := hc1 j hj4
  rw [ints_at _ _ (by exact hj4), Nat.zero_add] at k1
  have k2 : (w4.alloc (.cells #[.int .i64 159, .int .i64 3, .int .i64 53, .int .i64 107] 3)).cell? ⟨w4.heap.size, j, none⟩ = some (.int .i64 (([159, 3, 53, 107] : List Int).getD j 0)) := k1
  obtain ⟨o, tt, out, clk, hA, hcase, ho⟩ : ∃ (o tt : Int) (out : List Int) (clk : Int), AnyR C o tt 3 out clk ∧ (j % 2 = 0 ∧ tt = 0 ∨ j % 2 = 1 ∧ tt = (a : Int)) ∧ ([159, 3, 53, 107] : List Int).getD j 0 = o := by
    rcases (show j = 0 ∨ j = 1 ∨ j = 2 ∨ j = 3 by omega) with rfl | rfl | rfl | rfl
    · obtain ⟨out, clk, hA⟩ := any_read C hCg hCj 159 0 3 (by decide) (.inl ⟨.inl rfl, rfl⟩)
      exact ⟨159, 0, out, clk, hA, .inl ⟨rfl, rfl⟩, rfl⟩
    · obtain ⟨out, clk, hA⟩ := any_read C hCg hCj 3 (a : Int) 3 (by decide) (.inr (.inl ⟨.inl rfl, by omega, by omega⟩))
      exact ⟨3, a, out, clk, hA, .inr ⟨rfl, rfl⟩, rfl⟩
    · obtain ⟨out, clk, hA⟩ := any_read C hCg hCj 53 0 3 (by decide) (.inl ⟨.inr (.inr rfl), rfl⟩)
      exact ⟨53, 0, out, clk, hA, .inl ⟨rfl, rfl⟩, rfl⟩
    · obtain ⟨out, clk, hA⟩ := any_read C hCg hCj 107 (a : Int) 3 (by decide) (.inr (.inr ⟨rfl, hCq, by decide, by omega, by omega⟩))
      exact ⟨107, a, out, clk, hA, .inr ⟨rfl, rfl⟩, rfl⟩
  rw [ho] at k2
  have hAA : AnyR { ({ C with goes := true } : Cor) with goes := false } o tt 3 out clk := by
    rw [show ({ ({ C with goes := true } : Cor) with goes := false } : Cor) = C from HCC.out.2.2.2]
    exact hA
  have HA := Lib.hid hA
  have HAA := Lib.hid hAA
  have hjI : (j : Int) < 4 := by omega
  have hclk := And.intro hA.low hA.top
  have HL := Lib.hid hl
  clear hR4 HP hC hCg hCj hCq hCC hc1 k1 ho hA hAA hl
  rcases hcase with ⟨hpar, rfl⟩ | ⟨hpar, rfl⟩
  all_goals
    rw [hpar] at hw1
    have HCK0 := Lib.hid (regq_clocks HL.out)
    have h1 := regq_any HL.out HA.out (by decide)
    have HR1 := Lib.hid h1
    clear h1
    go_upto_region 16 with (first | (go_at_call 31; refine HCK0.out.mono ?_; rintro e w5 ⟨rfl, rfl⟩) | (go_at_call 36; refine HR1.out.mono ?_; rintro e w5 ⟨oa5, oc5, rfl, hR5⟩))
    have HCK5 := Lib.hid (regq_clocks hR5)
    have hx1 : IntKind.i64.wrap (32 + clk - 32) = clk := by rw [IntWalk.i64_in _ (by omega)]; omega
    have h2 : Calls Tryz.prog 36 #[.pointer (some ⟨k, 0, none⟩), .int .i64 235, .int .i64 (a : Int), .slice (some ⟨w5.heap.size, 0, none⟩) 1 1, .int .i64 1] (w5.alloc (.cells #[.int .i64 160] 3)) fun e w' => ∃ oa oc, e = .returned (.tuple #[.slice oa 1 oc, .int .i64 0]) ∧ RegQ true { C with goes := true } b k (34 + 201 + 23) (32 + clk + 22) w w' ((.slice oa 1 oc, ints (intsOf (fetched C.a a 1))) :: _) := regq_go (hR5.lit (ints [160]) 3 1 rfl (by decide)) HCC.out.1 HCC.out.2.1 HCC.out.2.2.1 (a : Int) (by omega) 160 (by decide) true rfl 1 (by decide) (by decide) _ _ List.mem_cons_self (by decide)
    have HG1 := Lib.hid h2
    clear hR5 HR1 HCK0 h2 k2
    go_upto_region 18 with (first | (go_at_call 31; refine HCK5.out.mono ?_; rintro e w6 ⟨rfl, rfl⟩) | (go_at_call 36; refine HG1.out.mono ?_; rintro e w6 ⟨oa6, oc6, rfl, hR6⟩))
    have HCK6 := Lib.hid (regq_clocks hR6)
    have h3 := regq_leave hR6 rfl HCC.out.2.1 HCC.out.2.2.1 HAA.out (by decide)
    have HR7 := Lib.hid h3
    clear hR6 HG1 HCK5 h3 hx1
    go_upto_region 20 with (first | (go_at_call 31; refine HCK6.out.mono ?_; rintro e w7 ⟨rfl, rfl⟩) | (go_at_call 36; refine HR7.out.mono ?_; rintro e w7 ⟨oa7, oc7, rfl, hR7⟩))
    have HCK7 := Lib.hid (regm_clocks hR7)
    have h4 := regm_any hR7 HAA.out (by decide)
    have HR8 := Lib.hid h4
    clear hR7 HR7 HCK6 h4
    have hx2 : IntKind.i64.wrap (32 + clk + 22 + (8 + clk) - (32 + clk + 22)) = 8 + clk := by rw [IntWalk.i64_in _ (by omega)]; omega
    go_upto_region 23 with (first | (go_at_call 31; refine HCK7.out.mono ?_; rintro e w8 ⟨rfl, rfl⟩) | (go_at_call 36; refine HR8.out.mono ?_; rintro e w8 ⟨oa8, oc8, rfl, hR8⟩))
    have HCK8 := Lib.hid (regm_clocks hR8)
    have hx3 : IntKind.i64.wrap (32 + clk + 22 + (8 + clk) + clk - (32 + clk + 22 + (8 + clk))) = clk := by rw [IntWalk.i64_in _ (by omega)]; omega
    have r5 : RS w8 (.slice oa5 3 oc5) (ints out) := hR8.rs (r := (.slice oa5 3 oc5, ints out)) (by repeat (first | exact List.mem_cons_self | apply List.mem_cons_of_mem))
    have r7 : RS w8 (.slice oa7 3 oc7) (ints out) := hR8.rs (r := (.slice oa7 3 oc7, ints out)) (by repeat (first | exact List.mem_cons_self | apply List.mem_cons_of_mem))
    have r8 : RS w8 (.slice oa8 3 oc8) (ints out) := hR8.rs (r := (.slice oa8 3 oc8, ints out)) (by repeat (first | exact List.mem_cons_self | apply List.mem_cons_of_mem))
    have HS1 : Hid (Calls Tryz.prog 47 #[.slice oa5 3 oc5, .slice oa7 3 oc7] w8 fun e w' => e = .returned (.bool true) ∧ Upd none' w8 w') := Lib.hid (by
      have := same_ints w8 _ _ out out r5 r7
      rw [show sameB out out = true from decide_eq_true rfl] at this
      exact this)
    have HS2 : Hid (∀ w9, Upd none' w8 w9 → Calls Tryz.prog 47 #[.slice oa5 3 oc5, .slice oa8 3 oc8] w9 fun e w' => e = .returned (.bool true) ∧ Upd none' w8 w') := Lib.hid (fun w9 u => by
      have := same_ints w9 _ _ out out (r5.upd u (fun _ _ _ f => f)) (r8.upd u (fun _ _ _ f => f))
      rw [show sameB out out = true from decide_eq_true rfl] at this
      exact this.mono (fun e w' h => ⟨h.1, u.trans h.2 (fun _ _ f => f)⟩))
    have HU := Lib.hid hR8.up
    have hx4 : IntKind.i64.wrap (clk + 8) = 8 + clk := by rw [IntWalk.i64_in _ (by omega)]; omega
    clear hR8 r5 r7 r8 HR8 HCK7
    go_upto_region 24 with (go_at_call 31; refine HCK8.out.mono ?_; rintro e w9 ⟨rfl, rfl⟩)
    go_wp2_with (first | (go_at_call 25; refine (num_any _ _).mono ?_; rintro e w' ⟨rfl, rfl⟩) | (go_at_call 47; refine (HS2.out _ hU8).mono ?_; rintro e w9 ⟨rfl, hU9⟩) | (go_at_call 47; refine HS1.out.mono ?_; rintro e w9 ⟨rfl, hU8⟩))
    go_ret
    exact ⟨rfl, HU.out.trans hU9 (fun _ _ f => f)⟩
end Go.Proofs.YtkjdhkpkcepilaaGreat
