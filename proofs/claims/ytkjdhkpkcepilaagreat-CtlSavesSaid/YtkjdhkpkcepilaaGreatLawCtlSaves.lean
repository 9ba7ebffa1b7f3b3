/- lichenlaw11.CtlSaves. -/
import Derived.Test.YtkjdhkpkcepilaaGreatAwake11
import Derived.Test.YtkjdhkpkcepilaaGreatReadG
namespace Go.Proofs.YtkjdhkpkcepilaaGreat
open Go.RowKit
set_option maxRecDepth 100000 in
set_option maxHeartbeats 8000000 in
theorem lawCtlSaves (w : World) (at_ : Int) (_ : (Lit.int .i64 at_).wf = true) (many : Int) (_ : (Lit.int .i64 many).wf = true) :
    Calls Tryz.prog 15 #[.int .i64 at_, .int .i64 many] w fun e w' => e = .returned (.bool true) ∧ Upd none' w w' := by
  have hat := i64_and4095 at_
  obtain ⟨a, ha⟩ : ∃ a : Nat, at_ % 4096 = (a : Int) := ⟨(at_ % 4096).toNat, by omega⟩
  have ha2 : a < 4096 := by omega
  rw [ha] at hat
  have hmn := i64_and31 many
  obtain ⟨p, hp⟩ : ∃ p : Nat, many % 32 = (p : Int) := ⟨(many % 32).toNat, by omega⟩
  have hp2 : p < 32 := by omega
  rw [hp] at hmn
  obtain ⟨m, hm⟩ : ∃ m : Nat, m = 1 + p := ⟨_, rfl⟩
  have hw1 : IntKind.i64.wrap (1 + (p : Int)) = (m : Int) := by rw [IntWalk.i64_in _ (by omega)]; omega
  have hm1 : 1 ≤ m ∧ m ≤ 32 := by omega
  obtain ⟨fa, hfa⟩ : ∃ fa : ByteArray, (⟨(freshL ⟨#[102, 103, 104]⟩).toArray⟩ : ByteArray) = fa := ⟨_, rfl⟩
  have HFA := Lib.hid hfa
  clear hfa ha hp hm
  go_enter Tryz.func15, Tryz.ntmps15
  go_upto_region 4 with (first | (go_at_call 41; refine (awake11 _).mono ?_; rintro e w0 ⟨rfl, hU1⟩) | (go_at_call 42; refine (c_twins11 hU1 _ (by decide) fa HFA.out).mono ?_; rintro e w1 ⟨b, r, rfl, hC1⟩))
  have HN := Lib.hid (reg_new (at_new fa) hC1 (Int.le_refl 0) (by decide))
  clear hC1
  go_upto_region 7 with (first | (go_at_call 28; refine HN.out.mono ?_; rintro e w2 ⟨k, rfl, hR2⟩) | (go_at_call 25; refine (num_any _ _).mono ?_; rintro e w' ⟨rfl, rfl⟩))
  have HE := Lib.hid (reg_en hR2 rfl rfl (by decide))
  clear hR2 HN
  go_upto_region 8 with (go_at_call 36; refine HE.out.mono ?_; rintro e w3 ⟨oa3, oc3, rfl, hR3⟩)
  have HP := Lib.hid (reg_put hR3 rfl rfl rfl (by decide))
  clear hR3 HE
  go_upto_region 10 with (go_at_call 36; refine HP.out.mono ?_; rintro e w4 ⟨oa4, oc4, rfl, hR4⟩)
  obtain ⟨C, hC, hCg, hCj, hCq⟩ : ∃ C : Cor, RegQ false C b k 34 32 w w4 [] ∧ C.goes = false ∧ C.job = none ∧ C.quad = true := ⟨_, hR4.asQ, rfl, rfl, rfl⟩
  have HCC := Lib.hid (And.intro hCg (And.intro hCj hCq))
  have HCK := Lib.hid (regq_clocks hC)
  have h1 : Calls Tryz.prog 36 #[.pointer (some ⟨k, 0, none⟩), .int .i64 235, .int .i64 (a : Int), .slice (some ⟨w4.heap.size, 0, none⟩) 1 1, .int .i64 (m : Int)] (w4.alloc (.cells #[.int .i64 160] 3)) fun e w' => ∃ oa oc, e = .returned (.tuple #[.slice oa m oc, .int .i64 0]) ∧ RegQ true { C with goes := true } b k (34 + (21 + 2 * (m : Int))) (32 + (20 + 2 * (m : Int))) w w' ((.slice oa m oc, ints (intsOf (fetched C.a a m))) :: _) := regq_go (hC.lit (ints [160]) 3 1 rfl (by decide)) hCg hCj hCq (a : Int) (by omega) 160 (by decide) true rfl m hm1.1 (by omega) _ _ List.mem_cons_self (by omega)
  have HG1 := Lib.hid h1
  clear hR4 hC hCg hCj hCq HP h1
  go_upto_region 12 with (first | (go_at_call 31; refine HCK.out.mono ?_; rintro e w5 ⟨rfl, rfl⟩) | (go_at_call 36; refine HG1.out.mono ?_; rintro e w5 ⟨oa5, oc5, rfl, hR5⟩))
  have HCK5 := Lib.hid (regq_clocks hR5)
  have h2 : Calls Tryz.prog 36 #[.pointer (some ⟨k, 0, none⟩), .int .i64 235, .int .i64 (a : Int), .slice (some ⟨w5.heap.size, 0, none⟩) 1 1, .int .i64 (m : Int)] (w5.alloc (.cells #[.int .i64 0] 3)) fun e w' => ∃ oa oc, e = .returned (.tuple #[.slice oa m oc, .int .i64 0]) ∧ RegQ false { C with goes := false } b k (34 + (21 + 2 * (m : Int)) + (21 + 2 * (m : Int))) (32 + (20 + 2 * (m : Int)) + (12 + 2 * (m : Int))) w w' ((.slice oa m oc, ints (intsOf (fetched C.a a m))) :: _) := regq_go (hR5.lit (ints [0]) 3 1 rfl (by decide)) rfl HCC.out.2.1 HCC.out.2.2 (a : Int) (by omega) 0 (by decide) false rfl m hm1.1 (by omega) _ _ List.mem_cons_self (by omega)
  have HG2 := Lib.hid h2
  clear hR5 HG1 HCK h2
  have hx1 : IntKind.i64.wrap (32 + (20 + 2 * (m : Int)) - 32) = 20 + 2 * (m : Int) := by rw [IntWalk.i64_in _ (by omega)]; omega
  go_upto_region 15 with (first | (go_at_call 31; refine HCK5.out.mono ?_; rintro e w6 ⟨rfl, rfl⟩) | (go_at_call 36; refine HG2.out.mono ?_; rintro e w6 ⟨oa6, oc6, rfl, hR6⟩))
  have HCK6 := Lib.hid (regq_clocks hR6)
  have h3 : Calls Tryz.prog 36 #[.pointer (some ⟨k, 0, none⟩), .int .i64 235, .int .i64 (a : Int), .slice (some ⟨w6.heap.size, 0, none⟩) 1 1, .int .i64 (m : Int)] (w6.alloc (.cells #[.int .i64 0] 3)) fun e w' => ∃ oa oc, e = .returned (.tuple #[.slice oa m oc, .int .i64 0]) ∧ RegQ false { C with goes := false } b k (34 + (21 + 2 * (m : Int)) + (21 + 2 * (m : Int)) + (21 + 2 * (m : Int))) (32 + (20 + 2 * (m : Int)) + (12 + 2 * (m : Int)) + (20 + 2 * (m : Int))) w w' ((.slice oa m oc, ints (intsOf (fetched C.a a m))) :: _) := regq_go (hR6.lit (ints [0]) 3 1 rfl (by decide)) rfl HCC.out.2.1 HCC.out.2.2 (a : Int) (by omega) 0 (by decide) false rfl m hm1.1 (by omega) _ _ List.mem_cons_self (by omega)
  have HG3 := Lib.hid h3
  clear hR6 HG2 HCK5 h3 hx1
  have hx2 : IntKind.i64.wrap (32 + (20 + 2 * (m : Int)) + (12 + 2 * (m : Int)) - (32 + (20 + 2 * (m : Int)))) = 12 + 2 * (m : Int) := by rw [IntWalk.i64_in _ (by omega)]; omega
  go_upto_region 18 with (first | (go_at_call 31; refine HCK6.out.mono ?_; rintro e w7 ⟨rfl, rfl⟩) | (go_at_call 36; refine HG3.out.mono ?_; rintro e w7 ⟨oa7, oc7, rfl, hR7⟩))
  have HCK7 := Lib.hid (regq_clocks hR7)
  obtain ⟨l, hl⟩ : ∃ l, intsOf (fetched C.a (a : Int) m) = l := ⟨_, rfl⟩
  rw [hl] at hR7
  have r5 : RS w7 (.slice oa5 m oc5) (ints l) := hR7.rs (r := (.slice oa5 m oc5, ints l)) (by repeat (first | exact List.mem_cons_self | apply List.mem_cons_of_mem))
  have r6 : RS w7 (.slice oa6 m oc6) (ints l) := hR7.rs (r := (.slice oa6 m oc6, ints l)) (by repeat (first | exact List.mem_cons_self | apply List.mem_cons_of_mem))
  have r7 : RS w7 (.slice oa7 m oc7) (ints l) := hR7.rs (r := (.slice oa7 m oc7, ints l)) (by repeat (first | exact List.mem_cons_self | apply List.mem_cons_of_mem))
  have HS1 : Hid (Calls Tryz.prog 47 #[.slice oa5 m oc5, .slice oa6 m oc6] w7 fun e w' => e = .returned (.bool true) ∧ Upd none' w7 w') := Lib.hid (by
    have := same_ints w7 _ _ l l r5 r6
    rw [show sameB l l = true from decide_eq_true rfl] at this
    exact this)
  have HS2 : Hid (∀ w8, Upd none' w7 w8 → Calls Tryz.prog 47 #[.slice oa5 m oc5, .slice oa7 m oc7] w8 fun e w' => e = .returned (.bool true) ∧ Upd none' w7 w') := Lib.hid (fun w8 u => by
    have := same_ints w8 _ _ l l (r5.upd u (fun _ _ _ f => f)) (r7.upd u (fun _ _ _ f => f))
    rw [show sameB l l = true from decide_eq_true rfl] at this
    exact this.mono (fun e w' h => ⟨h.1, u.trans h.2 (fun _ _ f => f)⟩))
  have HU := Lib.hid hR7.up
  clear hR7 hl r5 r6 r7 HG3 HCK6 hx2 hw1 hmn hat
  have hx3 : IntKind.i64.wrap (32 + (20 + 2 * (m : Int)) + (12 + 2 * (m : Int)) + (20 + 2 * (m : Int)) - (32 + (20 + 2 * (m : Int)) + (12 + 2 * (m : Int)))) = 20 + 2 * (m : Int) := by rw [IntWalk.i64_in _ (by omega)]; omega
  have hx4 : IntKind.i64.wrap (20 + 2 * (m : Int) - 8) = 12 + 2 * (m : Int) := by rw [IntWalk.i64_in _ (by omega)]; omega
  go_upto_region 19 with (go_at_call 31; refine HCK7.out.mono ?_; rintro e w8 ⟨rfl, rfl⟩)
  go_wp2_with (first | (go_at_call 25; refine (num_any _ _).mono ?_; rintro e w' ⟨rfl, rfl⟩) | (go_at_call 47; refine (HS2.out _ hU8).mono ?_; rintro e w9 ⟨rfl, hU9⟩) | (go_at_call 47; refine HS1.out.mono ?_; rintro e w8 ⟨rfl, hU8⟩))
  go_ret
  exact ⟨rfl, HU.out.trans hU9 (fun _ _ f => f)⟩
end Go.Proofs.YtkjdhkpkcepilaaGreat
