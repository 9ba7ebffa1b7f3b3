/- lichenlaw10.WireForms. -/
import Derived.Test.YtbflnpkgbpckfaaGreatAwake10
import Derived.Test.YtbflnpkgbpckfaaGreatNums
import Derived.Test.YtbflnpkgbpckfaaGreatCtxV
namespace Go.Proofs.YtbflnpkgbpckfaaGreat
open Go.RowKit
/-- Phases that may not be; v0 ..: their bytes' slices. -/
def bads (d : Int) (n : Nat) (a b c e f g : Value) : List (Ph × Value) :=
  [(⟨0, [], 0, 0⟩, .slice none 0 0), (⟨1, [], 0, 0⟩, .slice none 0 0), (⟨2, [1], 0, 0⟩, a), (⟨1, [256], 0, 0⟩, b), (⟨1, [-d], 0, 0⟩, c), (⟨4, List.replicate n 0, 0, 0⟩, e), (⟨1, [], 4, 0⟩, .slice none 0 0), (⟨0, [], -d, 0⟩, .slice none 0 0), (⟨0, [], 400 + d, 0⟩, .slice none 0 0), (⟨1, [], 0, -d⟩, .slice none 0 0), (⟨4, [], 0, (n : Int)⟩, .slice none 0 0), (⟨0, [], 0, 1⟩, .slice none 0 0), (⟨1, [1], 0, 1⟩, f), (⟨1, [1], 1, 0⟩, g), (⟨0, [], 1, 1⟩, .slice none 0 0)]
theorem bads_no (d : Int) (hd : 1 ≤ d ∧ d ≤ 1024) (n : Nat) (hn : (n : Int) = 512 + d) (a b c e f g : Value) : ∀ x ∈ bads d n a b c e f g, x.1.may = false := by
  intro x hx
  have hne : List.replicate n (0 : Int) ≠ [] := by
    intro h
    have := congrArg List.length h
    rw [List.length_replicate] at this
    simp at this
    omega
  simp only [bads, List.mem_cons, List.not_mem_nil, or_false] at hx
  rcases hx with rfl | rfl | rfl | rfl | rfl | rfl | rfl | rfl | rfl | rfl | rfl | rfl | rfl | rfl | rfl
  all_goals (unfold Ph.may; simp [lanesB, byteB])
  all_goals first | omega | skip
theorem made_intsN (n : Nat) : madeCells (Value.int .i64 0).cells (n * Tryz.t3.size) = (ints (List.replicate n 0)).toArray := by
  rw [show Tryz.t3.size = 1 from by kernel_rfl, show (Value.int .i64 0).cells = #[Value.int .i64 0] from rfl, made_gen, Nat.mul_one]
  unfold ints
  rw [List.map_replicate]
theorem make_intsN (n : Nat) (hn : n ≤ 1048576) (u : World) : (Instr.makeSlice 31 (.int .i64 (n : Int)) (.int .i64 (n : Int))).run Tryz.prog u = .ok (.slice (some ⟨u.heap.size, 0, none⟩) n n) (u.alloc (.cells (ints (List.replicate n 0)).toArray 3)) := by
  have := run_make (P := Tryz.prog) u 31 3 Tryz.t3 (.int .i64 0) Tryz.underlying31 (by kernel_rfl) (by kernel_rfl) .i64 .i64 (n : Int) (n : Int) (by omega) (by omega) (by show ((8 : Nat) : Int) * (n : Int) ≤ _; omega) (by omega)
  rw [this, Int.toNat_natCast, made_intsN]
theorem u15 (x : Int) : ∃ j : Nat, (IntKind.u64.wrap x).tmod 15 = (j : Int) ∧ j < 15 := by
  have h : IntKind.u64.wrap x = x % 18446744073709551616 := by first | exact IntKind.wrap_u64 x | rfl
  refine ⟨(x % 18446744073709551616 % 15).toNat, ?_, by omega⟩
  rw [h, Int.tmod_eq_emod_of_nonneg (by omega)]
  omega
theorem sel_a (a : ByteArray) : (St.new a).select.deselect.a = a := by kernel_rfl
set_option maxRecDepth 100000 in
set_option maxHeartbeats 8000000 in
theorem lawWireForms (w : World) (which : Int) (_ : (Lit.int .i64 which).wf = true) (x : Int) (_ : (Lit.int .i64 x).wf = true) :
    Calls Tryz.prog 4 #[.int .i64 which, .int .i64 x] w fun e w' => e = .returned (.bool true) ∧ Upd none' w w' := by
  obtain ⟨m, hm1, hm2, hmand, hmw⟩ := many_1023 x
  obtain ⟨n, hn⟩ : ∃ n : Nat, (n : Int) = 512 + (m : Int) := ⟨512 + m, by omega⟩
  have hw1 : IntKind.i64.wrap (512 + (m : Int)) = (n : Int) := by rw [IntWalk.i64_in _ (by omega)]; omega
  have hw2 : IntKind.i64.wrap (400 + (m : Int)) = 400 + (m : Int) := IntWalk.i64_in _ (by omega)
  have hw3 : IntKind.i64.wrap (-(m : Int)) = -(m : Int) := IntWalk.i64_in _ (by omega)
  have hmk := make_intsN n (by omega)
  have HNN := Lib.hid hn
  clear hn
  obtain ⟨fa, hfa⟩ : ∃ fa : ByteArray, (⟨(freshL ⟨#[97]⟩).toArray⟩ : ByteArray) = fa := ⟨_, rfl⟩
  have hsz : fa.size = 4096 := by rw [← hfa]; simpa [ByteArray.size] using freshL_len ⟨#[97]⟩
  have HFA := Lib.hid hfa
  clear hfa
  go_enter Tryz.func4, Tryz.ntmps4
  go_upto_region 4 with (go_at_call 15; refine (awake10 _).mono ?_; rintro e w1 ⟨rfl, hU1⟩)
  obtain ⟨j, hj, hj15⟩ := u15 which
  have hc1 := ((((((Ctx.start hU1).nilrow.lit (ints [1]) 3 1 rfl (by decide)).lit (ints [256]) 3 1 rfl (by decide)).lit (ints [-(m : Int)]) 3 1 rfl (by decide)).lit (ints (List.replicate n 0)) 3 n (by rw [ints_len, List.length_replicate]) (by have := HNN.out; omega)).lit (ints [1]) 3 1 rfl (by decide)).lit (ints [1]) 3 1 rfl (by decide)
  have hsz1 : ∀ (W : World) (c : Array Value) (t : TypeId), (W.alloc (.cells c t)).heap.size = W.heap.size + 1 := fun W c t => by simp
  simp only [hsz1] at hc1
  obtain ⟨hC5, hP5⟩ := phs_lit2 hc1 (bads (m : Int) n (.slice (some ⟨w1.heap.size, 0, none⟩) 1 1) (.slice (some ⟨w1.heap.size + 1, 0, none⟩) 1 1) (.slice (some ⟨w1.heap.size + 1 + 1, 0, none⟩) 1 1) (.slice (some ⟨w1.heap.size + 1 + 1 + 1, 0, none⟩) n n) (.slice (some ⟨w1.heap.size + 1 + 1 + 1 + 1, 0, none⟩) 1 1) (.slice (some ⟨w1.heap.size + 1 + 1 + 1 + 1 + 1, 0, none⟩) 1 1)) 15 rfl (by decide) (by
    intro x hx
    simp only [bads, List.mem_cons, List.not_mem_nil, or_false] at hx
    rcases hx with rfl | rfl | rfl | rfl | rfl | rfl | rfl | rfl | rfl | rfl | rfl | rfl | rfl | rfl | rfl
    all_goals first
      | exact phOk_nil _ _ _ _
      | exact ⟨⟨_, _, rfl, Nat.le_refl _⟩, show 1 * 8 ≤ 140737488351232 by decide, .inr (by repeat (first | exact List.mem_cons_self | apply List.mem_cons_of_mem))⟩
      | exact ⟨⟨_, _, by rw [List.length_replicate], by rw [List.length_replicate]; exact Nat.le_refl _⟩, by dsimp only; rw [List.length_replicate]; have := HNN.out; omega, .inr (by repeat (first | exact List.mem_cons_self | apply List.mem_cons_of_mem))⟩)
  simp only [hsz1] at hC5 hP5
  have HNO := Lib.hid (bads_no (m : Int) ⟨by omega, by omega⟩ n HNN.out (.slice (some ⟨w1.heap.size, 0, none⟩) 1 1) (.slice (some ⟨w1.heap.size + 1, 0, none⟩) 1 1) (.slice (some ⟨w1.heap.size + 1 + 1, 0, none⟩) 1 1) (.slice (some ⟨w1.heap.size + 1 + 1 + 1, 0, none⟩) n n) (.slice (some ⟨w1.heap.size + 1 + 1 + 1 + 1, 0, none⟩) 1 1) (.slice (some ⟨w1.heap.size + 1 + 1 + 1 + 1 + 1, 0, none⟩) 1 1))
  have HC5 := Lib.hid hC5
  have HP5 := Lib.hid hP5
  clear hc1 hsz1 hC5 hP5
  go_upto_region 5 with fail
  obtain ⟨L, hL, hll⟩ : ∃ L : List (Ph × Value), bads (m : Int) n (.slice (some ⟨w1.heap.size, 0, none⟩) 1 1) (.slice (some ⟨w1.heap.size + 1, 0, none⟩) 1 1) (.slice (some ⟨w1.heap.size + 1 + 1, 0, none⟩) 1 1) (.slice (some ⟨w1.heap.size + 1 + 1 + 1, 0, none⟩) n n) (.slice (some ⟨w1.heap.size + 1 + 1 + 1 + 1, 0, none⟩) 1 1) (.slice (some ⟨w1.heap.size + 1 + 1 + 1 + 1 + 1, 0, none⟩) 1 1) = L ∧ L.length = 15 := ⟨_, rfl, rfl⟩
  obtain ⟨W5, hW5⟩ : ∃ W5 : World, W5 = ((((((w1.alloc (.cells (ints [1]).toArray 3)).alloc (.cells (ints [256]).toArray 3)).alloc (.cells (ints [-(m : Int)]).toArray 3)).alloc (.cells (ints (List.replicate n 0)).toArray 3)).alloc (.cells (ints [1]).toArray 3)).alloc (.cells (ints [1]).toArray 3)).alloc (.cells (L.flatMap phCells).toArray 37) := ⟨_, rfl⟩
  rw [hL, ← hW5] at HC5
  rw [hL] at HP5 HNO
  have hW5' := hW5
  rw [← hL] at hW5'
  change Code.wp _ _ _ _ (((((((w1.alloc (.cells (ints [1]).toArray 3)).alloc (.cells (ints [256]).toArray 3)).alloc (.cells (ints [-(m : Int)]).toArray 3)).alloc (.cells (ints (List.replicate n 0)).toArray 3)).alloc (.cells (ints [1]).toArray 3)).alloc (.cells (ints [1]).toArray 3)).alloc (.cells ((bads (m : Int) n (.slice (some ⟨w1.heap.size, 0, none⟩) 1 1) (.slice (some ⟨w1.heap.size + 1, 0, none⟩) 1 1) (.slice (some ⟨w1.heap.size + 1 + 1, 0, none⟩) 1 1) (.slice (some ⟨w1.heap.size + 1 + 1 + 1, 0, none⟩) n n) (.slice (some ⟨w1.heap.size + 1 + 1 + 1 + 1, 0, none⟩) 1 1) (.slice (some ⟨w1.heap.size + 1 + 1 + 1 + 1 + 1, 0, none⟩) 1 1)).flatMap phCells).toArray 37))
  rw [← hW5']
  clear hW5 hW5' hL hmk hw1 hw2 hw3 hmand hmw
  generalize w1.heap.size + 1 + 1 + 1 + 1 + 1 + 1 = g5 at *
  obtain ⟨-, -, g6, o6, e6, hg6, k0, k1, k2, k3⟩ := phs_cells HC5.out HP5.out j (by omega)
  simp only [Option.some.injEq, Addr.mk.injEq, and_true] at e6
  obtain ⟨rfl, rfl⟩ := e6
  simp only [Nat.zero_add] at k0 k1 k2 k3
  obtain ⟨ba, bc, hbv, hbm, hbl⟩ := phs_bytes HP5.out j (by omega)
  have hok := HP5.out.ok _ (List.getElem_mem (show j < L.length by omega))
  have hno := HNO.out _ (List.getElem_mem (show j < L.length by omega))
  obtain ⟨⟨p, pv⟩, hp⟩ : ∃ p, L[j] = p := ⟨_, rfl⟩
  rw [hp] at k0 k1 k2 k3 hbv hok hno
  dsimp only at k0 k1 k2 k3 hbv hno
  subst hbv
  obtain ⟨la, bs, cl, rd⟩ := p
  dsimp only at k0 k1 k2 k3 hok
  have hjI : (j : Int) < 15 := by omega
  have HOK := Lib.hid hok
  have hall : ∀ v : Value, ([((⟨0, [], 3, 0⟩ : Ph), Value.slice none 0 0), (⟨la, bs, cl, rd⟩, v)] : List (Ph × Value)).all (fun x => x.1.may) = false := by
    intro v
    show (Ph.may ⟨0, [], 3, 0⟩ && (Ph.may ⟨la, bs, cl, rd⟩ && true)) = false
    rw [hno]
    simp
  have HALL := Lib.hid hall
  have hold := (HC5.out.alloc (.cells #[.int .i64 la, .slice ba bs.length bc, .int .i64 cl, .int .i64 rd] 37)).asOld
  have HOLD := Lib.hid hold
  have HU6 := Lib.hid (HC5.out.upd.alloc (.cells #[.int .i64 la, .slice ba bs.length bc, .int .i64 cl, .int .i64 rd] 37))
  have HBK := Lib.hid (Blk.new W5 [.int .i64 la, .slice ba bs.length bc, .int .i64 cl, .int .i64 rd] 37)
  clear hbm hbl hok hno hp hall hold hU1 HP5 HC5 HNO hll
  go_upto_region 12 with (first | (go_at_call 16; refine (c_twins10 (Upd.refl none' _) _ (by decide) fa HFA.out).mono ?_; rintro e w2 ⟨b, r, rfl, hC2⟩) | (go_at_call 20; refine (c_cells hC2 fa rfl).mono ?_; rintro e w3 ⟨rfl, rfl⟩))
  obtain ⟨kb, hkb⟩ : ∃ kb, W5.heap.size = kb := ⟨_, rfl⟩
  rw [hkb] at HBK ⊢
  obtain ⟨rows, hC3, hok3⟩ : ∃ rows, Ctx (ChipP b (St.new fa) 0) .emp (W5.alloc (.cells #[.int .i64 la, .slice ba bs.length bc, .int .i64 cl, .int .i64 rd] 37)) w2 rows ∧ PhOk rows (⟨la, bs, cl, rd⟩, .slice ba bs.length bc) := by
    have h := hC2.old HOLD.out
    rw [List.append_nil] at h
    exact ⟨_, h, HOK.out⟩
  have hok2 : ∀ R : List (Value × List Value), (∀ r ∈ rows, r ∈ R) → ∀ x ∈ ([((⟨0, [], 3, 0⟩ : Ph), Value.slice none 0 0), (⟨la, bs, cl, rd⟩, .slice ba bs.length bc)] : List (Ph × Value)), PhOk R x := by
    intro R hR x hx
    simp only [List.mem_cons, List.not_mem_nil, or_false] at hx
    rcases hx with rfl | rfl
    · exact phOk_nil _ _ _ _
    · exact hok3.sub hR
  have HOK2 := Lib.hid hok2
  have hbk := HBK.out.upd hC3.upd (fun f => f)
  have c0 := hbk.cell 0
  have c1 := hbk.cell 1
  have c2 := hbk.cell 2
  have c3 := hbk.cell 3
  simp only [List.getElem?_cons_succ, List.getElem?_cons_zero] at c0 c1 c2 c3
  obtain ⟨hC4, hP4⟩ := phs_lit2 hC3 [((⟨0, [], 3, 0⟩ : Ph), Value.slice none 0 0), (⟨la, bs, cl, rd⟩, .slice ba bs.length bc)] 2 rfl (by decide) (hok2 rows (fun r h => h))
  have hcl := wire_clocks hC4 _ _ _ _ hP4
  rw [show clocksV [((⟨0, [], 3, 0⟩ : Ph), Value.slice none 0 0), (⟨la, bs, cl, rd⟩, .slice ba bs.length bc)] = 0 from by unfold clocksV; rw [HALL.out]; rfl, show clocksE [((⟨0, [], 3, 0⟩ : Ph), Value.slice none 0 0), (⟨la, bs, cl, rd⟩, .slice ba bs.length bc)] = 1000 from by unfold clocksE; rw [HALL.out]; rfl] at hcl
  have HCL := Lib.hid hcl
  clear hC2 hC3 hok3 hok2 hbk hC4 hP4 hcl HOLD HOK k0 k1 k2 k3
  go_upto_region 13 with (go_at_call 17; refine HCL.out.mono ?_; rintro e w3 ⟨rfl, hC5⟩)
  clear c0 c1 c2 c3
  have hbk := HBK.out.upd hC5.upd (fun f => f)
  have c0 := hbk.cell 0
  have c1 := hbk.cell 1
  have c2 := hbk.cell 2
  have c3 := hbk.cell 3
  simp only [List.getElem?_cons_succ, List.getElem?_cons_zero] at c0 c1 c2 c3
  obtain ⟨hC6, hP6⟩ := phs_lit2 hC5 [((⟨0, [], 3, 0⟩ : Ph), Value.slice none 0 0), (⟨la, bs, cl, rd⟩, .slice ba bs.length bc)] 2 rfl (by decide) (HOK2.out _ (fun r h => List.mem_cons_of_mem _ h))
  have HDR := Lib.hid (c_drive_no (b := b) hC6 _ _ _ _ hP6 (-1) (HALL.out _))
  clear hC5 hbk hC6 hP6
  go_upto_region 14 with (go_at_call 18; refine HDR.out.mono ?_; rintro e w4 ⟨rfl, hC7⟩)
  clear c0 c1 c2 c3
  have hdn := c_drive Own.emp_ok hC7 (by decide) rfl none 0 0 [] (phs_nil _) (-1) (by unfold i64B; decide) rfl (.inl (by decide)) ⟨(St.new fa).select, [], 0, -1⟩ true rfl
  have HDN := Lib.hid hdn
  clear hC7 hdn
  go_upto_region 15 with (go_at_call 18; refine HDN.out.mono ?_; rintro e w5 ⟨oa, oc, rfl, hC8⟩)
  have HCE := Lib.hid (c_cells hC8 fa (sel_a fa))
  have HU := Lib.hid (HU6.out.trans hC8.upd (fun _ _ f => f))
  clear hC8
  go_wp2_with (first | (go_at_call 19; refine (num_any _ _).mono ?_; rintro e w' ⟨rfl, rfl⟩) | (go_at_call 20; refine HCE.out.mono ?_; rintro e w6 ⟨rfl, rfl⟩))
  go_ret
  exact ⟨rfl, HU.out⟩
end Go.Proofs.YtbflnpkgbpckfaaGreat
