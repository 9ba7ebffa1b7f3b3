/- lichenlaw10.WireReads. -/
import Derived.Test.YtepnljeojlbliaaGreatAwake10
import Derived.Test.YtepnljeojlbliaaGreatRcmA
import Derived.Test.YtepnljeojlbliaaGreatReadG
namespace Go.Proofs.YtepnljeojlbliaaGreat
open Go.RowKit
theorem ints_fetched' (a : ByteArray) (tt : Int) (m : Nat) : intsOf (fetched a tt m) = (List.range m).map (fun (i : Nat) => byteOf a ((tt + (i : Int)) % 4096).toNat) := by
  unfold intsOf fetched
  rw [List.map_map]
  rfl
theorem byteW_get (a : ByteArray) (q : Nat) (h : q < a.size) : byteOf a q = ((a[q]'h).toNat : Int) := by
  unfold byteOf
  rw [List.getD_eq_getElem?_getD, List.getElem?_eq_getElem (show q < a.data.toList.length from h)]
  rfl
theorem wreads_at (fa : ByteArray) (hsz : fa.size = 4096) (a m j : Nat) (_ : a < 4096) (hj : j < m) (hm : m ≤ 64) : ∃ r t : Nat, ∃ hr : r < fa.size, t ≤ 8192 ∧ IntKind.i64.wrap ((a : Int) + (j : Int)) = (t : Int) ∧ (t : Int).tmod 4096 = (r : Int) ∧ (ints (intsOf (fetched fa (a : Int) m)))[j]? = some (.int .i64 ((fa[r]'hr).toNat : Int)) := by
  refine ⟨(a + j) % 4096, a + j, by rw [hsz]; exact Nat.mod_lt _ (by decide), by omega, ?_, ?_, ?_⟩
  · rw [IntWalk.i64_in _ (by omega)]; omega
  · rw [Int.tmod_eq_emod_of_nonneg (by omega)]; omega
  · have hl : j < (intsOf (fetched fa (a : Int) m)).length := by unfold intsOf; rw [List.length_map, fetched_len]; exact hj
    rw [ints_at _ _ hl, ints_fetched', List.getD_eq_getElem?_getD, List.getElem?_map, List.getElem?_range hj]
    show some (Value.int .i64 (byteOf fa (((a : Int) + (j : Int)) % 4096).toNat)) = _
    rw [show (((a : Int) + (j : Int)) % 4096).toNat = (a + j) % 4096 by omega, byteW_get fa _ (by rw [hsz]; exact Nat.mod_lt _ (by decide))]
/-- What a read by wires does, whichever. -/
structure WireR (c : Cor) (o : Int) (k : Nat) (data : List Int) (m : Nat) (c' : Cor) (clk : Int) : Prop where
  op : opIs o = true
  may : cmdMay (opOf o) (k : Int) data (m : Int) = true
  many : phsMany (cmdPhs (opOf o) (k : Int) data (m : Int)) = clk
  top : 0 ≤ clk ∧ clk ≤ 1000
  a : c'.a = c.a
  all : ∀ t, At c t → ∃ d : Drv, Drv.phases ⟨t.select, [], 0, -1⟩ (cmdPhs (opOf o) (k : Int) data (m : Int)) = (d, true) ∧ d.clocks = clk ∧ d.out = intsOf (fetched c.a k m) ∧ At c' d.s.deselect
theorem wireR_3 (c : Cor) (hg : c.goes = false) (hj : c.job = none) (k m : Nat) (hk : k < 4096) (hm : m ≤ 64) : WireR c 3 k [] m c (32 + 8 * (m : Int)) := by
  refine ⟨by decide, rd3_may k ⟨by omega, by omega⟩ m (by omega), rd3_many k m, by omega, rfl, fun t ht => ?_⟩
  rw [ints_fetched']
  exact rd3_all ht hg hj k ⟨by omega, by omega⟩ m
theorem wireR_107 (c : Cor) (hg : c.goes = false) (hj : c.job = none) (hq : c.quad = true) (k m : Nat) (hk : k < 4096) (hm1 : 1 ≤ m) (hm : m ≤ 64) : WireR c 107 k [] m c (40 + 2 * (m : Int)) := by
  have e1 : opOf 107 = ⟨107, 1, false, 8, 4, false⟩ := by kernel_rfl
  refine ⟨by decide, ?_, ?_, by omega, rfl, fun t ht => ?_⟩
  · rw [e1]
    unfold cmdMay fitsB
    simp
    omega
  · have e : cmdPhs (opOf 107) (k : Int) [] m = [⟨1, [107], 0, 0⟩, ⟨1, [(k : Int) / 65536, (k : Int) / 256 % 256, (k : Int) % 256], 0, 0⟩, ⟨0, [], 8, 0⟩, ⟨4, [], 0, (m : Int)⟩] := by
      rw [e1]
      unfold cmdPhs
      dsimp only
      rw [if_pos (by decide), if_neg (by decide), if_pos (by decide), if_neg (by simp), if_pos (by omega)]
      rfl
    rw [e]
    show 0 + ((0 : Int) + ((1 : Int) + 0) * 8) + ((0 : Int) + ((3 : Int) + 0) * 8) + (8 + 0) + ((0 : Int) + ((0 : Int) + m) * 2) = _
    omega
  · obtain ⟨d, e1, e2, e3, e4, -⟩ := read4_all ht hg hj hq k ⟨by omega, by omega⟩ m hm1
    rw [ints_fetched']
    exact ⟨d, e1, e2, e3, e4⟩
theorem wireR_235 (c : Cor) (hg : c.goes = false) (hj : c.job = none) (hq : c.quad = true) (k m : Nat) (hk : k < 4096) (hm1 : 1 ≤ m) (hm : m ≤ 64) (x : Nat) (hx : x < 256) : WireR c 235 k [(x : Int)] m { c with goes := decide ((x : Int) = 160) } (20 + 2 * (m : Int)) := by
  refine ⟨by decide, go_may k x ⟨by omega, by omega⟩ ⟨by omega, by omega⟩ m (by omega), go_many k x m hm1, by omega, rfl, fun t ht => ?_⟩
  exact goQ_all ht hg hj hq k ⟨by omega, by omega⟩ x ⟨by omega, by omega⟩ m hm1
set_option maxRecDepth 100000 in
set_option maxHeartbeats 8000000 in
theorem lawWireReads (w : World) (s : ByteArray) (hs : s.size ≤ 9223372036854775807) (at_ : Int) (_ : (Lit.int .i64 at_).wf = true) (many : Int) (_ : (Lit.int .i64 many).wf = true) (which : Int) (_ : (Lit.int .i64 which).wf = true) :
    Calls Tryz.prog 4 #[.string s, .int .i64 at_, .int .i64 many, .int .i64 which] w fun e w' => e = .returned (.bool true) ∧ Upd none' w w' := by
  obtain ⟨k, hkmod, hk⟩ := uN at_ 4096 (by decide) (by decide)
  rw [show ((4096 : Nat) : Int) = 4096 from rfl] at hkmod
  have hmn := i64_and63 many
  obtain ⟨p, hp⟩ : ∃ p : Nat, many % 64 = (p : Int) := ⟨(many % 64).toNat, by omega⟩
  have hp2 : p < 64 := by omega
  rw [hp] at hmn
  obtain ⟨m, hm⟩ : ∃ m : Nat, m = 1 + p := ⟨_, rfl⟩
  have hw1 : IntKind.i64.wrap (1 + (p : Int)) = (m : Int) := by rw [IntWalk.i64_in _ (by omega)]; omega
  have hm1 : 1 ≤ m ∧ m ≤ 64 := by omega
  have ha3 := i64_and3 which
  have hx3 := i64_and255 which
  obtain ⟨x, hx⟩ : ∃ x : Nat, which % 256 = (x : Int) := ⟨(which % 256).toNat, by omega⟩
  have hx2 : x < 256 := by omega
  rw [hx] at hx3
  obtain ⟨j, hj⟩ : ∃ j : Nat, which % 4 = (j : Int) := ⟨(which % 4).toNat, by omega⟩
  have hj4 : j < 4 := by omega
  rw [hj] at ha3
  obtain ⟨fa, hfa⟩ : ∃ fa : ByteArray, (⟨(freshL s).toArray⟩ : ByteArray) = fa := ⟨_, rfl⟩
  have hsz : fa.size = 4096 := by rw [← hfa]; simpa [ByteArray.size] using freshL_len _
  have HFA := Lib.hid hfa
  clear hfa hp hm hx hj
  have q6 : (opOf 6).cells = #[.int .i64 6, .int .i64 0, .bool false, .int .i64 0, .int .i64 0, .bool false] := by kernel_rfl
  have q1 : (opOf 1).cells = #[.int .i64 1, .int .i64 0, .bool false, .int .i64 0, .int .i64 1, .bool true] := by kernel_rfl
  have q3 : (opOf 3).cells = #[.int .i64 3, .int .i64 1, .bool false, .int .i64 0, .int .i64 1, .bool false] := by kernel_rfl
  have q107 : (opOf 107).cells = #[.int .i64 107, .int .i64 1, .bool false, .int .i64 8, .int .i64 4, .bool false] := by kernel_rfl
  have q235 : (opOf 235).cells = #[.int .i64 235, .int .i64 4, .bool true, .int .i64 4, .int .i64 4, .bool false] := by kernel_rfl
  have HQ6 := Lib.hid q6
  have HQ1 := Lib.hid q1
  have HQ3 := Lib.hid q3
  have HQ107 := Lib.hid q107
  have HQ235 := Lib.hid q235
  clear q6 q1 q3 q107 q235
  go_enter Tryz.func4, Tryz.ntmps4
  go_upto_region 6 with (first | (go_at_call 36; refine (awake10 _).mono ?_; rintro e w0 ⟨rfl, hU1⟩) | (go_at_call 37; refine (c_twins10 hU1 _ hs fa HFA.out).mono ?_; rintro e w1 ⟨b, r, rfl, hC1⟩))
  have HF := Lib.hid (rfindL 6 (by decide) _ HQ6.out w1)
  have HC1 := Lib.hid hC1
  clear hC1
  go_upto_region 7 with (go_at_call 38; refine HF.out.mono ?_; rintro e w2 ⟨rfl, hU2⟩)
  have hW := wat_new (HC1.out.frame hU2) [.int .i64 6, .int .i64 0, .bool false, .int .i64 0, .int .i64 0, .bool false]
  obtain ⟨ko, hko⟩ : ∃ ko, w2.heap.size = ko := ⟨_, rfl⟩
  rw [hko] at hW ⊢
  obtain ⟨W2, hW2⟩ : ∃ W2, w2.alloc (.cells #[.int .i64 6, .int .i64 0, .bool false, .int .i64 0, .int .i64 0, .bool false] 52) = W2 := ⟨_, rfl⟩
  replace hW : Wat (Cor.new fa) b ko [.int .i64 6, .int .i64 0, .bool false, .int .i64 0, .int .i64 0, .bool false] 0 w W2 [] := by rw [← hW2]; exact hW
  rw [hW2]
  clear hW2 hko HC1 HF hU2
  have c0 := hW.blk.cell 0
  have c1 := hW.blk.cell 1
  have c2 := hW.blk.cell 2
  have c3 := hW.blk.cell 3
  have c4 := hW.blk.cell 4
  have c5 := hW.blk.cell 5
  simp only [List.getElem?_cons_succ, List.getElem?_cons_zero] at c0 c1 c2 c3 c4 c5
  have HCM := Lib.hid (wat_cmd hW.nil 6 (by decide) _ HQ6.out 0 none 0 [] 0 rfl List.mem_cons_self 0 (by kernel_rfl))
  clear hW
  go_upto_region 8 with (go_at_call 39; refine HCM.out.mono ?_; rintro e w3 ⟨g3, m3, p3, L3, rows3, rfl, hL3, hW3, hP3⟩)
  have HD := Lib.hid (wat_drive hW3 6 (by decide) 0 [] 0 (by kernel_rfl) _ m3 p3 L3 hL3 hP3 { Cor.new fa with en := true } [] 0 rfl 8 (by kernel_rfl) (by decide) (fun t ht => en_all ht rfl rfl))
  clear hW3 hL3 hP3 HCM c0 c1 c2 c3 c4 c5
  go_upto_region 9 with (go_at_call 40; refine HD.out.mono ?_; rintro e w4 ⟨oa4, oc4, rfl, hW4⟩)
  have HW4 := Lib.hid hW4
  have HF := Lib.hid (rfindL 1 (by decide) _ HQ1.out w4)
  clear hW4 HD
  go_upto_region 10 with (go_at_call 38; refine HF.out.mono ?_; rintro e w5 ⟨rfl, hU5⟩; have hW5 := HW4.out.fr hU5; have c0 := hW5.blk.cell 0; have f0 := hW5.blk.frozen 0; have c1 := hW5.blk.cell 1; have f1 := hW5.blk.frozen 1; have c2 := hW5.blk.cell 2; have f2 := hW5.blk.frozen 2; have c3 := hW5.blk.cell 3; have f3 := hW5.blk.frozen 3; have c4 := hW5.blk.cell 4; have f4 := hW5.blk.frozen 4; have c5 := hW5.blk.cell 5; have f5 := hW5.blk.frozen 5; simp only [List.getElem?_cons_succ, List.getElem?_cons_zero] at c0 c1 c2 c3 c4 c5; have HW5 := Lib.hid hW5; clear hW5)
  have hW6 := ((((((HW5.out.set 0 (.int .i64 1)).set 1 (.int .i64 0)).set 2 (.bool false)).set 3 (.int .i64 0)).set 4 (.int .i64 1)).set 5 (.bool true))
  simp only [List.set_cons_zero, List.set_cons_succ] at hW6
  obtain ⟨W6, hW6e⟩ : ∃ W6, ((((((w5.setCell ⟨ko, 0, none⟩ (.int .i64 1)).setCell ⟨ko, 1, none⟩ (.int .i64 0)).setCell ⟨ko, 2, none⟩ (.bool false)).setCell ⟨ko, 3, none⟩ (.int .i64 0)).setCell ⟨ko, 4, none⟩ (.int .i64 1)).setCell ⟨ko, 5, none⟩ (.bool true)) = W6 := ⟨_, rfl⟩
  rw [hW6e] at hW6 ⊢
  clear hW6e c0 c1 c2 c3 c4 c5 f0 f1 f2 f3 f4 f5 HW5 HW4 HF hU5
  have c0 := hW6.blk.cell 0
  have c1 := hW6.blk.cell 1
  have c2 := hW6.blk.cell 2
  have c3 := hW6.blk.cell 3
  have c4 := hW6.blk.cell 4
  have c5 := hW6.blk.cell 5
  simp only [List.getElem?_cons_succ, List.getElem?_cons_zero] at c0 c1 c2 c3 c4 c5
  have hcm : Calls Tryz.prog 39 #[.agg #[.int .i64 1, .int .i64 0, .bool false, .int .i64 0, .int .i64 1, .bool true], .int .i64 0, .slice (some ⟨W6.heap.size, 0, none⟩) 2 2, .int .i64 0] (W6.alloc (.cells #[.int .i64 0, .int .i64 2] 3)) _ := wat_cmd (hW6.lit (ints [0, 2]) 3 2 rfl (by decide)) 1 (by decide) _ HQ1.out 0 _ 2 [0, 2] 2 rfl List.mem_cons_self 0 (by kernel_rfl)
  have HCM := Lib.hid hcm
  clear hW6 hcm
  go_upto_region 11 with (go_at_call 39; refine HCM.out.mono ?_; rintro e w7 ⟨g7, m7, p7, L7, rows7, rfl, hL7, hW7, hP7⟩)
  have HD := Lib.hid (wat_drive hW7 1 (by decide) 0 [0, 2] 0 (by kernel_rfl) _ m7 p7 L7 hL7 hP7 { ({ Cor.new fa with en := true } : Cor) with prot := false, quad := true, en := false } [] 0 rfl 24 (by kernel_rfl) (by decide) (fun t ht => put_all (c := { Cor.new fa with en := true }) ht rfl rfl rfl))
  clear hW7 hL7 hP7 HCM c0 c1 c2 c3 c4 c5
  go_upto_region 12 with (go_at_call 40; refine HD.out.mono ?_; rintro e w8 ⟨oa8, oc8, rfl, hW8⟩)
  obtain ⟨C, R8, hW8', hCg, hCj, hCq, hCa⟩ : ∃ (C : Cor) (R8 : List (Value × List Value)), Wat C b ko [.int .i64 1, .int .i64 0, .bool false, .int .i64 0, .int .i64 1, .bool true] 34 w w8 R8 ∧ C.goes = false ∧ C.job = none ∧ C.quad = true ∧ C.a = fa := ⟨_, _, hW8, rfl, rfl, rfl, rfl⟩
  have HCC := Lib.hid (And.intro hCg (And.intro hCj (And.intro hCq hCa)))
  have HW8 := Lib.hid hW8'
  clear hW8 hW8' HD hCg hCj hCq hCa
  rcases (show j = 0 ∨ j = 1 ∨ j = 2 ∨ j = 3 by omega) with rfl | rfl | rfl | rfl
  · go_upto_region 21 with fail
    have hW9 := HW8.out.nil
    have HW9 := Lib.hid hW9
    have HF := Lib.hid (rfindL 3 (by decide) _ HQ3.out w8)
    clear hW9 HW8
    go_upto_region 22 with (go_at_call 38; refine HF.out.mono ?_; rintro e w10 ⟨rfl, hU10⟩; have hW10 := HW9.out.fr hU10; have c0 := hW10.blk.cell 0; have f0 := hW10.blk.frozen 0; have c1 := hW10.blk.cell 1; have f1 := hW10.blk.frozen 1; have c2 := hW10.blk.cell 2; have f2 := hW10.blk.frozen 2; have c3 := hW10.blk.cell 3; have f3 := hW10.blk.frozen 3; have c4 := hW10.blk.cell 4; have f4 := hW10.blk.frozen 4; have c5 := hW10.blk.cell 5; have f5 := hW10.blk.frozen 5; simp only [List.getElem?_cons_succ, List.getElem?_cons_zero] at c0 c1 c2 c3 c4 c5; have HW10 := Lib.hid hW10; clear hW10)
    have hWa := ((((((HW10.out.set 0 (.int .i64 3)).set 1 (.int .i64 1)).set 2 (.bool false)).set 3 (.int .i64 0)).set 4 (.int .i64 1)).set 5 (.bool false))
    simp only [List.set_cons_zero, List.set_cons_succ] at hWa
    obtain ⟨Wa, hWae⟩ : ∃ Wa, ((((((w10.setCell ⟨ko, 0, none⟩ (.int .i64 3)).setCell ⟨ko, 1, none⟩ (.int .i64 1)).setCell ⟨ko, 2, none⟩ (.bool false)).setCell ⟨ko, 3, none⟩ (.int .i64 0)).setCell ⟨ko, 4, none⟩ (.int .i64 1)).setCell ⟨ko, 5, none⟩ (.bool false)) = Wa := ⟨_, rfl⟩
    rw [hWae] at hWa ⊢
    clear hWae c0 c1 c2 c3 c4 c5 f0 f1 f2 f3 f4 f5 HW10 HW9 HF hU10
    have c0 := hWa.blk.cell 0
    have c1 := hWa.blk.cell 1
    have c2 := hWa.blk.cell 2
    have c3 := hWa.blk.cell 3
    have c4 := hWa.blk.cell 4
    have c5 := hWa.blk.cell 5
    simp only [List.getElem?_cons_succ, List.getElem?_cons_zero] at c0 c1 c2 c3 c4 c5
    have hwr := wireR_3 C HCC.out.1 HCC.out.2.1 k m hk hm1.2
    obtain ⟨c', clk, hwr⟩ : ∃ c' clk, WireR C 3 k [] m c' clk := ⟨_, _, hwr⟩
    have HWR := Lib.hid hwr
    have HCM := Lib.hid (wat_cmd hWa 3 hwr.op _ HQ3.out (k : Int) _ 0 [] 0 rfl List.mem_cons_self (m : Int) hwr.may)
    clear hWa hwr
    go_upto_region 23 with (go_at_call 39; refine HCM.out.mono ?_; rintro e w11 ⟨g11, m11, p11, L11, rows11, rfl, hL11, hW11, hP11⟩)
    have HLP := Lib.hid (And.intro hL11 hP11)
    have hol : (intsOf (fetched fa (k : Int) m)).length = m := by unfold intsOf; rw [List.length_map, fetched_len]
    have htop := HWR.out.top
    have hdr := wat_drive hW11 3 HWR.out.op (k : Int) [] (m : Int) HWR.out.may _ m11 p11 L11 hL11 hP11 c' (intsOf (fetched fa (k : Int) m)) m hol clk HWR.out.many (by omega) (fun t ht => by
      have := HWR.out.all t ht
      rw [HCC.out.2.2.2] at this
      exact this)
    have HD := Lib.hid hdr
    clear hdr hW11 hL11 hP11 HCM c0 c1 c2 c3 c4 c5 hol
    go_upto_region 24 with (go_at_call 40; refine HD.out.mono ?_; rintro e w12 ⟨oa12, oc12, rfl, hW12⟩)
    have HCK := Lib.hid (wat_clocks hW12 3 HWR.out.op (k : Int) [] (m : Int) HWR.out.may _ m11 p11 L11 HLP.out.1 (HLP.out.2.sub fun r hr => List.mem_cons_of_mem _ hr) clk HWR.out.many)
    clear hW12 HD
    go_upto_region 25 with (go_at_call 41; refine HCK.out.mono ?_; rintro e w13 ⟨rfl, hW13⟩)
    have HCE := Lib.hid (wat_cells hW13 fa (HWR.out.a.trans HCC.out.2.2.2))
    obtain ⟨gx, ox, e1, hgx, hcx⟩ := (hW13.rs List.mem_cons_self).cells (by omega)
    subst e1
    have HCX := Lib.hid hcx
    have HU := Lib.hid hW13.up
    clear hW13 hcx HCK
    go_upto_region 31 with (first | (go_at_call 34; refine HCE.out.mono ?_; rintro e w14 ⟨rfl, rfl⟩) | (go_at_call 16; refine (num_any _ _).mono ?_; rintro e w' ⟨rfl, rfl⟩))
    go_loopw [28] (fun iv wr => ∃ y : Nat, y ≤ m ∧ iv = .int .i64 (y : Int) ∧ Upd none' w13 wr) (fun iv _ => 64 - (intOf iv).toNat)
    case atStart => exact ⟨0, Nat.zero_le _, rfl, Upd.refl _ _⟩
    case round =>
      rename World => W3
      obtain ⟨y, hy, rfl, hU⟩ := hrel
      by_cases hym : y < m
      · obtain ⟨r, t, hr, ht, hwy, hmod, hc⟩ := wreads_at fa hsz k m y hk hym hm1.2
        have hcell := HCX.out y hym
        rw [hc, ← hU.cell (p := ⟨gx, ox + y, none⟩) hgx (fun f => f)] at hcell
        have hbd := (fa[r]'hr).toNat_lt
        have hrI : (r : Int) < 4096 := by omega
        clear hc
        go_upto_region 33 with fail
        go_region
        all_goals go_wp2
        all_goals exact ⟨⟨y + 1, by omega, by go_num, hU.drew⟩, by simp [intOf]; omega⟩
      · obtain rfl : y = m := by omega
        go_wp2
        go_ret
        exact ⟨rfl, HU.out.trans hU (fun _ _ f => f)⟩
  · go_upto_region 21 with fail
    have hW9 := HW8.out.nil
    have HW9 := Lib.hid hW9
    have HF := Lib.hid (rfindL 107 (by decide) _ HQ107.out w8)
    clear hW9 HW8
    go_upto_region 22 with (go_at_call 38; refine HF.out.mono ?_; rintro e w10 ⟨rfl, hU10⟩; have hW10 := HW9.out.fr hU10; have c0 := hW10.blk.cell 0; have f0 := hW10.blk.frozen 0; have c1 := hW10.blk.cell 1; have f1 := hW10.blk.frozen 1; have c2 := hW10.blk.cell 2; have f2 := hW10.blk.frozen 2; have c3 := hW10.blk.cell 3; have f3 := hW10.blk.frozen 3; have c4 := hW10.blk.cell 4; have f4 := hW10.blk.frozen 4; have c5 := hW10.blk.cell 5; have f5 := hW10.blk.frozen 5; simp only [List.getElem?_cons_succ, List.getElem?_cons_zero] at c0 c1 c2 c3 c4 c5; have HW10 := Lib.hid hW10; clear hW10)
    have hWa := ((((((HW10.out.set 0 (.int .i64 107)).set 1 (.int .i64 1)).set 2 (.bool false)).set 3 (.int .i64 8)).set 4 (.int .i64 4)).set 5 (.bool false))
    simp only [List.set_cons_zero, List.set_cons_succ] at hWa
    obtain ⟨Wa, hWae⟩ : ∃ Wa, ((((((w10.setCell ⟨ko, 0, none⟩ (.int .i64 107)).setCell ⟨ko, 1, none⟩ (.int .i64 1)).setCell ⟨ko, 2, none⟩ (.bool false)).setCell ⟨ko, 3, none⟩ (.int .i64 8)).setCell ⟨ko, 4, none⟩ (.int .i64 4)).setCell ⟨ko, 5, none⟩ (.bool false)) = Wa := ⟨_, rfl⟩
    rw [hWae] at hWa ⊢
    clear hWae c0 c1 c2 c3 c4 c5 f0 f1 f2 f3 f4 f5 HW10 HW9 HF hU10
    have c0 := hWa.blk.cell 0
    have c1 := hWa.blk.cell 1
    have c2 := hWa.blk.cell 2
    have c3 := hWa.blk.cell 3
    have c4 := hWa.blk.cell 4
    have c5 := hWa.blk.cell 5
    simp only [List.getElem?_cons_succ, List.getElem?_cons_zero] at c0 c1 c2 c3 c4 c5
    have hwr := wireR_107 C HCC.out.1 HCC.out.2.1 HCC.out.2.2.1 k m hk hm1.1 hm1.2
    obtain ⟨c', clk, hwr⟩ : ∃ c' clk, WireR C 107 k [] m c' clk := ⟨_, _, hwr⟩
    have HWR := Lib.hid hwr
    have HCM := Lib.hid (wat_cmd hWa 107 hwr.op _ HQ107.out (k : Int) _ 0 [] 0 rfl List.mem_cons_self (m : Int) hwr.may)
    clear hWa hwr
    go_upto_region 23 with (go_at_call 39; refine HCM.out.mono ?_; rintro e w11 ⟨g11, m11, p11, L11, rows11, rfl, hL11, hW11, hP11⟩)
    have HLP := Lib.hid (And.intro hL11 hP11)
    have hol : (intsOf (fetched fa (k : Int) m)).length = m := by unfold intsOf; rw [List.length_map, fetched_len]
    have htop := HWR.out.top
    have hdr := wat_drive hW11 107 HWR.out.op (k : Int) [] (m : Int) HWR.out.may _ m11 p11 L11 hL11 hP11 c' (intsOf (fetched fa (k : Int) m)) m hol clk HWR.out.many (by omega) (fun t ht => by
      have := HWR.out.all t ht
      rw [HCC.out.2.2.2] at this
      exact this)
    have HD := Lib.hid hdr
    clear hdr hW11 hL11 hP11 HCM c0 c1 c2 c3 c4 c5 hol
    go_upto_region 24 with (go_at_call 40; refine HD.out.mono ?_; rintro e w12 ⟨oa12, oc12, rfl, hW12⟩)
    have HCK := Lib.hid (wat_clocks hW12 107 HWR.out.op (k : Int) [] (m : Int) HWR.out.may _ m11 p11 L11 HLP.out.1 (HLP.out.2.sub fun r hr => List.mem_cons_of_mem _ hr) clk HWR.out.many)
    clear hW12 HD
    go_upto_region 25 with (go_at_call 41; refine HCK.out.mono ?_; rintro e w13 ⟨rfl, hW13⟩)
    have HCE := Lib.hid (wat_cells hW13 fa (HWR.out.a.trans HCC.out.2.2.2))
    obtain ⟨gx, ox, e1, hgx, hcx⟩ := (hW13.rs List.mem_cons_self).cells (by omega)
    subst e1
    have HCX := Lib.hid hcx
    have HU := Lib.hid hW13.up
    clear hW13 hcx HCK
    go_upto_region 31 with (first | (go_at_call 34; refine HCE.out.mono ?_; rintro e w14 ⟨rfl, rfl⟩) | (go_at_call 16; refine (num_any _ _).mono ?_; rintro e w' ⟨rfl, rfl⟩))
    go_loopw [28] (fun iv wr => ∃ y : Nat, y ≤ m ∧ iv = .int .i64 (y : Int) ∧ Upd none' w13 wr) (fun iv _ => 64 - (intOf iv).toNat)
    case atStart => exact ⟨0, Nat.zero_le _, rfl, Upd.refl _ _⟩
    case round =>
      rename World => W3
      obtain ⟨y, hy, rfl, hU⟩ := hrel
      by_cases hym : y < m
      · obtain ⟨r, t, hr, ht, hwy, hmod, hc⟩ := wreads_at fa hsz k m y hk hym hm1.2
        have hcell := HCX.out y hym
        rw [hc, ← hU.cell (p := ⟨gx, ox + y, none⟩) hgx (fun f => f)] at hcell
        have hbd := (fa[r]'hr).toNat_lt
        have hrI : (r : Int) < 4096 := by omega
        clear hc
        go_upto_region 33 with fail
        go_region
        all_goals go_wp2
        all_goals exact ⟨⟨y + 1, by omega, by go_num, hU.drew⟩, by simp [intOf]; omega⟩
      · obtain rfl : y = m := by omega
        go_wp2
        go_ret
        exact ⟨rfl, HU.out.trans hU (fun _ _ f => f)⟩
  · go_upto_region 21 with fail
    have hW9 : Wat C b ko [.int .i64 1, .int .i64 0, .bool false, .int .i64 0, .int .i64 1, .bool true] 34 w (w8.alloc (.cells #[.int .i64 (x : Int)] 3)) ((.slice (some ⟨w8.heap.size, 0, none⟩) 1 1, ints [(x : Int)]) :: R8) := HW8.out.lit (ints [(x : Int)]) 3 1 rfl (by decide)
    obtain ⟨g9, hg9⟩ : ∃ g9, w8.heap.size = g9 := ⟨_, rfl⟩
    obtain ⟨W9, hW9e⟩ : ∃ W9, w8.alloc (.cells #[.int .i64 (x : Int)] 3) = W9 := ⟨_, rfl⟩
    rw [hg9, hW9e] at hW9
    rw [hg9, hW9e]
    clear hg9 hW9e
    have HW9 := Lib.hid hW9
    have HF := Lib.hid (rfindL 235 (by decide) _ HQ235.out W9)
    clear hW9 HW8
    go_upto_region 22 with (go_at_call 38; refine HF.out.mono ?_; rintro e w10 ⟨rfl, hU10⟩; have hW10 := HW9.out.fr hU10; have c0 := hW10.blk.cell 0; have f0 := hW10.blk.frozen 0; have c1 := hW10.blk.cell 1; have f1 := hW10.blk.frozen 1; have c2 := hW10.blk.cell 2; have f2 := hW10.blk.frozen 2; have c3 := hW10.blk.cell 3; have f3 := hW10.blk.frozen 3; have c4 := hW10.blk.cell 4; have f4 := hW10.blk.frozen 4; have c5 := hW10.blk.cell 5; have f5 := hW10.blk.frozen 5; simp only [List.getElem?_cons_succ, List.getElem?_cons_zero] at c0 c1 c2 c3 c4 c5; have HW10 := Lib.hid hW10; clear hW10)
    have hWa := ((((((HW10.out.set 0 (.int .i64 235)).set 1 (.int .i64 4)).set 2 (.bool true)).set 3 (.int .i64 4)).set 4 (.int .i64 4)).set 5 (.bool false))
    simp only [List.set_cons_zero, List.set_cons_succ] at hWa
    obtain ⟨Wa, hWae⟩ : ∃ Wa, ((((((w10.setCell ⟨ko, 0, none⟩ (.int .i64 235)).setCell ⟨ko, 1, none⟩ (.int .i64 4)).setCell ⟨ko, 2, none⟩ (.bool true)).setCell ⟨ko, 3, none⟩ (.int .i64 4)).setCell ⟨ko, 4, none⟩ (.int .i64 4)).setCell ⟨ko, 5, none⟩ (.bool false)) = Wa := ⟨_, rfl⟩
    rw [hWae] at hWa ⊢
    clear hWae c0 c1 c2 c3 c4 c5 f0 f1 f2 f3 f4 f5 HW10 HW9 HF hU10
    have c0 := hWa.blk.cell 0
    have c1 := hWa.blk.cell 1
    have c2 := hWa.blk.cell 2
    have c3 := hWa.blk.cell 3
    have c4 := hWa.blk.cell 4
    have c5 := hWa.blk.cell 5
    simp only [List.getElem?_cons_succ, List.getElem?_cons_zero] at c0 c1 c2 c3 c4 c5
    have hwr := wireR_235 C HCC.out.1 HCC.out.2.1 HCC.out.2.2.1 k m hk hm1.1 hm1.2 x hx2
    obtain ⟨c', clk, hwr⟩ : ∃ c' clk, WireR C 235 k [(x : Int)] m c' clk := ⟨_, _, hwr⟩
    have HWR := Lib.hid hwr
    have HCM := Lib.hid (wat_cmd hWa 235 hwr.op _ HQ235.out (k : Int) _ 1 [(x : Int)] 1 rfl List.mem_cons_self (m : Int) hwr.may)
    clear hWa hwr
    go_upto_region 23 with (go_at_call 39; refine HCM.out.mono ?_; rintro e w11 ⟨g11, m11, p11, L11, rows11, rfl, hL11, hW11, hP11⟩)
    have HLP := Lib.hid (And.intro hL11 hP11)
    have hol : (intsOf (fetched fa (k : Int) m)).length = m := by unfold intsOf; rw [List.length_map, fetched_len]
    have htop := HWR.out.top
    have hdr := wat_drive hW11 235 HWR.out.op (k : Int) [(x : Int)] (m : Int) HWR.out.may _ m11 p11 L11 hL11 hP11 c' (intsOf (fetched fa (k : Int) m)) m hol clk HWR.out.many (by omega) (fun t ht => by
      have := HWR.out.all t ht
      rw [HCC.out.2.2.2] at this
      exact this)
    have HD := Lib.hid hdr
    clear hdr hW11 hL11 hP11 HCM c0 c1 c2 c3 c4 c5 hol
    go_upto_region 24 with (go_at_call 40; refine HD.out.mono ?_; rintro e w12 ⟨oa12, oc12, rfl, hW12⟩)
    have HCK := Lib.hid (wat_clocks hW12 235 HWR.out.op (k : Int) [(x : Int)] (m : Int) HWR.out.may _ m11 p11 L11 HLP.out.1 (HLP.out.2.sub fun r hr => List.mem_cons_of_mem _ hr) clk HWR.out.many)
    clear hW12 HD
    go_upto_region 25 with (go_at_call 41; refine HCK.out.mono ?_; rintro e w13 ⟨rfl, hW13⟩)
    have HCE := Lib.hid (wat_cells hW13 fa (HWR.out.a.trans HCC.out.2.2.2))
    obtain ⟨gx, ox, e1, hgx, hcx⟩ := (hW13.rs List.mem_cons_self).cells (by omega)
    subst e1
    have HCX := Lib.hid hcx
    have HU := Lib.hid hW13.up
    clear hW13 hcx HCK
    go_upto_region 31 with (first | (go_at_call 34; refine HCE.out.mono ?_; rintro e w14 ⟨rfl, rfl⟩) | (go_at_call 16; refine (num_any _ _).mono ?_; rintro e w' ⟨rfl, rfl⟩))
    go_loopw [28] (fun iv wr => ∃ y : Nat, y ≤ m ∧ iv = .int .i64 (y : Int) ∧ Upd none' w13 wr) (fun iv _ => 64 - (intOf iv).toNat)
    case atStart => exact ⟨0, Nat.zero_le _, rfl, Upd.refl _ _⟩
    case round =>
      rename World => W3
      obtain ⟨y, hy, rfl, hU⟩ := hrel
      by_cases hym : y < m
      · obtain ⟨r, t, hr, ht, hwy, hmod, hc⟩ := wreads_at fa hsz k m y hk hym hm1.2
        have hcell := HCX.out y hym
        rw [hc, ← hU.cell (p := ⟨gx, ox + y, none⟩) hgx (fun f => f)] at hcell
        have hbd := (fa[r]'hr).toNat_lt
        have hrI : (r : Int) < 4096 := by omega
        clear hc
        go_upto_region 33 with fail
        go_region
        all_goals go_wp2
        all_goals exact ⟨⟨y + 1, by omega, by go_num, hU.drew⟩, by simp [intOf]; omega⟩
      · obtain rfl : y = m := by omega
        go_wp2
        go_ret
        exact ⟨rfl, HU.out.trans hU (fun _ _ f => f)⟩
  · go_upto_region 21 with fail
    have hW9 : Wat C b ko [.int .i64 1, .int .i64 0, .bool false, .int .i64 0, .int .i64 1, .bool true] 34 w (w8.alloc (.cells #[.int .i64 (x : Int)] 3)) ((.slice (some ⟨w8.heap.size, 0, none⟩) 1 1, ints [(x : Int)]) :: R8) := HW8.out.lit (ints [(x : Int)]) 3 1 rfl (by decide)
    obtain ⟨g9, hg9⟩ : ∃ g9, w8.heap.size = g9 := ⟨_, rfl⟩
    obtain ⟨W9, hW9e⟩ : ∃ W9, w8.alloc (.cells #[.int .i64 (x : Int)] 3) = W9 := ⟨_, rfl⟩
    rw [hg9, hW9e] at hW9
    rw [hg9, hW9e]
    clear hg9 hW9e
    have HW9 := Lib.hid hW9
    have HF := Lib.hid (rfindL 235 (by decide) _ HQ235.out W9)
    clear hW9 HW8
    go_upto_region 22 with (go_at_call 38; refine HF.out.mono ?_; rintro e w10 ⟨rfl, hU10⟩; have hW10 := HW9.out.fr hU10; have c0 := hW10.blk.cell 0; have f0 := hW10.blk.frozen 0; have c1 := hW10.blk.cell 1; have f1 := hW10.blk.frozen 1; have c2 := hW10.blk.cell 2; have f2 := hW10.blk.frozen 2; have c3 := hW10.blk.cell 3; have f3 := hW10.blk.frozen 3; have c4 := hW10.blk.cell 4; have f4 := hW10.blk.frozen 4; have c5 := hW10.blk.cell 5; have f5 := hW10.blk.frozen 5; simp only [List.getElem?_cons_succ, List.getElem?_cons_zero] at c0 c1 c2 c3 c4 c5; have HW10 := Lib.hid hW10; clear hW10)
    have hWa := ((((((HW10.out.set 0 (.int .i64 235)).set 1 (.int .i64 4)).set 2 (.bool true)).set 3 (.int .i64 4)).set 4 (.int .i64 4)).set 5 (.bool false))
    simp only [List.set_cons_zero, List.set_cons_succ] at hWa
    obtain ⟨Wa, hWae⟩ : ∃ Wa, ((((((w10.setCell ⟨ko, 0, none⟩ (.int .i64 235)).setCell ⟨ko, 1, none⟩ (.int .i64 4)).setCell ⟨ko, 2, none⟩ (.bool true)).setCell ⟨ko, 3, none⟩ (.int .i64 4)).setCell ⟨ko, 4, none⟩ (.int .i64 4)).setCell ⟨ko, 5, none⟩ (.bool false)) = Wa := ⟨_, rfl⟩
    rw [hWae] at hWa ⊢
    clear hWae c0 c1 c2 c3 c4 c5 f0 f1 f2 f3 f4 f5 HW10 HW9 HF hU10
    have c0 := hWa.blk.cell 0
    have c1 := hWa.blk.cell 1
    have c2 := hWa.blk.cell 2
    have c3 := hWa.blk.cell 3
    have c4 := hWa.blk.cell 4
    have c5 := hWa.blk.cell 5
    simp only [List.getElem?_cons_succ, List.getElem?_cons_zero] at c0 c1 c2 c3 c4 c5
    have hwr := wireR_235 C HCC.out.1 HCC.out.2.1 HCC.out.2.2.1 k m hk hm1.1 hm1.2 x hx2
    obtain ⟨c', clk, hwr⟩ : ∃ c' clk, WireR C 235 k [(x : Int)] m c' clk := ⟨_, _, hwr⟩
    have HWR := Lib.hid hwr
    have HCM := Lib.hid (wat_cmd hWa 235 hwr.op _ HQ235.out (k : Int) _ 1 [(x : Int)] 1 rfl List.mem_cons_self (m : Int) hwr.may)
    clear hWa hwr
    go_upto_region 23 with (go_at_call 39; refine HCM.out.mono ?_; rintro e w11 ⟨g11, m11, p11, L11, rows11, rfl, hL11, hW11, hP11⟩)
    have HLP := Lib.hid (And.intro hL11 hP11)
    have hol : (intsOf (fetched fa (k : Int) m)).length = m := by unfold intsOf; rw [List.length_map, fetched_len]
    have htop := HWR.out.top
    have hdr := wat_drive hW11 235 HWR.out.op (k : Int) [(x : Int)] (m : Int) HWR.out.may _ m11 p11 L11 hL11 hP11 c' (intsOf (fetched fa (k : Int) m)) m hol clk HWR.out.many (by omega) (fun t ht => by
      have := HWR.out.all t ht
      rw [HCC.out.2.2.2] at this
      exact this)
    have HD := Lib.hid hdr
    clear hdr hW11 hL11 hP11 HCM c0 c1 c2 c3 c4 c5 hol
    go_upto_region 24 with (go_at_call 40; refine HD.out.mono ?_; rintro e w12 ⟨oa12, oc12, rfl, hW12⟩)
    have HCK := Lib.hid (wat_clocks hW12 235 HWR.out.op (k : Int) [(x : Int)] (m : Int) HWR.out.may _ m11 p11 L11 HLP.out.1 (HLP.out.2.sub fun r hr => List.mem_cons_of_mem _ hr) clk HWR.out.many)
    clear hW12 HD
    go_upto_region 25 with (go_at_call 41; refine HCK.out.mono ?_; rintro e w13 ⟨rfl, hW13⟩)
    have HCE := Lib.hid (wat_cells hW13 fa (HWR.out.a.trans HCC.out.2.2.2))
    obtain ⟨gx, ox, e1, hgx, hcx⟩ := (hW13.rs List.mem_cons_self).cells (by omega)
    subst e1
    have HCX := Lib.hid hcx
    have HU := Lib.hid hW13.up
    clear hW13 hcx HCK
    go_upto_region 31 with (first | (go_at_call 34; refine HCE.out.mono ?_; rintro e w14 ⟨rfl, rfl⟩) | (go_at_call 16; refine (num_any _ _).mono ?_; rintro e w' ⟨rfl, rfl⟩))
    go_loopw [28] (fun iv wr => ∃ y : Nat, y ≤ m ∧ iv = .int .i64 (y : Int) ∧ Upd none' w13 wr) (fun iv _ => 64 - (intOf iv).toNat)
    case atStart => exact ⟨0, Nat.zero_le _, rfl, Upd.refl _ _⟩
    case round =>
      rename World => W3
      obtain ⟨y, hy, rfl, hU⟩ := hrel
      by_cases hym : y < m
      · obtain ⟨r, t, hr, ht, hwy, hmod, hc⟩ := wreads_at fa hsz k m y hk hym hm1.2
        have hcell := HCX.out y hym
        rw [hc, ← hU.cell (p := ⟨gx, ox + y, none⟩) hgx (fun f => f)] at hcell
        have hbd := (fa[r]'hr).toNat_lt
        have hrI : (r : Int) < 4096 := by omega
        clear hc
        go_upto_region 33 with fail
        go_region
        all_goals go_wp2
        all_goals exact ⟨⟨y + 1, by omega, by go_num, hU.drew⟩, by simp [intOf]; omega⟩
      · obtain rfl : y = m := by omega
        go_wp2
        go_ret
        exact ⟨rfl, HU.out.trans hU (fun _ _ f => f)⟩
end Go.Proofs.YtepnljeojlbliaaGreat
