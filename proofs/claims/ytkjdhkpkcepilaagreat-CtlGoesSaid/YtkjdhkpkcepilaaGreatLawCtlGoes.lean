/- lichenlaw11.CtlGoes. -/
import Derived.Test.YtkjdhkpkcepilaaGreatAwake11
namespace Go.Proofs.YtkjdhkpkcepilaaGreat
open Go.RowKit
theorem one_many (o : Int) (m : Nat) (ho : o = 5 ∨ o = 53) : phsMany (cmdPhs (opOf o) 0 [] (m : Int)) = 8 + 8 * (m : Int) ∧ cmdPhs (opOf o) 0 [] (m : Int) = [⟨1, [o], 0, 0⟩] ++ (if 0 < (m : Int) then [⟨1, [], 0, (m : Int)⟩] else []) := by
  have e : cmdPhs (opOf o) 0 [] m = [⟨1, [o], 0, 0⟩] ++ if 0 < (m : Int) then [⟨1, [], 0, (m : Int)⟩] else [] := by
    rcases ho with rfl | rfl
    · have e1 : opOf 5 = ⟨5, 0, false, 0, 1, false⟩ := by kernel_rfl
      rw [e1]; rfl
    · have e1 : opOf 53 = ⟨53, 0, false, 0, 1, false⟩ := by kernel_rfl
      rw [e1]; rfl
  refine ⟨?_, e⟩
  rw [e]
  by_cases h0 : 0 < (m : Int)
  · rw [if_pos h0]
    show 0 + ((0 : Int) + ((1 : Int) + 0) * 8) + ((0 : Int) + ((0 : Int) + m) * 8) = _
    omega
  · rw [if_neg h0, show m = 0 by omega]
    rfl
theorem one_may (o : Int) (m : Nat) (hm : m ≤ 512) (ho : o = 5 ∨ o = 53) : cmdMay (opOf o) 0 [] (m : Int) = true := by
  rcases ho with rfl | rfl
  · have e1 : opOf 5 = ⟨5, 0, false, 0, 1, false⟩ := by kernel_rfl
    rw [e1]
    unfold cmdMay fitsB
    simp
    omega
  · have e1 : opOf 53 = ⟨53, 0, false, 0, 1, false⟩ := by kernel_rfl
    rw [e1]
    unfold cmdMay fitsB
    simp
    omega
theorem sfdp_may2 (k : Int) (hk : 0 ≤ k ∧ k < 4096) (m : Nat) (hm : m ≤ 512) : cmdMay (opOf 90) k [] (m : Int) = true := by
  have e1 : opOf 90 = ⟨90, 1, false, 8, 1, false⟩ := by kernel_rfl
  rw [e1]
  unfold cmdMay fitsB
  simp
  omega
theorem sfdp_many (k : Int) (m : Nat) : phsMany (cmdPhs (opOf 90) k [] (m : Int)) = 40 + 8 * (m : Int) := by
  have e1 : opOf 90 = ⟨90, 1, false, 8, 1, false⟩ := by kernel_rfl
  have e : cmdPhs (opOf 90) k [] m = [⟨1, [90], 0, 0⟩, ⟨1, [k / 65536, k / 256 % 256, k % 256], 0, 0⟩, ⟨0, [], 8, 0⟩] ++ if 0 < (m : Int) then [⟨1, [], 0, (m : Int)⟩] else [] := by
    rw [e1]
    unfold cmdPhs
    dsimp only
    rw [if_pos (by decide), if_neg (by decide), if_pos (by decide), if_neg (by simp)]
    rfl
  rw [e]
  by_cases h0 : 0 < (m : Int)
  · rw [if_pos h0]
    show 0 + ((0 : Int) + ((1 : Int) + 0) * 8) + ((0 : Int) + ((3 : Int) + 0) * 8) + (8 + 0) + ((0 : Int) + ((0 : Int) + m) * 8) = _
    omega
  · rw [if_neg h0, show m = 0 by omega]
    rfl
/-- A command that reads m bytes: what it tells, how many clocks it takes. -/
structure AnyR (c : Cor) (o tt : Int) (m : Nat) (out : List Int) (clk : Int) : Prop where
  len : out.length = m
  low : 0 ≤ clk
  top : clk ≤ 200
  many : phsMany (cmdPhs (opOf o) tt [] (m : Int)) = clk
  may : cmdMay (opOf o) tt [] (m : Int) = true
  op : opIs o = true
  ne : o ≠ 235
  all : ∀ t, At c t → ∃ d : Drv, Drv.phases ⟨t.select, [], 0, -1⟩ (cmdPhs (opOf o) tt [] (m : Int)) = (d, true) ∧ d.clocks = clk ∧ d.out = out ∧ At c d.s.deselect
/-- Whichever command that reads. -/
theorem any_read (c : Cor) (hg : c.goes = false) (hj : c.job = none) (o tt : Int) (m : Nat) (hm : m ≤ 15) (hb : (o = 159 ∨ o = 5 ∨ o = 53) ∧ tt = 0 ∨ (o = 3 ∨ o = 90) ∧ 0 ≤ tt ∧ tt < 4096) :
    ∃ (out : List Int) (clk : Int), AnyR c o tt m out clk := by
  have hst : ∀ (o : Int) (ho : o = 5 ∨ o = 53) (x : Int) (hx : ∀ (t : St), At c t → ∀ i, (t.hd o 0).byteAt i = x), ∀ t, At c t → ∃ d : Drv, Drv.phases ⟨t.select, [], 0, -1⟩ (cmdPhs (opOf o) 0 [] (m : Int)) = (d, true) ∧ d.clocks = 8 + 8 * (m : Int) ∧ d.out = List.replicate m x ∧ At c d.s.deselect := by
    intro o ho x hx t ht
    rw [(one_many o m ho).2]
    obtain ⟨d, h1, h2, h3, h4⟩ := rd_all (c := c) t (t.hd o 0) [⟨1, [o], 0, 0⟩] _ (by simp) (hdB t (ht.goes.trans hg) (ht.job.trans hj) o (by omega)) (ht.job.trans hj) rfl rfl (by rcases ho with rfl | rfl <;> rfl) rfl (hd_end ht o 0 (by omega)) (fun i => byteAt_bd _ _) m
    refine ⟨d, h1, h2, ?_, h4⟩
    rw [h3]
    have : (fun (i : Nat) => (t.hd o 0).byteAt ((t.hd o 0).told + (i : Int))) = fun _ => x := funext fun i => hx t ht _
    rw [this, List.map_const', List.length_range]
  rcases hb with ⟨rfl | rfl | rfl, rfl⟩ | ⟨rfl | rfl, h1, h2⟩
  · exact ⟨idL m, 8 + 8 * (m : Int), idL_len m, by omega, by omega, id_many m, id_may m (by omega), by decide, by decide, fun t ht => id_all ht hg hj m⟩
  · refine ⟨List.replicate m (first false c.en c.prot), 8 + 8 * (m : Int), List.length_replicate, by omega, by omega, (one_many 5 m (.inl rfl)).1, one_may 5 m (by omega) (.inl rfl), by decide, by decide, hst 5 (.inl rfl) _ fun t ht i => ?_⟩
    have hw : (t.hd 5 0).works = false := by
      unfold St.works
      rw [show (t.hd 5 0).job = none from ht.job.trans hj]
    show (t.hd 5 0).first = _
    unfold St.first
    rw [hw, show (t.hd 5 0).en = c.en from ht.en, show (t.hd 5 0).prot = c.prot from ht.prot]
  · refine ⟨List.replicate m (second c.quad false), 8 + 8 * (m : Int), List.length_replicate, by omega, by omega, (one_many 53 m (.inr rfl)).1, one_may 53 m (by omega) (.inr rfl), by decide, by decide, hst 53 (.inr rfl) _ fun t ht i => ?_⟩
    have hw : (t.hd 53 0).susp = false := by
      unfold St.susp
      rw [show (t.hd 53 0).job = none from ht.job.trans hj]
    show (t.hd 53 0).second = _
    unfold St.second
    rw [hw, show (t.hd 53 0).quad = c.quad from ht.quad]
  · refine ⟨(List.range m).map (fun (i : Nat) => byteOf c.a ((tt + (i : Int)) % 4096).toNat), 32 + 8 * (m : Int), by rw [List.length_map, List.length_range], by omega, by omega, rd3_many tt m, rd3_may tt ⟨h1, h2⟩ m (by omega), by decide, by decide, fun t ht => rd3_all ht hg hj tt ⟨h1, h2⟩ m⟩
  · exact ⟨sfdpB tt m, 40 + 8 * (m : Int), by unfold sfdpB; rw [List.length_map, List.length_range], by omega, by omega, sfdp_many tt m, sfdp_may2 tt ⟨h1, h2⟩ m (by omega), by decide, by decide, fun t ht => sfdp_all ht hg hj tt ⟨h1, h2⟩ m⟩
theorem reg_any {c : Cor} {b k : Nat} {r0 r1 r2 n q : Int} {xs ys : List Int} {w0 w : World} {rows : List (Value × List Value)} (h : Reg c b k r0 r1 r2 (-1) xs ys n q w0 w rows) {o tt clk : Int} {m : Nat} {out : List Int} (hA : AnyR c o tt m out clk) (hn : n + 201 ≤ 1048575) :
    Calls Tryz.prog 36 #[.pointer (some ⟨k, 0, none⟩), .int .i64 o, .int .i64 tt, .slice none 0 0, .int .i64 (m : Int)] w fun e w' => ∃ oa oc, e = .returned (.tuple #[.slice oa m oc, .int .i64 0]) ∧ Reg c b k r0 r1 r2 (-1) xs ys (n + 201) (q + clk) w0 w' ((.slice oa m oc, ints out) :: rows) := by
  have hlo := hA.low
  have hto := hA.top
  have hr := reg_run h.nil o hA.op hA.ne tt none 0 [] List.mem_cons_self (m : Int) hA.may c out clk hA.many (by omega) (-1) (.inl ⟨rfl, rfl⟩) hA.all
  rw [hA.len] at hr
  refine hr.mono ?_
  rintro e w' ⟨oa, oc, rfl, h2⟩
  refine ⟨oa, oc, rfl, (h2.most (by omega) hn).rowsub fun r hr => ?_⟩
  rcases List.mem_cons.1 hr with h | h
  · exact List.mem_cons.2 (.inl h)
  · exact List.mem_cons.2 (.inr (List.mem_cons_of_mem _ h))
theorem Reg.lit {c : Cor} {b k : Nat} {r0 r1 r2 L n q : Int} {xs ys : List Int} {w0 w : World} {rows : List (Value × List Value)} (h : Reg c b k r0 r1 r2 L xs ys n q w0 w rows) (vs : List Value) (t : TypeId) (m : Nat) (hm : vs.length = m) (hb : m ≤ 1048576) : Reg c b k r0 r1 r2 L xs ys n q w0 (w.alloc (.cells vs.toArray t)) ((.slice (some ⟨w.heap.size, 0, none⟩) m m, vs) :: rows) := by
  obtain ⟨s, N, fo, fi, h1, h2, h3⟩ := h
  exact ⟨s, N, fo, fi, h1, h2.lit vs t m hm hb, h3⟩
set_option maxRecDepth 100000 in
set_option maxHeartbeats 8000000 in
theorem lawCtlGoes (w : World) (s : ByteArray) (hs : s.size ≤ 9223372036854775807) (at_ : Int) (_ : (Lit.int .i64 at_).wf = true) (many : Int) (_ : (Lit.int .i64 many).wf = true) (which : Int) (_ : (Lit.int .i64 which).wf = true) :
    Calls Tryz.prog 12 #[.string s, .int .i64 at_, .int .i64 many, .int .i64 which] w fun e w' => e = .returned (.bool true) ∧ Upd none' w w' := by
  obtain ⟨j, hj, hj5⟩ := uN which 5 (by decide) (by decide)
  rw [show ((5 : Nat) : Int) = 5 from rfl] at hj
  obtain ⟨a, hamod, ha⟩ := uN at_ 4096 (by decide) (by decide)
  rw [show ((4096 : Nat) : Int) = 4096 from rfl] at hamod
  have hand := i64_and15 many
  obtain ⟨m, hm⟩ : ∃ m : Nat, many % 16 = (m : Int) := ⟨(many % 16).toNat, by omega⟩
  have hm15 : m ≤ 15 := by omega
  rw [hm] at hand
  clear hm
  obtain ⟨fa, hfa⟩ : ∃ fa : ByteArray, (⟨(freshL s).toArray⟩ : ByteArray) = fa := ⟨_, rfl⟩
  have HFA := Lib.hid hfa
  clear hfa
  go_enter Tryz.func12, Tryz.ntmps12
  go_upto_region 4 with (first | (go_at_call 41; refine (awake11 _).mono ?_; rintro e w0 ⟨rfl, hU1⟩) | (go_at_call 42; refine (c_twins11 hU1 _ hs fa HFA.out).mono ?_; rintro e w1 ⟨b, r, rfl, hC1⟩))
  have HN := Lib.hid (reg_new (at_new fa) hC1 (Int.le_refl 0) (by decide))
  clear hC1
  go_upto_region 7 with (first | (go_at_call 28; refine HN.out.mono ?_; rintro e w2 ⟨k, rfl, hR2⟩) | (go_at_call 25; refine (num_any _ _).mono ?_; rintro e w' ⟨rfl, rfl⟩))
  have hR3 := hR2.lit (ints [159, 3, 5, 90, 53]) 3 5 rfl (by decide)
  have HR3 := Lib.hid hR3
  clear hR2 hR3 HN
  obtain ⟨g1, o1, e1, -, hc1⟩ := (HR3.out.rs List.mem_cons_self).cells (by decide)
  simp only [Option.some.injEq, Addr.mk.injEq, and_true] at e1
  obtain ⟨rfl, rfl⟩ := e1
  have k1 := hc1 j hj5
  rw [ints_at _ _ (by exact hj5), Nat.zero_add] at k1
  have k2 : (w2.alloc (.cells #[.int .i64 159, .int .i64 3, .int .i64 5, .int .i64 90, .int .i64 53] 3)).cell? ⟨w2.heap.size, j, none⟩ = some (.int .i64 (([159, 3, 5, 90, 53] : List Int).getD j 0)) := k1
  obtain ⟨o, tt, out, clk, hA, hcase, ho⟩ : ∃ (o tt : Int) (out : List Int) (clk : Int), AnyR (Cor.new fa) o tt m out clk ∧ (o = 159 ∧ tt = 0 ∨ o = 3 ∧ tt = (a : Int) ∨ o = 5 ∧ tt = 0 ∨ o = 90 ∧ tt = (a : Int) ∨ o = 53 ∧ tt = 0) ∧ ([159, 3, 5, 90, 53] : List Int).getD j 0 = o := by
    rcases (show j = 0 ∨ j = 1 ∨ j = 2 ∨ j = 3 ∨ j = 4 by omega) with rfl | rfl | rfl | rfl | rfl
    · obtain ⟨out, clk, hA⟩ := any_read (Cor.new fa) rfl rfl 159 0 m hm15 (.inl ⟨.inl rfl, rfl⟩)
      exact ⟨159, 0, out, clk, hA, .inl ⟨rfl, rfl⟩, rfl⟩
    · obtain ⟨out, clk, hA⟩ := any_read (Cor.new fa) rfl rfl 3 (a : Int) m hm15 (.inr ⟨.inl rfl, by omega, by omega⟩)
      exact ⟨3, a, out, clk, hA, .inr (.inl ⟨rfl, rfl⟩), rfl⟩
    · obtain ⟨out, clk, hA⟩ := any_read (Cor.new fa) rfl rfl 5 0 m hm15 (.inl ⟨.inr (.inl rfl), rfl⟩)
      exact ⟨5, 0, out, clk, hA, .inr (.inr (.inl ⟨rfl, rfl⟩)), rfl⟩
    · obtain ⟨out, clk, hA⟩ := any_read (Cor.new fa) rfl rfl 90 (a : Int) m hm15 (.inr ⟨.inr rfl, by omega, by omega⟩)
      exact ⟨90, a, out, clk, hA, .inr (.inr (.inr (.inl ⟨rfl, rfl⟩))), rfl⟩
    · obtain ⟨out, clk, hA⟩ := any_read (Cor.new fa) rfl rfl 53 0 m hm15 (.inl ⟨.inr (.inr rfl), rfl⟩)
      exact ⟨53, 0, out, clk, hA, .inr (.inr (.inr (.inr ⟨rfl, rfl⟩))), rfl⟩
  rw [ho] at k2
  have HA := Lib.hid hA
  have hjI : (j : Int) < 5 := by omega
  have HRUN := Lib.hid (reg_any HR3.out hA (by decide))
  have hclk := And.intro hA.low hA.top
  have HPAR : Hid (regB 0 o = true ∧ regB 1 tt = true) := Lib.hid (by rcases hcase with ⟨rfl, rfl⟩ | ⟨rfl, rfl⟩ | ⟨rfl, rfl⟩ | ⟨rfl, rfl⟩ | ⟨rfl, rfl⟩ <;> exact ⟨decide_eq_true (by omega), decide_eq_true (by omega)⟩)
  clear ho hA hc1 k1 HR3 hU1
  rcases hcase with ⟨rfl, rfl⟩ | ⟨rfl, rfl⟩ | ⟨rfl, rfl⟩ | ⟨rfl, rfl⟩ | ⟨rfl, rfl⟩
  all_goals
    go_upto_region 14 with (go_at_call 36; refine HRUN.out.mono ?_; rintro e w3 ⟨oa, oc, rfl, hR4⟩)
    rw [show (0 : Int) + clk = clk from Int.zero_add _] at hR4
    have HCK := Lib.hid (reg_clocks hR4)
    have HW0 := Lib.hid (reg_w hR4 0 _ (by decide) HPAR.out.1)
    clear hR4 HRUN k2
    go_upto_region 16 with (first | (go_at_call 31; refine HCK.out.mono ?_; rintro e w4 ⟨rfl, rfl⟩) | (go_at_call 43; refine HW0.out.mono ?_; rintro e w4 ⟨rfl, hR5⟩))
    have HW1 := Lib.hid (reg_w hR5 1 _ (by decide) HPAR.out.2)
    clear hR5 HW0 HCK
    go_upto_region 17 with (go_at_call 43; refine HW1.out.mono ?_; rintro e w5 ⟨rfl, hR6⟩)
    have HW2 := Lib.hid (reg_w hR6 2 (m : Int) (by decide) (decide_eq_true (by omega)))
    clear hR6 HW1
    go_upto_region 18 with (go_at_call 43; refine HW2.out.mono ?_; rintro e w6 ⟨rfl, hR7⟩)
    simp only [reduceIte, Int.reduceEq] at hR7
    have hml : (m : Int) + (([] : List Int).length : Int) ≤ 16 := by show (m : Int) + 0 ≤ 16; omega
    have hgo := go_ok hR7 (by decide) hml (out := out) (by rw [HA.out.len]; show m + 0 ≤ 16; omega) m HA.out.len 0 (by decide) (fun w1 u => reg_any (hR7.fr u) HA.out (by decide))
    rw [List.nil_append] at hgo
    have HGO := Lib.hid hgo
    clear hR7 HW2 hgo hml
    go_upto_region 19 with (go_at_call 45; refine HGO.out.mono ?_; rintro e w7 ⟨rfl, hR8⟩)
    have hrs := reg_rs hR8
    rw [HA.out.len] at hrs
    have HS := Lib.hid hrs
    clear hR8 hrs HGO
    go_upto_region 20 with (go_at_call 44; refine HS.out.mono ?_; rintro e w8 ⟨rfl, hR9⟩)
    rw [show clk + clk = 2 * clk by omega] at hR9
    have hw2c : IntKind.i64.wrap (2 * clk) = 2 * clk := IntWalk.i64_in _ (by omega)
    have HCK := Lib.hid (reg_clocks hR9)
    have HR9 := Lib.hid hR9
    clear hR9 HS
    go_upto_region 23 with (first | (go_at_call 25; refine (num_any _ _).mono ?_; rintro e w' ⟨rfl, rfl⟩) | (go_at_call 31; refine HCK.out.mono ?_; rintro e w9 ⟨rfl, rfl⟩))
    clear HCK hw2c hj hand hamod
    obtain ⟨R0, R1, hAA, hRR⟩ : ∃ R0 R1, AnyR (Cor.new fa) R0 R1 m out clk ∧ Reg (Cor.new fa) b k R0 R1 (m : Int) (-1) [] out 402 (2 * clk) w w8 [(.slice oa m oc, ints out)] := ⟨_, _, HA.out, HR9.out.rowsub fun r hr => by
      simp only [List.mem_cons, List.not_mem_nil, or_false] at hr
      subst hr
      exact List.mem_cons_self⟩
    have HAA := Lib.hid hAA
    have HRR := Lib.hid hRR
    clear hAA hRR HR9 HA HPAR
    go_loopw [23] (fun iv wr => ∃ i : Nat, i ≤ m ∧ iv = .int .i64 (i : Int) ∧ Hid (Reg (Cor.new fa) b k R0 R1 (m : Int) (-1) [] (out.drop i) 402 (2 * clk) w wr [(.slice oa m oc, ints out)])) (fun iv _ => m - (intOf iv).toNat)
    case atStart => exact ⟨0, Nat.zero_le _, rfl, Lib.hid (by rw [List.drop_zero]; exact HRR.out)⟩
    case round =>
      clear HRR
      rename World => W2
      obtain ⟨i, hi, rfl, hR⟩ := hrel
      by_cases hlt : i < m
      · have hil : i < out.length := by rw [HAA.out.len]; exact hlt
        have hdr : out.drop i = out.getD i 0 :: out.drop (i + 1) := by
          rw [List.drop_eq_getElem_cons hil, List.getD_eq_getElem?_getD, List.getElem?_eq_getElem hil]
          rfl
        have hR2 := hR.out
        rw [hdr] at hR2
        obtain ⟨y, hy⟩ : ∃ y, out.getD i 0 = y := ⟨_, rfl⟩
        rw [hy] at hR2
        have HRD := Lib.hid (reg_rd hR2)
        clear hR hR2 hdr
        go_upto_region 26 with (go_at_call 44; refine HRD.out.mono ?_; rintro e w9 ⟨rfl, hR9⟩)
        obtain ⟨gx, ox, e1, hgx, hcc⟩ := (hR9.rs List.mem_cons_self).cells (by omega)
        subst e1
        have hcell := hcc i hlt
        rw [ints_at _ _ hil, hy] at hcell
        have HR9 := Lib.hid hR9
        clear hR9 HRD hcc hgx hy hil
        go_wp2_with (go_at_call 25; refine (num_any _ _).mono ?_; rintro e w' ⟨rfl, rfl⟩)
        refine ⟨?rel, ?measure⟩
        case rel => exact ⟨i + 1, by omega, by go_num, Lib.hid HR9.out⟩
        case measure => simp [intOf]; omega
      · obtain rfl : i = m := by omega
        have hR2 := hR.out
        rw [List.drop_of_length_le (by rw [HAA.out.len]; exact Nat.le_refl _)] at hR2
        have HR2 := Lib.hid hR2
        clear hR hR2
        by_cases hm0 : i = 0
        · subst hm0
          have HU := Lib.hid HR2.out.up
          go_wp2
          go_ret
          exact ⟨rfl, HU.out⟩
        · have hmp : 0 < i := by omega
          go_upto_region 30 with fail
          go_loopw [26] (fun iv wr => ∃ (p : Nat) (ys : List Int) (q : Int), p ≤ 16 ∧ iv = .int .i64 (p : Int) ∧ Hid (ys.length = p ∧ Reg (Cor.new fa) b k R0 R1 (i : Int) (-1) [] ys (1000 + 201 * (p : Int)) q w wr [(.slice oa i oc, ints out)])) (fun iv _ => 16 - (intOf iv).toNat)
          case atStart => exact ⟨0, [], 2 * clk, Nat.zero_le _, rfl, Lib.hid ⟨rfl, HR2.out.most (by decide) (by decide)⟩⟩
          case round =>
            clear HR2
            rename World => W3
            obtain ⟨p, ys, q, hp, rfl, hR⟩ := hrel
            obtain ⟨hyl, hR2⟩ := hR.out
            have hwp : IntKind.i64.wrap ((p : Int) + (i : Int)) = ((p + i : Nat) : Int) := by rw [IntWalk.i64_in _ (by omega)]; omega
            by_cases hfit : p + i ≤ 16
            · have HG := Lib.hid (go_ok hR2 (by omega) (by omega) (out := out) (by rw [HAA.out.len]; omega) i HAA.out.len 0 (by decide) (fun w1 u => reg_any (hR2.fr u) HAA.out (by omega)))
              have hfI : ((p + i : Nat) : Int) ≤ 16 := by omega
              have HYL := Lib.hid hyl
              clear hR hR2 hyl
              go_wp2_with (go_at_call 45; refine HG.out.mono ?_; rintro e w10 ⟨rfl, hR10⟩)
              refine ⟨?rel, ?measure⟩
              case rel => exact ⟨p + i, ys ++ out, _, by omega, by go_num, Lib.hid ⟨by rw [List.length_append, HYL.out, HAA.out.len], hR10.most (by omega) (by omega)⟩⟩
              case measure => simp [intOf]; omega
            · have HG := Lib.hid (go_full hR2 (by omega) (by omega))
              have hfI : ¬ ((p + i : Nat) : Int) ≤ 16 := by omega
              have HU := Lib.hid hR2.up
              clear hR hR2 hyl
              go_wp2_with (first | (go_at_call 25; refine (num_any _ _).mono ?_; rintro e w' ⟨rfl, rfl⟩) | (go_at_call 45; refine HG.out.mono ?_; rintro e w10 ⟨rfl, hU10⟩))
              go_ret
              exact ⟨rfl, HU.out.trans hU10 (fun _ _ f => f)⟩
end Go.Proofs.YtkjdhkpkcepilaaGreat
