/- lichenlaw11.CtlModes. -/
import Derived.Test.YtkjdhkpkcepilaaGreatAwake11
import Derived.Test.YtkjdhkpkcepilaaGreatReadM
namespace Go.Proofs.YtkjdhkpkcepilaaGreat
open Go.RowKit
theorem byteM_get (a : ByteArray) (q : Nat) (h : q < a.size) : byteOf a q = ((a[q]'h).toNat : Int) := by
  unfold byteOf
  rw [List.getD_eq_getElem?_getD, List.getElem?_eq_getElem (show q < a.data.toList.length from h)]
  rfl
theorem modes_at (fa : ByteArray) (hsz : fa.size = 4096) (a m j : Nat) (_ : a < 4096) (hj : j < m) (hm : m ≤ 32) : ∃ r t : Nat, ∃ hr : r < fa.size, t ≤ 8192 ∧ IntKind.i64.wrap ((a : Int) + (j : Int)) = (t : Int) ∧ (t : Int).tmod 4096 = (r : Int) ∧ (ints (intsOf (fetched fa (a : Int) m)))[j]? = some (.int .i64 ((fa[r]'hr).toNat : Int)) := by
  refine ⟨(a + j) % 4096, a + j, by rw [hsz]; exact Nat.mod_lt _ (by decide), by omega, ?_, ?_, ?_⟩
  · rw [IntWalk.i64_in _ (by omega)]; omega
  · rw [Int.tmod_eq_emod_of_nonneg (by omega)]; omega
  · have hl : j < (intsOf (fetched fa (a : Int) m)).length := by unfold intsOf; rw [List.length_map, fetched_len]; exact hj
    rw [ints_at _ _ hl, ints_fetched, List.getD_eq_getElem?_getD, List.getElem?_map, List.getElem?_range hj]
    show some (Value.int .i64 (byteOf fa (((a : Int) + (j : Int)) % 4096).toNat)) = _
    rw [show (((a : Int) + (j : Int)) % 4096).toNat = (a + j) % 4096 by omega, byteM_get fa _ (by rw [hsz]; exact Nat.mod_lt _ (by decide))]
set_option maxRecDepth 100000 in
set_option maxHeartbeats 8000000 in
theorem lawCtlModes (w : World) (s : ByteArray) (hs : s.size ≤ 9223372036854775807) (at_ : Int) (_ : (Lit.int .i64 at_).wf = true) (many : Int) (_ : (Lit.int .i64 many).wf = true) (v0 : Value) (zs : List Int) (h0 : IntsR w v0 zs) :
    Calls Tryz.prog 17 #[.string s, .int .i64 at_, .int .i64 many, v0] w fun e w' => e = .returned (.bool true) ∧ Upd none' w w' := by
  have hmn := i64_and31 many
  obtain ⟨p, hp⟩ : ∃ p : Nat, many % 32 = (p : Int) := ⟨(many % 32).toNat, by omega⟩
  have hp2 : p < 32 := by omega
  rw [hp] at hmn
  obtain ⟨m, hm⟩ : ∃ m : Nat, m = 1 + p := ⟨_, rfl⟩
  have hw1 : IntKind.i64.wrap (1 + (p : Int)) = (m : Int) := by rw [IntWalk.i64_in _ (by omega)]; omega
  have hm1 : 1 ≤ m ∧ m ≤ 32 := by omega
  obtain ⟨fa, hfa⟩ : ∃ fa : ByteArray, (⟨(freshL s).toArray⟩ : ByteArray) = fa := ⟨_, rfl⟩
  have hsz : fa.size = 4096 := by rw [← hfa]; simpa [ByteArray.size] using freshL_len _
  have HFA := Lib.hid hfa
  clear hfa hp hm
  obtain ⟨k1, k2, a0, cap0, rfl, k4, k5⟩ := h0
  obtain ⟨M, hM⟩ : ∃ M, zs.length = M := ⟨_, rfl⟩
  rw [hM] at k4 k5 ⊢
  have HK := Lib.hid k5
  have HM := Lib.hid hM
  clear k2 k5 hM k1
  go_enter Tryz.func17, Tryz.ntmps17
  go_upto_region 4 with (first | (go_at_call 41; refine (awake11 _).mono ?_; rintro e w0 ⟨rfl, hU1⟩) | (go_at_call 42; refine (c_twins11 hU1 _ hs fa HFA.out).mono ?_; rintro e w1 ⟨b, r, rfl, hC1⟩))
  have HN := Lib.hid (reg_new (at_new fa) hC1 (Int.le_refl 0) (by decide))
  clear hC1
  go_upto_region 7 with (first | (go_at_call 28; refine HN.out.mono ?_; rintro e w2 ⟨k, rfl, hR2⟩) | (go_at_call 25; refine (num_any _ _).mono ?_; rintro e w' ⟨rfl, rfl⟩))
  have HE := Lib.hid (reg_en hR2 rfl rfl (by decide))
  clear hR2 HN
  go_upto_region 8 with (go_at_call 36; refine HE.out.mono ?_; rintro e w3 ⟨oa3, oc3, rfl, hR3⟩)
  have HP := Lib.hid (reg_put hR3 rfl rfl rfl (by decide))
  clear hR3 HE
  go_upto_region 9 with (go_at_call 36; refine HP.out.mono ?_; rintro e w4 ⟨oa4, oc4, rfl, hR4⟩)
  have HCE := Lib.hid (reg_cells hR4 fa rfl)
  obtain ⟨C, hC', hCg, hCj, hCq, hCa⟩ : ∃ C : Cor, RegA false C b k (34 + 400 * ((0 : Nat) : Int)) 32 w w4 [] ∧ ({ C with goes := false } : Cor) = C ∧ C.job = none ∧ C.quad = true ∧ C.a = fa := ⟨_, hR4.asQ.asA (by decide), rfl, rfl, rfl, rfl⟩
  have hC : RegA false { C with goes := false } b k (34 + 400 * ((0 : Nat) : Int)) 32 w w4 [] := by rw [hCg]; exact hC'
  have HCC := Lib.hid (And.intro hCj (And.intro hCq hCa))
  have HC0 := Lib.hid hC
  clear hR4 HP hC hC' hCg hCj hCq hCa
  go_upto_region 14 with (go_at_call 24; refine HCE.out.mono ?_; rintro e w5 ⟨rfl, rfl⟩)
  clear HCE
  go_loopw [15] (fun iv wr => ∃ (i : Nat) (q : Int) (g : Bool), i ≤ M ∧ i ≤ 20 ∧ iv = .int .i64 (i : Int) ∧ Hid (RegA g { C with goes := g } b k (34 + 400 * (i : Int)) q w wr [])) (fun iv _ => 20 - (intOf iv).toNat)
  case atStart => exact ⟨0, 32, false, Nat.zero_le _, Nat.zero_le _, rfl, HC0⟩
  case round =>
    clear HC0
    rename World => W2
    obtain ⟨i, q, g, hi1, hi2, rfl, hR⟩ := hrel
    by_cases hlt : i < M ∧ i < 20
    · obtain ⟨hl1, hl2⟩ := hlt
      obtain ⟨bb, oo, rfl, hbb, hcc⟩ := HK.out (by intro h; have := HM.out; rw [h] at this; simp at this; omega)
      obtain ⟨x, hx⟩ : ∃ x, zs.getD i 0 = x := ⟨_, rfl⟩
      have hcell : W2.cell? ⟨bb, oo + i, none⟩ = some (.int .i64 x) := by
        rw [hR.out.up.cell (p := ⟨bb, oo + i, none⟩) hbb (fun f => f), hcc i hl1, hx]
      have ha3 := i64_and3 x
      have hat := i64_and4095 (wrap64 (at_ + x))
      obtain ⟨a, ha⟩ : ∃ a : Nat, wrap64 (at_ + x) % 4096 = (a : Int) := ⟨(wrap64 (at_ + x) % 4096).toNat, by omega⟩
      have ha2 : a < 4096 := by omega
      rw [ha] at hat
      obtain ⟨j, hj⟩ : ∃ j : Nat, x % 4 = (j : Int) := ⟨(x % 4).toNat, by omega⟩
      have hj4 : j < 4 := by omega
      rw [hj] at ha3
      clear hcc hx ha hj
      have HG : Hid (∀ W3 rows, RegA g { C with goes := g } b k (34 + 400 * (i : Int)) q w W3 rows → ∀ (B : Bool) (x : Int), 0 ≤ x ∧ x ≤ 255 → (x == 160) = B → ∀ a1 cp, (.slice a1 1 cp, ints [x]) ∈ rows → Calls Tryz.prog 36 #[.pointer (some ⟨k, 0, none⟩), .int .i64 235, .int .i64 (a : Int), .slice a1 1 cp, .int .i64 (m : Int)] W3 fun e w' => ∃ oa oc q' g', e = .returned (.tuple #[.slice oa m oc, .int .i64 0]) ∧ RegA g' { C with goes := g' } b k (34 + 400 * ((i + 1 : Nat) : Int)) q' w w' [(.slice oa m oc, ints (intsOf (fetched fa a m)))]) := Lib.hid (fun W3 rows h B x hx hB a1 cp hdd => by
        refine (rega_go h rfl HCC.out.1 HCC.out.2.1 (a : Int) (by omega) x hx B hB m hm1.1 (by omega) a1 cp hdd (by omega)).mono ?_
        rintro e w' ⟨oa, oc, q', rfl, h2⟩
        rw [← HCC.out.2.2]
        exact ⟨oa, oc, q', B, rfl, (h2.more (by omega) (by omega)).sub fun r hr => by
          simp only [List.mem_cons, List.not_mem_nil, or_false] at hr
          subst hr
          exact List.mem_cons_self⟩)
      have HO : Hid (∀ o, (o = 3 ∨ o = 107) → Calls Tryz.prog 36 #[.pointer (some ⟨k, 0, none⟩), .int .i64 o, .int .i64 (a : Int), .slice none 0 0, .int .i64 (m : Int)] W2 fun e w' => ∃ oa oc q' g', e = .returned (.tuple #[.slice oa m oc, .int .i64 0]) ∧ RegA g' { C with goes := g' } b k (34 + 400 * ((i + 1 : Nat) : Int)) q' w w' [(.slice oa m oc, ints (intsOf (fetched fa a m)))]) := Lib.hid (fun o ho => by
        obtain ⟨clk, hA⟩ := cell_read { C with goes := false } rfl HCC.out.1 HCC.out.2.1 o (a : Int) m hm1.1 (by omega) ho (by omega) (by omega)
        refine (rega_read hR.out rfl HCC.out.1 HCC.out.2.1 hA (by omega)).mono ?_
        rintro e w' ⟨oa, oc, q', rfl, h2⟩
        rw [← HCC.out.2.2]
        exact ⟨oa, oc, q', false, rfl, h2.more (by omega) (by omega)⟩)
      have hi3 : (i : Int) < 20 := by omega
      rcases (show j = 0 ∨ j = 1 ∨ j = 2 ∨ j = 3 by omega) with rfl | rfl | rfl | rfl
      · have hrun : Calls Tryz.prog 36 #[.pointer (some ⟨k, 0, none⟩), .int .i64 3, .int .i64 (a : Int), .slice none 0 0, .int .i64 (m : Int)] W2 fun e w' => ∃ oa oc q' g', e = .returned (.tuple #[.slice oa m oc, .int .i64 0]) ∧ RegA g' { C with goes := g' } b k (34 + 400 * ((i + 1 : Nat) : Int)) q' w w' [(.slice oa m oc, ints (intsOf (fetched fa a m)))] := HO.out 3 (.inl rfl)
        have HRUN := Lib.hid hrun
        clear hrun hR HG HO
        go_upto_region 28 with (go_at_call 36; refine HRUN.out.mono ?_; rintro e w6 ⟨oa, oc, q', g', rfl, hR6⟩)
        obtain ⟨gx, ox, e1, hgx, hcx⟩ := (hR6.rs List.mem_cons_self).cells (by omega)
        subst e1
        have HCX := Lib.hid hcx
        have HR6 := Lib.hid hR6
        clear hR6 hcx HRUN hcell hat ha3
        go_upto_region 31 with (go_at_call 25; refine (num_any _ _).mono ?_; rintro e w' ⟨rfl, rfl⟩)
        go_loopw [21] (fun iv wr => ∃ y : Nat, y ≤ m ∧ iv = .int .i64 (y : Int) ∧ Upd none' w6 wr) (fun iv _ => 32 - (intOf iv).toNat)
        case atStart => exact ⟨0, Nat.zero_le _, rfl, Upd.refl _ _⟩
        case round =>
          rename World => W3
          obtain ⟨y, hy, rfl, hU⟩ := hrel
          by_cases hym : y < m
          · obtain ⟨r, t, hr, ht, hwy, hmod, hc⟩ := modes_at fa hsz a m y ha2 hym hm1.2
            have hcell := HCX.out y hym
            rw [hc, ← hU.cell (p := ⟨gx, ox + y, none⟩) hgx (fun f => f)] at hcell
            have hbd := (fa[r]'hr).toNat_lt
            have hrI : (r : Int) < 4096 := by omega
            clear hc
            go_upto_region 33 with fail
            go_region
            all_goals go_wp2
            all_goals exact ⟨⟨y + 1, by omega, by go_num, hU.drew⟩, by simp [intOf]; omega⟩
          · obtain rfl : y = m := by omega
            go_wp2
            refine ⟨?rel, ?measure⟩
            case rel => exact ⟨i + 1, q', g', by omega, by omega, by go_num, Lib.hid ((HR6.out.fr hU).sub fun r hr => absurd hr List.not_mem_nil)⟩
            case measure => simp [intOf]; omega
      · have hrun : Calls Tryz.prog 36 #[.pointer (some ⟨k, 0, none⟩), .int .i64 107, .int .i64 (a : Int), .slice none 0 0, .int .i64 (m : Int)] W2 fun e w' => ∃ oa oc q' g', e = .returned (.tuple #[.slice oa m oc, .int .i64 0]) ∧ RegA g' { C with goes := g' } b k (34 + 400 * ((i + 1 : Nat) : Int)) q' w w' [(.slice oa m oc, ints (intsOf (fetched fa a m)))] := HO.out 107 (.inr rfl)
        have HRUN := Lib.hid hrun
        clear hrun hR HG HO
        go_upto_region 28 with (go_at_call 36; refine HRUN.out.mono ?_; rintro e w6 ⟨oa, oc, q', g', rfl, hR6⟩)
        obtain ⟨gx, ox, e1, hgx, hcx⟩ := (hR6.rs List.mem_cons_self).cells (by omega)
        subst e1
        have HCX := Lib.hid hcx
        have HR6 := Lib.hid hR6
        clear hR6 hcx HRUN hcell hat ha3
        go_upto_region 31 with (go_at_call 25; refine (num_any _ _).mono ?_; rintro e w' ⟨rfl, rfl⟩)
        go_loopw [21] (fun iv wr => ∃ y : Nat, y ≤ m ∧ iv = .int .i64 (y : Int) ∧ Upd none' w6 wr) (fun iv _ => 32 - (intOf iv).toNat)
        case atStart => exact ⟨0, Nat.zero_le _, rfl, Upd.refl _ _⟩
        case round =>
          rename World => W3
          obtain ⟨y, hy, rfl, hU⟩ := hrel
          by_cases hym : y < m
          · obtain ⟨r, t, hr, ht, hwy, hmod, hc⟩ := modes_at fa hsz a m y ha2 hym hm1.2
            have hcell := HCX.out y hym
            rw [hc, ← hU.cell (p := ⟨gx, ox + y, none⟩) hgx (fun f => f)] at hcell
            have hbd := (fa[r]'hr).toNat_lt
            have hrI : (r : Int) < 4096 := by omega
            clear hc
            go_upto_region 33 with fail
            go_region
            all_goals go_wp2
            all_goals exact ⟨⟨y + 1, by omega, by go_num, hU.drew⟩, by simp [intOf]; omega⟩
          · obtain rfl : y = m := by omega
            go_wp2
            refine ⟨?rel, ?measure⟩
            case rel => exact ⟨i + 1, q', g', by omega, by omega, by go_num, Lib.hid ((HR6.out.fr hU).sub fun r hr => absurd hr List.not_mem_nil)⟩
            case measure => simp [intOf]; omega
      · have hrun : Calls Tryz.prog 36 #[.pointer (some ⟨k, 0, none⟩), .int .i64 235, .int .i64 (a : Int), .slice (some ⟨W2.heap.size, 0, none⟩) 1 1, .int .i64 (m : Int)] (W2.alloc (.cells #[.int .i64 160] 3)) fun e w' => ∃ oa oc q' g', e = .returned (.tuple #[.slice oa m oc, .int .i64 0]) ∧ RegA g' { C with goes := g' } b k (34 + 400 * ((i + 1 : Nat) : Int)) q' w w' [(.slice oa m oc, ints (intsOf (fetched fa a m)))] := HG.out _ _ (hR.out.lit (ints [160]) 3 1 rfl (by decide)) true 160 (by decide) rfl _ _ List.mem_cons_self
        have HRUN := Lib.hid hrun
        clear hrun hR HG HO
        go_upto_region 28 with (go_at_call 36; refine HRUN.out.mono ?_; rintro e w6 ⟨oa, oc, q', g', rfl, hR6⟩)
        obtain ⟨gx, ox, e1, hgx, hcx⟩ := (hR6.rs List.mem_cons_self).cells (by omega)
        subst e1
        have HCX := Lib.hid hcx
        have HR6 := Lib.hid hR6
        clear hR6 hcx HRUN hcell hat ha3
        go_upto_region 31 with (go_at_call 25; refine (num_any _ _).mono ?_; rintro e w' ⟨rfl, rfl⟩)
        go_loopw [21] (fun iv wr => ∃ y : Nat, y ≤ m ∧ iv = .int .i64 (y : Int) ∧ Upd none' w6 wr) (fun iv _ => 32 - (intOf iv).toNat)
        case atStart => exact ⟨0, Nat.zero_le _, rfl, Upd.refl _ _⟩
        case round =>
          rename World => W3
          obtain ⟨y, hy, rfl, hU⟩ := hrel
          by_cases hym : y < m
          · obtain ⟨r, t, hr, ht, hwy, hmod, hc⟩ := modes_at fa hsz a m y ha2 hym hm1.2
            have hcell := HCX.out y hym
            rw [hc, ← hU.cell (p := ⟨gx, ox + y, none⟩) hgx (fun f => f)] at hcell
            have hbd := (fa[r]'hr).toNat_lt
            have hrI : (r : Int) < 4096 := by omega
            clear hc
            go_upto_region 33 with fail
            go_region
            all_goals go_wp2
            all_goals exact ⟨⟨y + 1, by omega, by go_num, hU.drew⟩, by simp [intOf]; omega⟩
          · obtain rfl : y = m := by omega
            go_wp2
            refine ⟨?rel, ?measure⟩
            case rel => exact ⟨i + 1, q', g', by omega, by omega, by go_num, Lib.hid ((HR6.out.fr hU).sub fun r hr => absurd hr List.not_mem_nil)⟩
            case measure => simp [intOf]; omega
      · have hrun : Calls Tryz.prog 36 #[.pointer (some ⟨k, 0, none⟩), .int .i64 235, .int .i64 (a : Int), .slice (some ⟨W2.heap.size, 0, none⟩) 1 1, .int .i64 (m : Int)] (W2.alloc (.cells #[.int .i64 0] 3)) fun e w' => ∃ oa oc q' g', e = .returned (.tuple #[.slice oa m oc, .int .i64 0]) ∧ RegA g' { C with goes := g' } b k (34 + 400 * ((i + 1 : Nat) : Int)) q' w w' [(.slice oa m oc, ints (intsOf (fetched fa a m)))] := HG.out _ _ (hR.out.lit (ints [0]) 3 1 rfl (by decide)) false 0 (by decide) rfl _ _ List.mem_cons_self
        have HRUN := Lib.hid hrun
        clear hrun hR HG HO
        go_upto_region 28 with (go_at_call 36; refine HRUN.out.mono ?_; rintro e w6 ⟨oa, oc, q', g', rfl, hR6⟩)
        obtain ⟨gx, ox, e1, hgx, hcx⟩ := (hR6.rs List.mem_cons_self).cells (by omega)
        subst e1
        have HCX := Lib.hid hcx
        have HR6 := Lib.hid hR6
        clear hR6 hcx HRUN hcell hat ha3
        go_upto_region 31 with (go_at_call 25; refine (num_any _ _).mono ?_; rintro e w' ⟨rfl, rfl⟩)
        go_loopw [21] (fun iv wr => ∃ y : Nat, y ≤ m ∧ iv = .int .i64 (y : Int) ∧ Upd none' w6 wr) (fun iv _ => 32 - (intOf iv).toNat)
        case atStart => exact ⟨0, Nat.zero_le _, rfl, Upd.refl _ _⟩
        case round =>
          rename World => W3
          obtain ⟨y, hy, rfl, hU⟩ := hrel
          by_cases hym : y < m
          · obtain ⟨r, t, hr, ht, hwy, hmod, hc⟩ := modes_at fa hsz a m y ha2 hym hm1.2
            have hcell := HCX.out y hym
            rw [hc, ← hU.cell (p := ⟨gx, ox + y, none⟩) hgx (fun f => f)] at hcell
            have hbd := (fa[r]'hr).toNat_lt
            have hrI : (r : Int) < 4096 := by omega
            clear hc
            go_upto_region 33 with fail
            go_region
            all_goals go_wp2
            all_goals exact ⟨⟨y + 1, by omega, by go_num, hU.drew⟩, by simp [intOf]; omega⟩
          · obtain rfl : y = m := by omega
            go_wp2
            refine ⟨?rel, ?measure⟩
            case rel => exact ⟨i + 1, q', g', by omega, by omega, by go_num, Lib.hid ((HR6.out.fr hU).sub fun r hr => absurd hr List.not_mem_nil)⟩
            case measure => simp [intOf]; omega
    · have HU := Lib.hid hR.out.up
      have hor : M ≤ i ∨ i < M ∧ i = 20 := by omega
      clear hR hlt
      rcases hor with h | ⟨h, rfl⟩
      all_goals
        go_wp2
        all_goals
          go_ret
          exact ⟨rfl, HU.out⟩
end Go.Proofs.YtkjdhkpkcepilaaGreat
