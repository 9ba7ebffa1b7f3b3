/- ChipLoss: behind a loss a chip is as a new one with its cells, but for what is protected, quad, counted: for every text, row and mask. No condition. -/
import Derived.Test.YtjdjdfllggpckaaGreatCtxE
import Derived.Test.YtjdjdfllggpckaaGreatAwake6
import Derived.Test.YtjdjdfllggpckaaGreatPureL
import Derived.Deep.RegionHeld3
namespace Go.Proofs.YtjdjdfllggpckaaGreat
open Go.RowKit
theorem c_select {Q : Own} {w0 w : World} {b : Nat} {s : St} {N : Int} {rows : List (Value × List Value)} (hC : Ctx (ChipP b s N) Q w0 w rows) (hsel : s.sel = false) (t : St) (ht : s.select = t) :
    Calls Tryz.prog 25 #[.pointer (some ⟨b, 0, none⟩)] w fun e w' => e = .returned (.int .i64 0) ∧ Ctx (ChipP b t N) Q w0 w' rows := by
  subst ht
  exact c_post hC s.select (fun h => select_invW h) (fun S hA _ => chip_select b s S w hA hsel)
theorem c_deselect {Q : Own} {w0 w : World} {b : Nat} {s : St} {N : Int} {rows : List (Value × List Value)} (hC : Ctx (ChipP b s N) Q w0 w rows) (hsel : s.sel = true) (hN : N ≤ 1048576) (t : St) (ht : s.deselect = t) :
    Calls Tryz.prog 27 #[.pointer (some ⟨b, 0, none⟩)] w fun e w' => e = .returned (.int .i64 0) ∧ Ctx (ChipP b t (N + 1)) Q w0 w' rows := by
  subst ht
  exact c_post hC s.deselect (fun h => deselect_invW h hsel) (fun S hA hI => chip_deselect b s S w hA N (hI.inv hsel) hN hsel)
theorem c_loss0 {Q : Own} {w0 w : World} {b : Nat} {s : St} {N : Int} {rows : List (Value × List Value)} (hC : Ctx (ChipP b s N) Q w0 w rows) (mask : ByteArray) (hj : s.job = none) (t : St) (ht : s.pw = t) :
    Calls Tryz.prog 26 #[.pointer (some ⟨b, 0, none⟩), .string mask] w fun e w' => e = .returned (.int .i64 0) ∧ Ctx (ChipP b t N) Q w0 w' rows := by
  rw [← ht, ← loss_pw hj mask]
  exact c_post hC (s.loss mask) (fun h => loss_inv h mask) (fun S hA _ => chip_loss_none b s S w hA hj mask)
theorem lsB_at (j : Nat) (h : j < 8) : (ints lsB)[j]? = some (.int .i64 (lsB.getD j 0)) := by
  rcases (show j = 0 ∨ j = 1 ∨ j = 2 ∨ j = 3 ∨ j = 4 ∨ j = 5 ∨ j = 6 ∨ j = 7 by omega) with rfl | rfl | rfl | rfl | rfl | rfl | rfl | rfl <;> rfl
theorem lsB_bd (j : Nat) (h : j < 8) : 0 ≤ lsB.getD j 0 ∧ lsB.getD j 0 ≤ 255 := by
  rcases (show j = 0 ∨ j = 1 ∨ j = 2 ∨ j = 3 ∨ j = 4 ∨ j = 5 ∨ j = 6 ∨ j = 7 by omega) with rfl | rfl | rfl | rfl | rfl | rfl | rfl | rfl <;> decide
theorem half_eq (a : ByteArray) : (eraseCut a 4 all255).extract 0 2048 = a.extract 0 2048 := by
  have h := turned_half a (4 * 512) 512 (fun i old => old ||| maskAt all255 i) 2048 (by decide)
  apply ByteArray.ext
  apply Array.toList_inj.1
  have e : ∀ x : ByteArray, (x.extract 0 2048).data.toList = x.data.toList.take 2048 := by
    intro x
    rw [ByteArray.data_extract, Array.toList_extract]
    simp
  rw [e, e]
  exact h
theorem lsB_cell {P Q : Own} {w0 w : World} {rows : List (Value × List Value)} {g : Nat} (hC : Ctx P Q w0 w rows) (i : Nat) (hi : rows[i]? = some (.slice (some ⟨g, 0, none⟩) 8 8, ints lsB)) (j : Nat) (hj : j < 8) (c : Int) (hc : lsB.getD j 0 = c) : w.cell? ⟨g, j, none⟩ = some (.int .i64 c) := by
  obtain ⟨g0, o0, e0, hg0, hc0⟩ := (hC.rs i hi).cells (by decide)
  simp only [Option.some.injEq, Addr.mk.injEq, and_true] at e0
  obtain ⟨rfl, rfl⟩ := e0
  have := hc0 j hj
  rw [Nat.zero_add] at this
  rw [this, lsB_at j hj, hc]
set_option maxRecDepth 100000 in
set_option maxHeartbeats 4000000 in
theorem lawChipLoss (w : World) (s : ByteArray) (hs : s.size ≤ maxLen) (v0 : Value) (zs : List Int) (h0 : IntsR w v0 zs) (mask : ByteArray) (_ : mask.size ≤ maxLen) :
    Calls Tryz.prog 9 #[.string s, v0, .string mask] w fun e w' => e = .returned (.bool true) ∧ Upd none' w w' := by
  obtain ⟨fa, hfa⟩ : ∃ fa : ByteArray, (⟨(freshL s).toArray⟩ : ByteArray) = fa := ⟨_, rfl⟩
  have hsz : fa.size = 4096 := by rw [← hfa]; simpa [ByteArray.size] using freshL_len s
  have HFA := Lib.hid hfa
  obtain ⟨k1, k2, a0, cap0, rfl, k4, k5⟩ := h0
  have HSN := Lib.hid (saf_new fa)
  clear hfa k2
  go_enter Tryz.func9, Tryz.ntmps9
  go_upto_region 6 with (first | (go_at_call 11; refine (awake6 _).mono ?_; rintro e w0 ⟨rfl, hU0⟩) | (go_at_call 12; refine (c_fresh hU0 s hs fa HFA.out).mono ?_; rintro e w1 ⟨b, rfl, hC1⟩))
  have hC2 := hC1.lit (ints lsB) 3 8 rfl (by decide)
  have hg1 := hC1.upd.size
  have hB0 : Blk (w1.alloc (.cells (ints lsB).toArray 3)) w1.heap.size (ints lsB) 3 := Blk.new w1 (ints lsB) 3
  have HB0 := Lib.hid hB0
  clear hU0 HFA hB0
  go_wp2_with fail
  go_loopw [9] (fun iv wr => ∃ (i : Nat) (t : St), i ≤ zs.length ∧ i ≤ 10 ∧ iv = .int .i64 i ∧ Saf fa t ∧ Ctx (ChipP b t (50 * (i : Int))) .emp w wr [(.slice (some ⟨w1.heap.size, 0, none⟩) 8 8, ints lsB)]) (fun iv _ => 10 - (intOf iv).toNat)
  case atStart => exact ⟨0, St.new fa, by omega, by omega, rfl, HSN.out, hC2⟩
  case round =>
    clear hC1 hC2 HSN HB0
    obtain ⟨i, t, hi1, hi2, rfl, hS, hC⟩ := hrel
    have HS := Lib.hid hS
    have HSEL : Hid (True ∧ t.sel = false) := ⟨trivial, hS.sel⟩
    clear hS
    by_cases hlt : i < zs.length ∧ i < 10
    · obtain ⟨hl1, hl2⟩ := hlt
      obtain ⟨bb, oo, rfl, hbb, hcc⟩ := k5 (by intro h; simp [h] at hl1)
      obtain ⟨x, hx⟩ : ∃ x, zs.getD i 0 = x := ⟨_, rfl⟩
      have hk : ∀ W : World, Upd none' w W → W.cell? ⟨bb, oo + i, none⟩ = some (.int .i64 x) := fun W u => by
        rw [u.cell (p := ⟨bb, oo + i, none⟩) hbb (fun f => f), hcc i hl1, hx]
      obtain ⟨j, hj, hj8⟩ : ∃ j : Nat, bits .and .i64 x 7 = (j : Int) ∧ j < 8 := ⟨(x % 8).toNat, by rw [i64_and7]; omega, by omega⟩
      obtain ⟨n, hn, hn32⟩ : ∃ n : Nat, bits .and .i64 (x / 8) 31 = (n : Int) ∧ n < 32 := ⟨(x / 8 % 32).toNat, by rw [i64_and31]; omega, by omega⟩
      have hbd := lsB_bd j hj8
      have hsn := saf_any HS.out j hj8 n hn32
      obtain ⟨y, hy⟩ := af_said t (wordL [lsB.getD j 0] ++ List.replicate n 15)
      obtain ⟨u, hu⟩ : ∃ u, t.af (wordL [lsB.getD j 0] ++ List.replicate n 15) = u := ⟨_, rfl⟩
      rw [hu] at hsn hy
      obtain ⟨c, hc⟩ : ∃ c, lsB.getD j 0 = c := ⟨_, rfl⟩
      rw [hc] at hbd hy
      have HSAF := Lib.hid hsn
      have HYS := Lib.hid hy
      have HW := Lib.hid (word1_in c hbd)
      have hx1 := hk wr hC.upd
      have hx2 := lsB_cell hC 0 rfl j hj8 c hc
      have hx1d := hk wr.drew hC.upd.drew
      have hx2d := lsB_cell hC.drew 0 rfl j hj8 c hc
      have hxb : bb < wr.heap.size := Nat.lt_of_lt_of_le hbb hC.upd.size
      have HK := Lib.hid hk
      have HCC := Lib.hid hc
      have hCd := hC.drew
      have hgb : w1.heap.size < wr.heap.size := hC.below _ (List.mem_cons.2 (.inl rfl)) _ rfl
      have hji0 : (0 : Int) ≤ (j : Int) := by omega
      have hji8 : (j : Int) < 8 := by omega
      have hib : (i : Int) < (zs.length : Int) := by omega
      have hib0 : (0 : Int) ≤ (i : Int) := by omega
      clear hcc hx hk hsn hy hu hc hC k5
      go_upto_region 10 with fail
      go_region_held3 (fun w' => w'.cell? ⟨bb, oo + i, none⟩ = some (.int .i64 x) ∧ w'.cell? ⟨w1.heap.size, j, none⟩ = some (.int .i64 c)) (first | exact ⟨hx1d, hx2d⟩ | exact ⟨p1, p2⟩ | exact ⟨q1, q2⟩ | exact ⟨r1, r2⟩ | exact ⟨by go_simp, by go_simp⟩) (first | (go_at_call 16; refine (c_wordl hCd [c] 1 8 rfl rfl (by decide) HW.out).mono ?_; rintro e w7 ⟨a5, c5, rfl, hn5, hD⟩; have p1 := HK.out w7 hD.upd; have p2 := lsB_cell hD 1 rfl j hj8 c HCC.out) | (go_at_call 15; refine (c_quiet hD 0 _ 8 _ _ rfl hn5 n _ rfl (8 + n) rfl (by omega)).mono ?_; rintro e w8 ⟨a6, c6, rfl, hn6, hE⟩; have q1 := HK.out w8 hE.upd; have q2 := lsB_cell hE 2 rfl j hj8 c HCC.out) | (go_at_call 14; refine (c_say hE 0 _ (8 + n) _ _ rfl (by omega) HSEL.out.2 (app_in (word_in _) (rep_in _)) u y HYS.out).mono ?_; rintro e w9 ⟨a7, c7, rfl, hn7, hF⟩; have r1 := HK.out w9 hF.upd; have r2 := lsB_cell hF 3 rfl j hj8 c HCC.out))
      all_goals
        go_wp2
        refine ⟨?rel, ?measure⟩
        case rel => exact ⟨i + 1, u, by omega, by omega, by go_num, HSAF.out, hF.tl.tl.tl.up (by omega)⟩
        case measure => simp [intOf]; omega
    · have hend : ¬ i < zs.length ∨ (i < zs.length ∧ ¬ i < 10) := by omega
      have hC0 := hC.drop
      clear hC hlt k5 k4
      have hcases : (¬ i < zs.length ∧ ¬ 10 < zs.length) ∨ (i < zs.length ∧ ¬ i < 10 ∧ 10 < zs.length) := by omega
      rcases hcases with ⟨hn1, hn10⟩ | ⟨hn1, hn2, hn10⟩
      · clear hend
        go_upto_region 15 with (go_at_call 18; refine (c_nextl hC0 [300] 1 rfl (by decide) (by decide) (by decide)).mono ?_; rintro e w2 ⟨rfl, hC3⟩)
        obtain ⟨T, M, hM, hT1, hT2, hT3, hT4, hZ⟩ : ∃ (T : St) (M : Int), M ≤ 600 ∧ T.job = none ∧ T.prot = false ∧ T.quad = false ∧ T.a = fa ∧ Ctx (ChipP b T M) .emp w w2 [] := ⟨{ t with busy := [300] }, 50 * (i : Int), by omega, HS.out.job, HS.out.prot, HS.out.quad, HS.out.a, hC3⟩
        clear hC0 hC3 HS HSEL
        obtain ⟨s1, s2, s3⟩ := pw_saf hT2 hT3 hT4
        obtain ⟨d1, d2, d3⟩ := sel_off s1 s2 s3
        obtain ⟨e1, e2, e3⟩ := saf_enable d1 d3
        have hr := saf_erase e1 e2 e3
        obtain ⟨y1, hy1⟩ := af_said T.pw.select.deselect (wordL [6])
        obtain ⟨y2, hy2⟩ := af_said (T.pw.select.deselect.af (wordL [6])) (wordL [32, 0, 8, 0])
        have hst := saf_first s1 s2
        obtain ⟨P1, hP1⟩ : ∃ P1, T.pw = P1 := ⟨_, rfl⟩
        rw [hP1] at hy1 hy2 hst hr s1 d1 e1
        obtain ⟨P2, hP2⟩ : ∃ P2, P1.select = P2 := ⟨_, rfl⟩
        have hsl := select_sel P1
        rw [hP2] at hy1 hy2 hr d1 e1 hsl
        obtain ⟨P3, hP3⟩ : ∃ P3, P2.deselect = P3 := ⟨_, rfl⟩
        rw [hP3] at hy1 hy2 hr d1 e1
        obtain ⟨P4, hP4⟩ : ∃ P4, P3.af (wordL [6]) = P4 := ⟨_, rfl⟩
        rw [hP4] at hy1 hy2 hr e1
        obtain ⟨P5, hP5⟩ : ∃ P5, P4.af (wordL [32, 0, 8, 0]) = P5 := ⟨_, rfl⟩
        rw [hP5] at hy2 hr
        have H1 := Lib.hid (And.intro hP1 (And.intro hP2 hP3))
        have H2 := Lib.hid (And.intro hy1 hy2)
        have H3 := Lib.hid (And.intro s1.sel (And.intro hsl (And.intro d1.sel e1.sel)))
        have H4 := Lib.hid hst
        have H5 := Lib.hid hr
        have HJT := Lib.hid (And.intro hT1 hT4)
        clear s1 s2 s3 d1 d2 d3 e1 e2 e3 hr hy1 hy2 hst hP1 hP2 hP3 hP4 hP5 hsl hT1 hT2 hT3 hT4
        go_upto_region 22 with (first | (go_at_call 27; refine (c_deselect hZ4 H3.out.2.1 (by omega) P3 H1.out.2.2).mono ?_; rintro e wE ⟨rfl, hZ5⟩) | (go_at_call 25; refine (c_select hZ3 H3.out.1 P2 H1.out.2.1).mono ?_; rintro e wD ⟨rfl, hZ4⟩) | (go_at_call 20; refine (c_status hZ2 0 0 H4.out.1 H4.out.2).mono ?_; rintro e wC ⟨rfl, hZ3⟩) | (go_at_call 26; refine (c_loss0 hZ mask HJT.out.1 P1 H1.out.1).mono ?_; rintro e wB ⟨rfl, hZ2⟩) | (go_at_call 13; refine (c_cells hZ fa HJT.out.2).mono ?_; rintro e wA ⟨rfl, rfl⟩))
        clear hZ hZ2 hZ3 hZ4
        go_upto_region 23 with (first | (go_at_call 16; refine (c_wordl hZ5 [6] 1 8 rfl rfl (by decide) (by decide)).mono ?_; rintro e wF ⟨a1, c1, rfl, hn1', hZ6⟩) | (go_at_call 14; refine (c_say hZ6 0 _ 8 _ (wordL [6]) rfl (by omega) H3.out.2.2.1 (word_in _) P4 _ H2.out.1).mono ?_; rintro e wG ⟨a2, c2, rfl, hn2', hZ7'⟩))
        have hZ7 := hZ7'.drop
        clear hZ5 hZ6 hZ7' hn1' hn2'
        go_upto_region 24 with (first | (go_at_call 16; refine (c_wordl hZ7 [32, 0, 8, 0] 4 32 rfl rfl (by decide) (by decide)).mono ?_; rintro e wH ⟨a3, c3, rfl, hn3', hZ8⟩) | (go_at_call 14; refine (c_say hZ8 0 _ 32 _ (wordL [32, 0, 8, 0]) rfl (by omega) H3.out.2.2.2 (word_in _) P5 _ H2.out.2).mono ?_; rintro e wI ⟨a4, c4, rfl, hn4', hZ9'⟩))
        have hZ9 := hZ9'.drop
        clear hZ7 hZ8 hZ9' hn3' hn4' H1 H2 H3 H4 HJT
        obtain ⟨fin, hfin⟩ : ∃ fin, eraseCut fa 4 all255 = fin := ⟨_, rfl⟩
        have hfs : fin.size = 4096 := by rw [← hfin]; unfold eraseCut; rw [turned_size]; exact hsz
        have hhalf : fin.extract 0 2048 = fa.extract 0 2048 := by rw [← hfin]; exact half_eq fa
        have HFIN := Lib.hid hfin
        clear hfin
        go_wp2_with fail
        go_loopw [16] (fun iv wr => ∃ (n : Nat) (u : St), n ≤ 8 ∧ iv = .int .i64 n ∧ Hid (n < 8 → Er fa 4 (8 - (n : Int)) false u) ∧ Hid (n = 8 → u.a = fin ∧ u.first = 0 ∧ u.second = 0) ∧ Ctx (ChipP b u (700 + (n : Int))) .emp w wr []) (fun iv _ => 8 - (intOf iv).toNat)
        case atStart => exact ⟨0, P5, by omega, rfl, fun _ => H5.out, fun h => by omega, hZ9.up (by omega)⟩
        case round =>
          clear hZ9 H5
          rename World => wJ
          obtain ⟨n, u, hn, rfl, hE, hF, hC⟩ := hrel
          by_cases hlt : n < 8
          · obtain ⟨v, hv1, hv2, hv3⟩ : ∃ v, u.clock 15 = (v, 15) ∧ (n + 1 < 8 → Er fa 4 (8 - ((n + 1 : Nat) : Int)) false v) ∧ (n + 1 = 8 → v.a = fin ∧ v.first = 0 ∧ v.second = 0) := by
              have hE' := hE.out hlt
              by_cases h7 : n = 7
              · subst h7
                obtain ⟨v, q1, q2, q3, q4⟩ := er_last2 (show Er fa 4 1 false u from hE') (by decide) 15
                exact ⟨v, q1, fun h => by omega, fun _ => ⟨by rw [q2]; exact HFIN.out, q3, q4⟩⟩
              · obtain ⟨v, q1, q2⟩ := er_wait hE' (by omega) 15
                exact ⟨v, q1, fun _ => by rw [show (8 : Int) - ((n + 1 : Nat) : Int) = 8 - (n : Int) - 1 by omega]; exact q2, fun h => by omega⟩
            have HV := Lib.hid (And.intro hv1 (And.intro hv2 hv3))
            clear hv1 hv2 hv3
            go_wp2_with (go_at_call 19; refine (c_clock hC 15 (by decide) (by omega) _ _ HV.out.1).mono ?_; rintro e wv ⟨rfl, hC2⟩)
            refine ⟨?rel, ?measure⟩
            case rel => exact ⟨n + 1, v, by omega, by go_num, HV.out.2.1, HV.out.2.2, hC2.up (by omega)⟩
            case measure => simp [intOf]; omega
          · obtain rfl : n = 8 := by omega
            have HX := Lib.hid (And.intro trivial (hF.out rfl))
            clear hE hF
            go_upto_region 30 with (first | (go_at_call 20; refine (c_status hC 0 0 HX.out.2.2.1 HX.out.2.2.2).mono ?_; rintro e wK ⟨rfl, hCK⟩) | (go_at_call 13; refine (c_cells hCK fin HX.out.2.1).mono ?_; rintro e wL ⟨rfl, rfl⟩))
            refine wp_region_upd_lit wK (Upd.refl none' wK) (by kernel_rfl) (by kernel_rfl) ?_
            repeat (go_big_quiet_step ((go_at_call 28; exact quiet_eq (num_any _ _))))
            refine wpQuiet_nil ?_
            rintro _ ⟨⟨wM, hUM⟩, rfl⟩
            go_wp2
            go_ret
            exact ⟨rfl, hCK.upd.trans hUM (fun _ _ f => f)⟩
      · clear hend
        go_upto_region 15 with (first | (go_at_call 18; refine (c_nextl hC0 [300] 1 rfl (by decide) (by decide) (by decide)).mono ?_; rintro e w2 ⟨rfl, hC3⟩) | (go_at_call 25; refine (c_select hC3 HSEL.out.2 _ rfl).mono ?_; rintro e w3 ⟨rfl, hC4⟩) | (go_at_call 19; refine (c_clock hC4 14 (by decide) (by omega) _ _ (Prod.eta _).symm).mono ?_; rintro e w4 ⟨rfl, hC5⟩))
        obtain ⟨q1, q2, q3, q4, q5⟩ := sel_clock (show Saf fa { t with busy := [300] } from ⟨HS.out.sel, HS.out.goes, HS.out.job, HS.out.prot, HS.out.quad, HS.out.a⟩)
        obtain ⟨T, M, hM, hT1, hT2, hT3, hT4, hZ⟩ : ∃ (T : St) (M : Int), M ≤ 600 ∧ T.job = none ∧ T.prot = false ∧ T.quad = false ∧ T.a = fa ∧ Ctx (ChipP b T M) .emp w w4 [] := ⟨(({ t with busy := [300] } : St).select.clock 14).1, 50 * (i : Int) + 1, by omega, q1, q2, q3, q4, hC5⟩
        clear hC0 hC3 hC4 hC5 HS HSEL q1 q2 q3 q4 q5
        obtain ⟨s1, s2, s3⟩ := pw_saf hT2 hT3 hT4
        obtain ⟨d1, d2, d3⟩ := sel_off s1 s2 s3
        obtain ⟨e1, e2, e3⟩ := saf_enable d1 d3
        have hr := saf_erase e1 e2 e3
        obtain ⟨y1, hy1⟩ := af_said T.pw.select.deselect (wordL [6])
        obtain ⟨y2, hy2⟩ := af_said (T.pw.select.deselect.af (wordL [6])) (wordL [32, 0, 8, 0])
        have hst := saf_first s1 s2
        obtain ⟨P1, hP1⟩ : ∃ P1, T.pw = P1 := ⟨_, rfl⟩
        rw [hP1] at hy1 hy2 hst hr s1 d1 e1
        obtain ⟨P2, hP2⟩ : ∃ P2, P1.select = P2 := ⟨_, rfl⟩
        have hsl := select_sel P1
        rw [hP2] at hy1 hy2 hr d1 e1 hsl
        obtain ⟨P3, hP3⟩ : ∃ P3, P2.deselect = P3 := ⟨_, rfl⟩
        rw [hP3] at hy1 hy2 hr d1 e1
        obtain ⟨P4, hP4⟩ : ∃ P4, P3.af (wordL [6]) = P4 := ⟨_, rfl⟩
        rw [hP4] at hy1 hy2 hr e1
        obtain ⟨P5, hP5⟩ : ∃ P5, P4.af (wordL [32, 0, 8, 0]) = P5 := ⟨_, rfl⟩
        rw [hP5] at hy2 hr
        have H1 := Lib.hid (And.intro hP1 (And.intro hP2 hP3))
        have H2 := Lib.hid (And.intro hy1 hy2)
        have H3 := Lib.hid (And.intro s1.sel (And.intro hsl (And.intro d1.sel e1.sel)))
        have H4 := Lib.hid hst
        have H5 := Lib.hid hr
        have HJT := Lib.hid (And.intro hT1 hT4)
        clear s1 s2 s3 d1 d2 d3 e1 e2 e3 hr hy1 hy2 hst hP1 hP2 hP3 hP4 hP5 hsl hT1 hT2 hT3 hT4
        go_upto_region 22 with (first | (go_at_call 27; refine (c_deselect hZ4 H3.out.2.1 (by omega) P3 H1.out.2.2).mono ?_; rintro e wE ⟨rfl, hZ5⟩) | (go_at_call 25; refine (c_select hZ3 H3.out.1 P2 H1.out.2.1).mono ?_; rintro e wD ⟨rfl, hZ4⟩) | (go_at_call 20; refine (c_status hZ2 0 0 H4.out.1 H4.out.2).mono ?_; rintro e wC ⟨rfl, hZ3⟩) | (go_at_call 26; refine (c_loss0 hZ mask HJT.out.1 P1 H1.out.1).mono ?_; rintro e wB ⟨rfl, hZ2⟩) | (go_at_call 13; refine (c_cells hZ fa HJT.out.2).mono ?_; rintro e wA ⟨rfl, rfl⟩))
        clear hZ hZ2 hZ3 hZ4
        go_upto_region 23 with (first | (go_at_call 16; refine (c_wordl hZ5 [6] 1 8 rfl rfl (by decide) (by decide)).mono ?_; rintro e wF ⟨a1, c1, rfl, hn1', hZ6⟩) | (go_at_call 14; refine (c_say hZ6 0 _ 8 _ (wordL [6]) rfl (by omega) H3.out.2.2.1 (word_in _) P4 _ H2.out.1).mono ?_; rintro e wG ⟨a2, c2, rfl, hn2', hZ7'⟩))
        have hZ7 := hZ7'.drop
        clear hZ5 hZ6 hZ7' hn1' hn2'
        go_upto_region 24 with (first | (go_at_call 16; refine (c_wordl hZ7 [32, 0, 8, 0] 4 32 rfl rfl (by decide) (by decide)).mono ?_; rintro e wH ⟨a3, c3, rfl, hn3', hZ8⟩) | (go_at_call 14; refine (c_say hZ8 0 _ 32 _ (wordL [32, 0, 8, 0]) rfl (by omega) H3.out.2.2.2 (word_in _) P5 _ H2.out.2).mono ?_; rintro e wI ⟨a4, c4, rfl, hn4', hZ9'⟩))
        have hZ9 := hZ9'.drop
        clear hZ7 hZ8 hZ9' hn3' hn4' H1 H2 H3 H4 HJT
        obtain ⟨fin, hfin⟩ : ∃ fin, eraseCut fa 4 all255 = fin := ⟨_, rfl⟩
        have hfs : fin.size = 4096 := by rw [← hfin]; unfold eraseCut; rw [turned_size]; exact hsz
        have hhalf : fin.extract 0 2048 = fa.extract 0 2048 := by rw [← hfin]; exact half_eq fa
        have HFIN := Lib.hid hfin
        clear hfin
        go_wp2_with fail
        go_loopw [16] (fun iv wr => ∃ (n : Nat) (u : St), n ≤ 8 ∧ iv = .int .i64 n ∧ Hid (n < 8 → Er fa 4 (8 - (n : Int)) false u) ∧ Hid (n = 8 → u.a = fin ∧ u.first = 0 ∧ u.second = 0) ∧ Ctx (ChipP b u (700 + (n : Int))) .emp w wr []) (fun iv _ => 8 - (intOf iv).toNat)
        case atStart => exact ⟨0, P5, by omega, rfl, fun _ => H5.out, fun h => by omega, hZ9.up (by omega)⟩
        case round =>
          clear hZ9 H5
          rename World => wJ
          obtain ⟨n, u, hn, rfl, hE, hF, hC⟩ := hrel
          by_cases hlt : n < 8
          · obtain ⟨v, hv1, hv2, hv3⟩ : ∃ v, u.clock 15 = (v, 15) ∧ (n + 1 < 8 → Er fa 4 (8 - ((n + 1 : Nat) : Int)) false v) ∧ (n + 1 = 8 → v.a = fin ∧ v.first = 0 ∧ v.second = 0) := by
              have hE' := hE.out hlt
              by_cases h7 : n = 7
              · subst h7
                obtain ⟨v, q1, q2, q3, q4⟩ := er_last2 (show Er fa 4 1 false u from hE') (by decide) 15
                exact ⟨v, q1, fun h => by omega, fun _ => ⟨by rw [q2]; exact HFIN.out, q3, q4⟩⟩
              · obtain ⟨v, q1, q2⟩ := er_wait hE' (by omega) 15
                exact ⟨v, q1, fun _ => by rw [show (8 : Int) - ((n + 1 : Nat) : Int) = 8 - (n : Int) - 1 by omega]; exact q2, fun h => by omega⟩
            have HV := Lib.hid (And.intro hv1 (And.intro hv2 hv3))
            clear hv1 hv2 hv3
            go_wp2_with (go_at_call 19; refine (c_clock hC 15 (by decide) (by omega) _ _ HV.out.1).mono ?_; rintro e wv ⟨rfl, hC2⟩)
            refine ⟨?rel, ?measure⟩
            case rel => exact ⟨n + 1, v, by omega, by go_num, HV.out.2.1, HV.out.2.2, hC2.up (by omega)⟩
            case measure => simp [intOf]; omega
          · obtain rfl : n = 8 := by omega
            have HX := Lib.hid (And.intro trivial (hF.out rfl))
            clear hE hF
            go_upto_region 30 with (first | (go_at_call 20; refine (c_status hC 0 0 HX.out.2.2.1 HX.out.2.2.2).mono ?_; rintro e wK ⟨rfl, hCK⟩) | (go_at_call 13; refine (c_cells hCK fin HX.out.2.1).mono ?_; rintro e wL ⟨rfl, rfl⟩))
            refine wp_region_upd_lit wK (Upd.refl none' wK) (by kernel_rfl) (by kernel_rfl) ?_
            repeat (go_big_quiet_step ((go_at_call 28; exact quiet_eq (num_any _ _))))
            refine wpQuiet_nil ?_
            rintro _ ⟨⟨wM, hUM⟩, rfl⟩
            go_wp2
            go_ret
            exact ⟨rfl, hCK.upd.trans hUM (fun _ _ f => f)⟩
end Go.Proofs.YtjdjdfllggpckaaGreat
