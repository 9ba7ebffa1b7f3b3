/- lichenlaw6.Chips. -/
import Derived.Test.YteombggfmeilaaaGreatAwake6
import Derived.Test.YteombggfmeilaaaGreatLendP
import Derived.Test.YteombggfmeilaaaGreatChipLo
import Derived.Test.YteombggfmeilaaaGreatRefNew
import Derived.Test.YteombggfmeilaaaGreatCtxDoC
import Derived.Test.YteombggfmeilaaaGreatBlank
import Derived.Test.YteombggfmeilaaaGreatWireF
import Derived.Deep.RegionHeld3
import Derived.Deep.CutBlock
import Derived.Test.YteombggfmeilaaaGreatQuietU
namespace Go.Proofs.YteombggfmeilaaaGreat
open Go.RowKit
/-- A chip and the document's chip in one state. -/
def Pair (b r : Nat) (w0 w : World) (rows : List (Value × List Value)) (n : Int) : Prop := ∃ (s : St) (N : Int), 0 ≤ N ∧ N ≤ n ∧ Ctx (ChipP b s N) (RefP r s N) w0 w rows
theorem Pair.mono {b r : Nat} {w0 w : World} {rows : List (Value × List Value)} {n m : Int} (h : Pair b r w0 w rows n) (hm : n ≤ m) : Pair b r w0 w rows m := by
  obtain ⟨s, N, h1, h2, h3⟩ := h
  exact ⟨s, N, h1, by omega, h3⟩
theorem pair_ctx6 {w0 w w' : World} {b r : Nat} {S : Nat → Prop} {v : Value} {fa : ByteArray} (h : Upd none' w0 w) (hU : Upd none' w w') (hsz : fa.size = 4096) (hA : ChipAt w' b (St.new fa) S) (hS : ∀ k, S k → w.heap.size ≤ k) (hR : RefNew w' r fa v) (hr : w.heap.size ≤ r ∧ ¬ S r) (hv : ∀ k, v.ownBlock = some k → w.heap.size ≤ k ∧ ¬ S k) :
    Ctx (ChipP b (St.new fa) 0) (RefP r (St.new fa) 0) w0 w' [] := by
  have hss : ∀ k, refSet r v (.slice none 0 0) (.slice none 0 0) k → w.heap.size ≤ k ∧ ¬ S k := by
    rintro k (e | e | e | e)
    · rw [e]; exact hr
    · exact hv k e
    · simp [Value.ownBlock] at e
    · simp [Value.ownBlock] at e
  refine ⟨chipP_ok _ _ _, refP_ok _ _ _, h.trans hU (fun _ _ f => f), fun k => S k ∨ refSet r v (.slice none 0 0) (.slice none 0 0) k, ⟨S, refSet r v (.slice none 0 0) (.slice none 0 0), ⟨hA, new_inv fa hsz⟩, ⟨RSt.new fa, ⟨v, .slice none 0 0, .slice none 0 0, ⟨hR.1, hR.2.1, Row.nil _ _, Row.nil _ _, hR.2.2, fun k hk => by simp [Value.ownBlock] at hk, fun k hk => by simp [Value.ownBlock] at hk⟩, fun k hk => by simp [Value.ownBlock] at hk, rfl⟩, new_rel fa, new_inv fa hsz, rinv_new fa⟩, fun k hs hq => (hss k hq).2 hs, fun _ => Iff.rfl⟩, ?_, fun r hr => by simp at hr⟩
  rintro k (hk | hk)
  · exact Nat.le_trans h.size (hS k hk)
  · exact Nat.le_trans h.size (hss k hk).1
theorem c_select_no {Q : Own} {w0 w : World} {b : Nat} {s : St} {N : Int} {rows : List (Value × List Value)} (hC : Ctx (ChipP b s N) Q w0 w rows) (hsel : s.sel = true) : Calls Tryz.prog 17 #[.pointer (some ⟨b, 0, none⟩)] w fun e w' => e = .returned (.int .i64 600) ∧ w = w' := by
  obtain ⟨S, ⟨A, B, hA, _⟩, _⟩ := hC.all
  exact chip_select_no b s A w hA.1 hsel
theorem c_deselect_no {Q : Own} {w0 w : World} {b : Nat} {s : St} {N : Int} {rows : List (Value × List Value)} (hC : Ctx (ChipP b s N) Q w0 w rows) (hsel : s.sel = false) : Calls Tryz.prog 19 #[.pointer (some ⟨b, 0, none⟩)] w fun e w' => e = .returned (.int .i64 600) ∧ w = w' := by
  obtain ⟨S, ⟨A, B, hA, _⟩, _⟩ := hC.all
  exact chip_deselect_no b s A w hA.1 hsel
set_option maxRecDepth 100000 in
set_option maxHeartbeats 8000000 in
theorem lawChips (w : World) (s : ByteArray) (hs : s.size ≤ 9223372036854775807) (da : Option Addr) (dl dc : Nat) (L : List (DoC × Value)) (rows : List (Value × List Value)) (hrows : ∀ r ∈ rows, RS w r.1 r.2 ∧ ∀ k, r.1.ownBlock = some k → k < w.heap.size) (hL : VDoC rows (.slice da dl dc) L) :
    Calls Tryz.prog 3 #[.string s, .slice da dl dc] w fun e w' => e = .returned (.bool true) ∧ Upd none' w w' := by
  obtain ⟨hdl, hdc⟩ : dl = L.length ∧ dl ≤ dc := by
    obtain ⟨a', cap', e, hc, _⟩ := hL
    simp only [Value.slice.injEq] at e
    obtain ⟨-, rfl, rfl⟩ := e
    exact ⟨rfl, hc⟩
  have hl44 := lenDoC hL
  rw [← hdl] at hl44
  have HROWS := Lib.hid hrows
  have HL := Lib.hid (And.intro hL hdl)
  clear hrows hL hdl
  have hbk := ref_blank w
  obtain ⟨bl, hbl⟩ : ∃ bl : ByteArray, bl = ⟨blankL.toArray⟩ := ⟨_, rfl⟩
  have hsz : bl.size = 4096 := by rw [hbl]; exact List.length_replicate
  have hdl : bl.data.toList = blankL := by rw [hbl]
  rw [← hbl] at hbk
  have HDL := Lib.hid hdl
  clear hbl hdl
  go_enter Tryz.func3, Tryz.ntmps3
  go_upto_block 0 with (go_at_call 13; refine hbk.mono ?_; rintro e w1 ⟨rfl, hU1⟩; have kc := Lib.run_convert_string_bytes (P := Tryz.prog) w1 9 23 5 bl Tryz.underlying9 Tryz.underlying23 Tryz.underlying5)
  have hBz := Buf.of_bytes w1 5 bl
  have hUz := hU1.trans (upd_bytes w1 5 bl) (fun _ _ f => f)
  have hs1 := hU1.size
  clear kc hbk hU1
  go_cut [6] (fun iv wx => Hid (∃ l : List UInt8, l = freshL s ∧ Buf wx w1.heap.size l 5 ∧ Upd none' w wx))
  case first => as_aux_lemma =>
    go_wp2_with fail
    go_loopw [6] (fun iv wr => ∃ (i : Nat) (l : List UInt8), i ≤ 4096 ∧ iv = .int .i64 i ∧ Upd none' w wr ∧ Buf wr w1.heap.size l 5 ∧ (s.size = 0 → i = 0) ∧ Hid (l = ((List.range 4096).map (freshAt s)).take i ++ blankL.drop i)) (fun iv _ => 4096 - (intOf iv).toNat)
    case atStart => exact ⟨0, _, by omega, rfl, hUz, hBz, fun _ => rfl, Lib.hid (by rw [HDL.out, List.take_zero, List.drop_zero, List.nil_append])⟩
    case round =>
      clear hBz hUz
      obtain ⟨i, l, hi, rfl, hU, hB, hs0, hl⟩ := hrel
      have hll : l.length = 4096 := by
        rw [hl.out, List.length_append, List.length_take, List.length_drop, List.length_map, List.length_range, show blankL.length = 4096 from List.length_replicate]
        omega
      by_cases hz : s.size = 0
      · have hi0 := hs0 hz
        subst hi0
        have hse : s = ⟨#[]⟩ := by
          obtain ⟨d⟩ := s
          simp only [ByteArray.size] at hz
          rw [Array.eq_empty_of_size_eq_zero hz]
        have hfin : l = freshL s := by
          rw [hl.out, List.take_zero, List.drop_zero, List.nil_append]
          unfold freshL
          rw [if_pos hz]
        have HF := Lib.hid (show ∃ l : List UInt8, l = freshL s ∧ Buf wr w1.heap.size l 5 ∧ Upd none' w wr from ⟨l, hfin, hB, hU⟩)
        clear hs0 hB hU hfin hl
        subst hse
        go_wp2_with fail
        go_meet
        exact HF
      · have hpos : 0 < s.size := by omega
        have hne := str_nonempty s hpos
        by_cases hlt : i < 4096
        · have hq : i % s.size < s.size := Nat.mod_lt _ hpos
          have hfa : freshAt s i = s[i % s.size] := by unfold freshAt; rw [str_at s _ hq]
          have hc := hB.cell (j := i) (by omega)
          have hf := hB.frozen (j := i) (by omega)
          have HB := Lib.hid (hB.set (j := i) (by omega) (freshAt s i))
          have HU := Lib.hid (hU.setCell ⟨w1.heap.size, i, none⟩ (.int .u8 (freshAt s i).toNat) (fun h => absurd h (by dsimp only; omega)))
          have HFA := Lib.hid hfa
          clear hB hU hfa hs0
          go_wp2
          refine ⟨⟨i + 1, _, by omega, by go_num, ?_, ?_, fun h => absurd h hz, Lib.hid (fresh_step s l i hlt hl.out)⟩, by simp [intOf]; omega⟩
          · have := HU.out
            rw [HFA.out] at this
            exact this
          · have := HB.out
            rw [HFA.out] at this ⊢
            exact this
        · have hieq : i = 4096 := by omega
          subst hieq
          have hfin : l = freshL s := by
            rw [hl.out]
            unfold freshL
            rw [if_neg hz, List.take_of_length_le (by rw [List.length_map, List.length_range]; exact Nat.le_refl _), List.drop_of_length_le (by rw [show blankL.length = 4096 from List.length_replicate]; exact Nat.le_refl _), List.append_nil]
          have HF := Lib.hid (show ∃ l : List UInt8, l = freshL s ∧ Buf wr w1.heap.size l 5 ∧ Upd none' w wr from ⟨l, hfin, hB, hU⟩)
          clear hs0 hB hU hfin hl
          go_wp2_with fail
          go_meet
          exact HF
  case rest =>
    obtain ⟨l, hfin, hB, hU⟩ := hcut.out
    have hll : l.length = 4096 := by rw [hfin]; exact freshL_len s
    clear hBz hUz hcut
    rename World => wr
    have hst := fun cap => run_string_buf hB 23 5 9 Tryz.underlying23 Tryz.underlying5 Tryz.underlying9 4096 cap hll
    have HN := Lib.hid (chip_new ⟨l.toArray⟩ wr (by simpa [ByteArray.size] using hll))
    have HRF := Lib.hid (fun w => ref_new ⟨l.toArray⟩ w (by simpa [ByteArray.size] using hll))
    have hB2 := fun w2 (u : Upd none' wr w2) cap => run_string_buf (hB.upd u (fun f => f)) 23 5 9 Tryz.underlying23 Tryz.underlying5 Tryz.underlying9 4096 cap hll
    have HB2 := Lib.hid hB2
    clear hB2
    have HU := Lib.hid hU
    have HL2 := Lib.hid hfin
    clear hB hU hfin
    go_upto_block 2 with (first | (go_at_call 15; refine (HRF.out _).mono ?_; rintro e w3 ⟨r, v, rfl, hr, hBr, hRv, hv, hU3⟩) | (go_at_call 14; refine HN.out.mono ?_; rintro e w2 ⟨b, S, rfl, hA, hS, hU2⟩; have hst2 := HB2.out _ hU2) | (go_at_call 16; refine (num_any _ _).mono ?_; rintro e w' ⟨rfl, rfl⟩))
    have hUA : Upd none' w w3 := (HU.out.trans hU2 (fun _ _ f => f)).trans hU3 (fun _ _ f => f)
    have hszz := HU.out.size
    have hsz2 := hU2.size
    have hlt := hA.lt
    have hfs : (⟨(freshL s).toArray⟩ : ByteArray).size = 4096 := by simpa [ByteArray.size] using freshL_len s
    have hpc := pair_ctx6 (Upd.refl none' w) hUA hfs (by rw [← HL2.out]; exact hA.upd hU3 (fun _ _ f => f)) (fun k hk => by have := hS k hk; omega) (by rw [← HL2.out]; exact (⟨hBr, hRv, fun k hk => (hv k hk).2⟩ : RefNew w3 r ⟨l.toArray⟩ v)) ⟨by omega, fun hs => by have := hlt r hs; omega⟩ (fun k hk => ⟨by have := (hv k hk).1; omega, fun hs => by have := hlt k hs; have := (hv k hk).1; omega⟩)
    have HP0 : Hid (Pair b r w w3 rows 0) := Lib.hid ⟨_, 0, Int.le_refl _, Int.le_refl _, by have := hpc.old HROWS.out; rwa [List.append_nil] at this⟩
    clear hpc hUA hA hS hBr hRv hv hU2 hU3 hlt hfs HU hszz hsz2 hst hst2 HN HRF HB2
    go_wp2_with fail
    go_loopw [11] (fun iv wr => ∃ i : Nat, i ≤ dl ∧ i ≤ 60 ∧ iv = .int .i64 (i : Int) ∧ Hid (Pair b r w wr rows (402 * (i : Int)))) (fun iv _ => 60 - (intOf iv).toNat)
    case atStart => exact ⟨0, Nat.zero_le _, Nat.zero_le _, rfl, HP0⟩
    case round =>
      clear HP0
      rename World => W2
      obtain ⟨i, hi, hi60, rfl, hP⟩ := hrel
      by_cases hlt : i < dl ∧ i < 60
      · obtain ⟨hlt1, hlt2⟩ := hlt
        obtain ⟨s', N, hN0, hN, hC⟩ := hP.out
        have hiL : i < L.length := by rw [← HL.out.2]; exact hlt1
        obtain ⟨-, -, g, o, rfl, hg, -, c0, c1, c2⟩ := cellsDoC_at hC HL.out.1 i hiL
        obtain ⟨xa, xc, ex, hxn, hxr, hxm, hxl, hkw, hml⟩ := intsDoC HL.out.1 i hiL
        rw [ex] at c1
        obtain ⟨kd, hkd⟩ : ∃ kd, L[i].1.f0 = kd := ⟨_, rfl⟩
        obtain ⟨xs, hxs⟩ : ∃ xs, L[i].1.f1 = xs := ⟨_, rfl⟩
        obtain ⟨mk, hmk⟩ : ∃ mk, L[i].1.f2 = mk := ⟨_, rfl⟩
        rw [hkd] at c0
        rw [hmk] at c2 hml
        rw [hxs] at c1 hxr hxm hxl
        obtain ⟨xn, hxnl⟩ : ∃ xn, xs.length = xn := ⟨_, rfl⟩
        rw [hxnl] at c1 hxr hxm hxl
        have HXR : Hid (∀ (P Q : Own) (w1 : World) (rows1 : List (Value × List Value)), (∀ r ∈ rows, r ∈ rows1) → Ctx P Q w w1 rows1 → RS w1 (.slice xa xn xc) (ints xs)) := Lib.hid (fun P Q w1 rows1 hs h => hxr (h.sub hs))
        have HC := Lib.hid hC
        clear hxr hkw ex hkd hxs hmk hC hP
        go_upto_block 4 with fail
        have hlit := HC.out.lit [.int .i64 kd, .slice xa xn xc, .string mk] 35 3 rfl (by decide)
        clear c0 c1 c2
        obtain ⟨gd, hgd⟩ : ∃ gd, W2.heap.size = gd := ⟨_, rfl⟩
        rw [hgd] at hlit ⊢
        have HLIT := Lib.hid hlit
        generalize hW3 : W2.alloc (.cells #[.int .i64 kd, .slice xa xn xc, .string mk] 35) = W3 at *
        clear hlit hW3 hgd HC
        have HCE : Hid (∀ (P Q : Own) (w1 : World) (rows1 : List (Value × List Value)), (.slice (some ⟨gd, 0, none⟩) 3 3, [.int .i64 kd, .slice xa xn xc, .string mk]) ∈ rows1 → Ctx P Q w w1 rows1 → w1.cell? ⟨gd, 0, none⟩ = some (.int .i64 kd) ∧ w1.cell? ⟨gd, 1, none⟩ = some (.slice xa xn xc) ∧ w1.cell? ⟨gd, 2, none⟩ = some (.string mk)) := Lib.hid (fun P Q w1 rows1 hm h => by
          obtain ⟨g', o', e, -, hc⟩ := (h.rs_mem hm).cells (by decide)
          simp only [Option.some.injEq, Addr.mk.injEq, and_true] at e
          obtain ⟨rfl, rfl⟩ := e
          have q0 := hc 0 (by decide)
          have q1 := hc 1 (by decide)
          have q2 := hc 2 (by decide)
          simp only [List.getElem?_cons_succ, List.getElem?_cons_zero, Nat.zero_add] at q0 q1 q2
          exact ⟨q0, q1, q2⟩)
        obtain ⟨k0, k1, k2⟩ := HCE.out _ _ _ _ List.mem_cons_self HLIT.out
        have hN2 : N ≤ 402 * (i : Int) := hN
        have HI := Lib.hid (show 0 ≤ N ∧ N ≤ 402 * (i : Int) ∧ i < 60 from ⟨hN0, hN, hlt2⟩)
        clear hN hN2 hN0
        go_cut [13, 14, 15, 16, 17, 18] from 70 to 221 (fun s13 s14 s15 s16 s17 s18 wx => Hid (Pair b r w wx rows (402 * (i : Int) + 401)))
        case first => as_aux_lemma =>
          by_cases hk0 : kd = 0
          · subst hk0
            cases hsel : s'.sel with
            | false => as_aux_lemma =>
              have HS := Lib.hid (c_select HLIT.out hsel _ rfl)
              have HSE := Lib.hid hsel
              clear hsel
              go_wp2_with (first | (go_at_call 18; refine HS2.out.mono ?_; rintro e w5 ⟨rfl, hR5⟩) | (go_at_call 17; refine HS.out.mono ?_; rintro e w4 ⟨rfl, hR4⟩; have HS2 := Lib.hid (c_rselect hR4.commQ HSE.out _ rfl); clear hR4) | (go_at_call 16; refine (num_any _ _).mono ?_; rintro e w' ⟨rfl, rfl⟩))
              go_meet
              exact Lib.hid ⟨_, N, HI.out.1, by have := HI.out.2.1; omega, hR5.commQ.tl⟩
            | true => as_aux_lemma =>
              have HS := Lib.hid (c_select_no HLIT.out hsel)
              have HS2 := Lib.hid (c_rselect_no HLIT.out.commQ hsel)
              clear hsel
              go_wp2_with (first | (go_at_call 18; refine HS2.out.mono ?_; rintro e w5 ⟨rfl, rfl⟩) | (go_at_call 17; refine HS.out.mono ?_; rintro e w4 ⟨rfl, rfl⟩) | (go_at_call 16; refine (num_any _ _).mono ?_; rintro e w' ⟨rfl, rfl⟩))
              go_meet
              exact Lib.hid ⟨_, N, HI.out.1, by have := HI.out.2.1; omega, HLIT.out.tl⟩
          · have hb0 : (kd == 0) = false := by simpa using hk0
            clear hk0
            by_cases hk1 : kd = 1
            · subst hk1
              clear hb0
              cases hsel : s'.sel with
              | true => as_aux_lemma =>
                have HS := Lib.hid (c_deselect HLIT.out hsel (by have := HI.out; omega) _ rfl)
                have HSE := Lib.hid hsel
                clear hsel
                go_wp2_with (first | (go_at_call 20; refine HS2.out.mono ?_; rintro e w5 ⟨rfl, hR5⟩) | (go_at_call 19; refine HS.out.mono ?_; rintro e w4 ⟨rfl, hR4⟩; have HS2 := Lib.hid (c_rdeselect hR4.commQ HSE.out (by have := HI.out; omega) _ rfl); clear hR4) | (go_at_call 16; refine (num_any _ _).mono ?_; rintro e w' ⟨rfl, rfl⟩))
                go_meet
                exact Lib.hid ⟨_, N + 1, by have := HI.out.1; omega, by have := HI.out.2.1; omega, hR5.commQ.tl⟩
              | false => as_aux_lemma =>
                have HS := Lib.hid (c_deselect_no HLIT.out hsel)
                have HS2 := Lib.hid (c_rdeselect_no HLIT.out.commQ hsel)
                clear hsel
                go_wp2_with (first | (go_at_call 20; refine HS2.out.mono ?_; rintro e w5 ⟨rfl, rfl⟩) | (go_at_call 19; refine HS.out.mono ?_; rintro e w4 ⟨rfl, rfl⟩) | (go_at_call 16; refine (num_any _ _).mono ?_; rintro e w' ⟨rfl, rfl⟩))
                go_meet
                exact Lib.hid ⟨_, N, HI.out.1, by have := HI.out.2.1; omega, HLIT.out.tl⟩
            · have hb1 : (kd == 1) = false := by simpa using hk1
              clear hk1
              by_cases hk2 : kd = 2
              · as_aux_lemma =>
                subst hk2
                clear hb0 hb1
                have HP1 : Hid (∃ (s2 : St) (N2 : Int), 0 ≤ N2 ∧ N2 ≤ 402 * (i : Int) + ((0 : Nat) : Int) ∧ Ctx (ChipP b s2 N2) (RefP r s2 N2) w W3 ((.slice (some ⟨gd, 0, none⟩) 3 3, [.int .i64 2, .slice xa xn xc, .string mk]) :: rows)) := Lib.hid ⟨s', N, HI.out.1, by have := HI.out.2.1; omega, HLIT.out⟩
                clear k0 k1 k2 HLIT
                go_wp2_with fail
                have hd60 : decide ((i : Int) < 60) = true := by have := HI.out.2.2; simp; omega
                simp only [hd60]
                clear hd60
                go_loopw [13] (fun jv wr => ∃ j : Nat, j ≤ xn ∧ j ≤ 400 ∧ jv = .int .i64 (j : Int) ∧ Hid (∃ (s2 : St) (N2 : Int), 0 ≤ N2 ∧ N2 ≤ 402 * (i : Int) + (j : Int) ∧ Ctx (ChipP b s2 N2) (RefP r s2 N2) w wr ((.slice (some ⟨gd, 0, none⟩) 3 3, [.int .i64 2, .slice xa xn xc, .string mk]) :: rows))) (fun jv _ => 400 - (intOf jv).toNat)
                case atStart => exact ⟨0, Nat.zero_le _, Nat.zero_le _, rfl, HP1⟩
                case round =>
                  clear HP1
                  rename World => W4
                  obtain ⟨j, hj, hj4, rfl, hH⟩ := hrel
                  obtain ⟨s2, N2, hn0, hn1, hC⟩ := hH.out
                  obtain ⟨-, k1, -⟩ := HCE.out _ _ _ _ List.mem_cons_self hC
                  by_cases hjlt : j < xn ∧ j < 400
                  · obtain ⟨hj1, hj2⟩ := hjlt
                    have hrs := HXR.out _ _ _ _ (fun r hr => List.mem_cons_of_mem _ hr) hC
                    obtain ⟨gx, ox, rfl, hgx, hcc⟩ := hrs.cells (by omega)
                    obtain ⟨x, hx⟩ : ∃ x, xs.getD j 0 = x := ⟨_, rfl⟩
                    have HXC : Hid (∀ (P Q : Own) (w1 : World) (rows1 : List (Value × List Value)), (∀ r ∈ rows, r ∈ rows1) → Ctx P Q w w1 rows1 → w1.cell? ⟨gx, ox + j, none⟩ = some (.int .i64 x)) := Lib.hid (fun P Q w1 rows1 hs h => by
                      obtain ⟨g', o', e, -, hc⟩ := (HXR.out _ _ _ _ hs h).cells (by omega)
                      simp only [Option.some.injEq, Addr.mk.injEq, and_true] at e
                      obtain ⟨rfl, rfl⟩ := e
                      rw [hc j hj1, ints_at _ _ (by omega), hx])
                    have hxc := HXC.out _ _ _ _ (fun r hr => List.mem_cons_of_mem _ hr) hC
                    have HJ := Lib.hid (And.intro hn0 hn1)
                    by_cases hxr : 0 ≤ x ∧ x ≤ 15
                    · as_aux_lemma =>
                      obtain ⟨⟨t, y⟩, ht⟩ : ∃ r, s2.clock x = r := ⟨_, rfl⟩
                      have HS := Lib.hid (c_clock hC x hxr (by have := HI.out; omega) t y ht)
                      have HT := Lib.hid (And.intro hxr ht)
                      clear hcc hrs hgx hx hH hC hn0 hn1 ht hxr
                      go_upto_region 30 with (first | (go_at_call 22; refine HS2.out.mono ?_; rintro e w6 ⟨rfl, hR6⟩) | (go_at_call 21; refine HS.out.mono ?_; rintro e w5 ⟨rfl, hR5⟩; have HS2 := Lib.hid (c_rclock hR5.commQ x HT.out.1 (by have := HI.out; have := HJ.out; omega) t y HT.out.2); obtain ⟨-, k5, -⟩ := HCE.out _ _ _ _ List.mem_cons_self hR5; have hxc5 := HXC.out _ _ _ _ (fun r hr => List.mem_cons_of_mem _ hr) hR5; clear hR5))
                      have HR6 := Lib.hid hR6.commQ
                      clear hR6 HS HS2 k1 hxc
                      go_wp2_with (go_at_call 16; refine (num_any _ _).mono ?_; rintro e w' ⟨rfl, rfl⟩)
                      refine ⟨?rel, ?measure⟩
                      case rel => exact ⟨j + 1, by omega, by omega, by go_num, Lib.hid ⟨t, N2 + 1, by have := HJ.out; omega, by have := HJ.out; omega, HR6.out⟩⟩
                      case measure => simp [intOf]; omega
                    · as_aux_lemma =>
                      have HS := Lib.hid (fun W => chip_clock_bad b x W (by omega))
                      have HS2 := Lib.hid (fun W => c_rclock_bad r x W (by omega))
                      have HC4 := Lib.hid hC
                      clear hcc hrs hgx hx hH hC hn0 hn1 hxr
                      go_upto_region 30 with (first | (go_at_call 22; refine (HS2.out _).mono ?_; rintro e w6 ⟨rfl, rfl⟩) | (go_at_call 21; refine (HS.out _).mono ?_; rintro e w5 ⟨rfl, rfl⟩))
                      clear k1 hxc
                      go_wp2_with (go_at_call 16; refine (num_any _ _).mono ?_; rintro e w' ⟨rfl, rfl⟩)
                      refine ⟨?rel, ?measure⟩
                      case rel => exact ⟨j + 1, by omega, by omega, by go_num, Lib.hid ⟨s2, N2, by have := HJ.out; omega, by have := HJ.out; omega, HC4.out⟩⟩
                      case measure => simp [intOf]; omega
                  · have HC4 := Lib.hid hC
                    have HJ := Lib.hid (And.intro hn0 hn1)
                    clear hC hH hn0 hn1
                    by_cases hj1 : j < xn
                    · have hj2 : ¬ j < 400 := fun h => hjlt ⟨hj1, h⟩
                      clear hjlt
                      go_wp2
                      go_meet
                      exact Lib.hid ⟨s2, N2, HJ.out.1, by have := HJ.out.2; omega, HC4.out.tl⟩
                    · clear hjlt
                      go_wp2
                      go_meet
                      exact Lib.hid ⟨s2, N2, HJ.out.1, by have := HJ.out.2; omega, HC4.out.tl⟩
              · have hb2 : (kd == 2) = false := by simpa using hk2
                clear hk2
                by_cases hk3 : kd = 3
                · as_aux_lemma =>
                  subst hk3
                  clear hb0 hb1 hb2
                  have HLE := Lib.hid (lend_ints W3 xa xn xc xs (HXR.out _ _ _ _ (fun r hr => List.mem_cons_of_mem _ hr) HLIT.out) hxn)
                  go_upto_region 34 with (go_at_call 23; refine HLE.out.mono ?_; rintro e w4 ⟨gl, lc, rfl, hlc, hlr, hlr2, hlm, hlg, hll4, hlU⟩)
                  have hr4 := (HLIT.out.newRow hlU hlr (fun q hq => by simp only [Value.ownBlock, Option.some.injEq] at hq; subst hq; exact ⟨hlg, hll4⟩) hlm).twin hlr2 rfl
                  have hbe := HLIT.out.below
                  have HBE := Lib.hid (And.intro hbe (And.intro hlg (And.intro HLIT.out.upd.size hlc)))
                  obtain ⟨-, k1, -⟩ := HCE.out _ _ _ _ (List.mem_cons_of_mem _ (List.mem_cons_of_mem _ List.mem_cons_self)) hr4
                  have HR4 := Lib.hid hr4
                  have HNX : Hid (∀ W, Upd none' w4 W → Calls Tryz.prog 24 #[.pointer (some ⟨b, 0, none⟩), .slice (some ⟨gl, 0, none⟩) xn lc] W fun e w' => e = .returned (.int .i64 (nextE xs)) ∧ Ctx (ChipP b (s'.nexts xs) N) (RefP r s' N) w w' ((.slice (some ⟨gl, 0, none⟩) xn lc, ints xs) :: (.slice (some ⟨gl, xn, none⟩) 2 (lc - xn), ints [-7777, -8888]) :: (.slice (some ⟨gd, 0, none⟩) 3 3, [.int .i64 3, .slice xa xn xc, .string mk]) :: rows)) := Lib.hid (fun W u => by
                    have h := HR4.out.frame u
                    exact c_nexts h _ _ _ xs (h.rs 0 rfl) (fun e => by cases e))
                  clear hlr hlr2 hlm hlU hr4 hbe hlc HLE k0 k2
                  go_region_held3 (fun w' => w'.cell? ⟨gd, 1, none⟩ = some (.slice xa xn xc)) (first | exact k1 | exact d1 | exact f1 | exact m1) (first | (go_at_call 26; refine HKE.out.mono ?_; rintro e w7 ⟨rfl, hU7⟩; have HR7 := Lib.hid (HR6.out.frame hU7); obtain ⟨-, m1, -⟩ := HCE.out _ _ _ _ (List.mem_cons_of_mem _ (List.mem_cons_of_mem _ List.mem_cons_self)) HR7.out) | (go_at_call 25; refine HRN.out.mono ?_; rintro e w6 ⟨rfl, hR6⟩; obtain ⟨-, f1, -⟩ := HCE.out _ _ _ _ (List.mem_cons_of_mem _ (List.mem_cons_of_mem _ List.mem_cons_self)) hR6; have HR6 := Lib.hid hR6; have HKE := Lib.hid (kept_ints w6 gl xn lc xs (.slice xa xn xc) (hR6.rs 0 rfl) (hR6.rs 1 rfl) HBE.out.2.2.2 (HXR.out _ _ _ _ (fun r hr => List.mem_cons_of_mem _ (List.mem_cons_of_mem _ (List.mem_cons_of_mem _ hr))) hR6)); clear hR6) | (go_at_call 24; refine (HNX.out _ (Upd.refl none' w4).drew).mono ?_; rintro e w5 ⟨rfl, hR5⟩; obtain ⟨-, d1, -⟩ := HCE.out _ _ _ _ (List.mem_cons_of_mem _ (List.mem_cons_of_mem _ List.mem_cons_self)) hR5; have HRN := Lib.hid (c_rnexts hR5.commQ xa xn xc xs (HXR.out _ _ _ _ (fun r hr => List.mem_cons_of_mem _ (List.mem_cons_of_mem _ (List.mem_cons_of_mem _ hr))) hR5) hxn); clear hR5) | (go_at_call 16; refine (num_any _ _).mono ?_; rintro e w' ⟨rfl, rfl⟩))
                  have HSP := Lib.hid (c_spoil (HR7.out.sub (rows' := (.slice (some ⟨gl, 0, none⟩) xn lc, ints xs) :: (.slice (some ⟨gd, 0, none⟩) 3 3, [.int .i64 3, .slice xa xn xc, .string mk]) :: rows) (fun r hr => by
                    rcases List.mem_cons.1 hr with h | h
                    · exact List.mem_cons.2 (.inl h)
                    · exact List.mem_cons_of_mem _ (List.mem_cons_of_mem _ h))) (fun q hq => by simp only [Value.ownBlock, Option.some.injEq] at hq; have := HBE.out.2; omega) (fun r hr q hq e => by simp only [Value.ownBlock, Option.some.injEq] at e; have := HBE.out.1 r hr q hq; have := HBE.out.2.1; omega))
                  clear HNX HR4
                  go_wp2_with (go_at_call 27; refine HSP.out.mono ?_; rintro e w8 ⟨rfl, hR8⟩)
                  go_meet
                  exact Lib.hid ⟨s'.nexts xs, N, HI.out.1, by have := HI.out.2.1; omega, hR8.commQ.tl⟩
                · as_aux_lemma =>
                  have hb3 : (kd == 3) = false := by simpa using hk3
                  clear hk3
                  have HS := Lib.hid (c_loss HLIT.out mk hml _ rfl)
                  have HIV : Hid (s'.InvW N) := Lib.hid (by
                    obtain ⟨S, hS, _⟩ := HLIT.out.get1
                    exact hS.2)
                  go_wp2_with (first | (go_at_call 29; refine HS2.out.mono ?_; rintro e w5 ⟨rfl, hR5⟩) | (go_at_call 28; refine HS.out.mono ?_; rintro e w4 ⟨rfl, hR4⟩; obtain ⟨d0, d1, d2⟩ := HCE.out _ _ _ _ List.mem_cons_self hR4; have HS2 := Lib.hid (c_rloss hR4.commQ mk hml _ rfl (loss_inv HIV.out mk)); clear hR4 k0 k1 k2) | (go_at_call 16; refine (num_any _ _).mono ?_; rintro e w' ⟨rfl, rfl⟩))
                  go_meet
                  exact Lib.hid ⟨_, N, HI.out.1, by have := HI.out.2.1; omega, hR5.commQ.tl⟩
        case rest => as_aux_lemma =>
          obtain ⟨s2, N2, h0, h1, hC⟩ := hcut.out
          clear k0 k1 k2 HLIT HCE HXR hcut
          have HI2 := Lib.hid (And.intro h0 h1)
          have HST := Lib.hid (c_status hC _ _ rfl rfl)
          clear h0 h1 hC
          go_upto_region 38 with (go_at_call 30; refine HST.out.mono ?_; rintro e w4 ⟨rfl, hR4⟩)
          have HR4 := Lib.hid hR4
          have HRST := Lib.hid (c_rstatus hR4.commQ)
          clear hR4 HST
          go_upto_region 39 with (go_at_call 31; refine HRST.out.mono ?_; rintro e w5 ⟨rfl, hU5⟩)
          have HR5 := Lib.hid (HR4.out.frame hU5)
          have HWI := Lib.hid (c_wipesN HR5.out)
          clear hU5 HR4 HRST
          go_upto_region 40 with (go_at_call 32; refine HWI.out.mono ?_; rintro e w6 ⟨wa, wc, rfl, hwn, hwd, hR6⟩)
          have HR6 := Lib.hid hR6
          have HWN := Lib.hid (And.intro hwn hwd)
          obtain ⟨hrl, c0, oa, oc, c3, hwr⟩ := c_rfields hR6.commQ
          have k0 : ∀ p : Uw w6, p.it.cell? ⟨r, 0, none⟩ = some (.string s2.a) := fun p => (p.u.cell (p := ⟨r, 0, none⟩) hrl (fun f => f)).trans c0
          have k3 : ∀ p : Uw w6, p.it.cell? ⟨r, 3, none⟩ = some (.slice oa 8 oc) := fun p => (p.u.cell (p := ⟨r, 3, none⟩) hrl (fun f => f)).trans c3
          have QS := fun p : Uw w6 => Uw.calls (p := p) (by
            have := same_ints p.it _ _ s2.wipesL s2.wipesL ((hR6.frame p.u).rs 0 rfl) (hwr.upd p.u (fun _ _ _ f => f))
            rw [show sameB s2.wipesL s2.wipesL = true from decide_eq_true rfl] at this
            exact this)
          have QC := fun p : Uw w6 => Uw.same (p := p) (c_cells (hR6.frame p.u) _ rfl)
          clear hR6 hwn hwd hwr hrl HWI HR5 c0 c3
          generalize s2.first = sp at *
          generalize s2.second = sq at *
          have hi7 := i64_and7 (i : Int)
          obtain ⟨z7, hz7⟩ : ∃ z, (i : Int) % 8 = z := ⟨_, rfl⟩
          rw [hz7] at hi7
          clear hz7
          obtain ⟨sa, hsa⟩ : ∃ sa, s2.a = sa := ⟨_, rfl⟩
          rw [hsa] at QC
          simp only [hsa] at k0
          clear hsa
          by_cases h7 : z7 = 7
          · as_aux_lemma =>
            subst h7
            refine wp_region_quiet_upd (by kernel_rfl) (by kernel_rfl) ?_
            repeat (with_reducible refine wpQuiet_step (fun K hK => ?_); go_simp; first | (refine hK _ ?_; clear hK K) | (apply Exists.intro; refine ⟨fun _ => ?_, hK _ ?_⟩; (first | exact QS _ | exact QC _); clear hK K))
            refine wpQuiet_nil ?_
            rintro w7 ⟨q, hq⟩
            have HU7 : Upd none' w6 w7 := hq ▸ q.u
            have HSP := Lib.hid (c_spoil (HR6.out.frame HU7) HWN.out.1 HWN.out.2)
            clear QS QC k0 k3 hq
            go_wp2_with (go_at_call 27; refine HSP.out.mono ?_; rintro e w8 ⟨rfl, hR8⟩)
            refine ⟨?rel, ?measure⟩
            case rel => exact ⟨i + 1, by omega, by omega, by go_num, Lib.hid ⟨s2, N2, HI2.out.1, by have := HI2.out.2; omega, hR8⟩⟩
            case measure => simp [intOf]; omega
          · as_aux_lemma =>
            have hn7 : (z7 == 7) = false := by simpa using h7
            refine wp_region_quiet_upd (by kernel_rfl) (by kernel_rfl) ?_
            repeat (with_reducible refine wpQuiet_step (fun K hK => ?_); go_simp; first | (refine hK _ ?_; clear hK K) | (apply Exists.intro; refine ⟨fun _ => ?_, hK _ ?_⟩; (first | exact QS _ | exact QC _); clear hK K))
            refine wpQuiet_nil ?_
            rintro w7 ⟨q, hq⟩
            have HU7 : Upd none' w6 w7 := hq ▸ q.u
            have HSP := Lib.hid (c_spoil (HR6.out.frame HU7) HWN.out.1 HWN.out.2)
            clear QS QC k0 k3 hq
            go_wp2_with (go_at_call 27; refine HSP.out.mono ?_; rintro e w8 ⟨rfl, hR8⟩)
            refine ⟨?rel, ?measure⟩
            case rel => exact ⟨i + 1, by omega, by omega, by go_num, Lib.hid ⟨s2, N2, HI2.out.1, by have := HI2.out.2; omega, hR8⟩⟩
            case measure => simp [intOf]; omega
      · obtain ⟨s', N, hN0, hN, hC⟩ := hP.out
        obtain ⟨hrl, c0, oa, oc, c3, -⟩ := c_rfields hC.commQ
        have HF : Hid (∀ w', Upd none' W2 w' → w'.cell? ⟨r, 0, none⟩ = some (.string s'.a)) := Lib.hid (fun w' u => (u.cell (p := ⟨r, 0, none⟩) hrl (fun f => f)).trans c0)
        have HCL : Hid (∀ w', Upd none' W2 w' → Calls Tryz.prog 34 #[.pointer (some ⟨b, 0, none⟩)] w' fun e w'' => e = .returned (.string s'.a) ∧ w' = w'') := Lib.hid (fun w' u => c_cells (hC.frame u) _ rfl)
        have HU2 := Lib.hid hC.upd
        obtain ⟨sa, hsa⟩ : ∃ sa, s'.a = sa := ⟨_, rfl⟩
        rw [hsa] at HF HCL c0
        clear hsa hC hP hN0 hN hrl c3
        have HNO : Hid (¬ (i < dl ∧ i < 60)) := Lib.hid hlt
        clear hlt
        by_cases hi1 : i < dl
        · as_aux_lemma =>
          have hi2 : ¬ i < 60 := fun h => HNO.out ⟨hi1, h⟩
          go_upto_region 43 with fail
          go_region_held3 (fun w' => w'.cell? ⟨r, 0, none⟩ = some (.string sa)) (first | exact c0 | exact d0) (first | (go_at_call 35; refine (awake6 _).mono ?_; rintro e w4 ⟨rfl, hU4⟩; have d0 := HF.out _ ((Upd.refl none' W2).drew.trans hU4 (fun _ _ f => f))) | (go_at_call 34; refine (HCL.out _ (Upd.refl none' W2).drew).mono ?_; rintro e w' ⟨rfl, rfl⟩))
          go_wp2
          go_ret
          exact ⟨rfl, HU2.out.trans ((Upd.refl none' W2).drew.trans hU4 (fun _ _ f => f)) (fun _ _ f => f)⟩
        · as_aux_lemma =>
          skip
          go_upto_region 43 with fail
          go_region_held3 (fun w' => w'.cell? ⟨r, 0, none⟩ = some (.string sa)) (first | exact c0 | exact d0) (first | (go_at_call 35; refine (awake6 _).mono ?_; rintro e w4 ⟨rfl, hU4⟩; have d0 := HF.out _ ((Upd.refl none' W2).drew.trans hU4 (fun _ _ f => f))) | (go_at_call 34; refine (HCL.out _ (Upd.refl none' W2).drew).mono ?_; rintro e w' ⟨rfl, rfl⟩))
          go_wp2
          go_ret
          exact ⟨rfl, HU2.out.trans ((Upd.refl none' W2).drew.trans hU4 (fun _ _ f => f)) (fun _ _ f => f)⟩
end Go.Proofs.YteombggfmeilaaaGreat
