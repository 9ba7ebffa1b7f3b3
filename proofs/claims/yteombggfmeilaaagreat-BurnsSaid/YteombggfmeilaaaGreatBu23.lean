/- MacB MacD Both -/
import Derived.Test.YteombggfmeilaaaGreatBu22
import Derived.Test.YteombggfmeilaaaGreatBu13
/- MacB. -/
namespace Go.Proofs.YteombggfmeilaaaGreat
open Go.RowKit
theorem go_none (m : Mac) (c at_ : Int) (data : List Int) (hr : phsReads (cmdPhs (opOf c) at_ data 0) = 0) : ∃ m1, m.go c at_ data 0 = (m1, 0, []) ∨ m.go c at_ data 0 = (m1, 1101, []) := by
  rcases go_code m c at_ data 0 with ⟨h1, h2⟩ | ⟨h1, h2⟩
  · rw [hr] at h2
    exact ⟨_, .inl (Prod.ext rfl (Prod.ext h1 (List.eq_nil_of_length_eq_zero h2)))⟩
  · exact ⟨_, .inr (Prod.ext rfl (Prod.ext h1 h2))⟩
def Mac.page (m : Mac) (at_ : Int) (bs : List Int) : Mac × Int :=
  if (m.go 6 0 [] 0).2.1 = 1101 then ((m.go 6 0 [] 0).1, 1101)
  else if ((m.go 6 0 [] 0).1.go 2 at_ bs 0).2.1 = 1101 then (((m.go 6 0 [] 0).1.go 2 at_ bs 0).1, 1101)
  else ((((m.go 6 0 [] 0).1.go 2 at_ bs 0).1.waits 256 1).1, (((m.go 6 0 [] 0).1.go 2 at_ bs 0).1.waits 256 1).2.2)
theorem page_a {m m1 : Mac} {at_ : Int} {bs : List Int} (h : m.go 6 0 [] 0 = (m1, 1101, [])) : m.page at_ bs = (m1, 1101) := by
  unfold Mac.page
  rw [h, if_pos rfl]
theorem page_b {m m1 m2 : Mac} {at_ : Int} {bs : List Int} (h : m.go 6 0 [] 0 = (m1, 0, [])) (h2 : m1.go 2 at_ bs 0 = (m2, 1101, [])) : m.page at_ bs = (m2, 1101) := by
  unfold Mac.page
  rw [h, if_neg (show ¬ ((0 : Int) = 1101) by decide), h2, if_pos rfl]
theorem page_c {m m1 m2 : Mac} {at_ : Int} {bs : List Int} (h : m.go 6 0 [] 0 = (m1, 0, [])) (h2 : m1.go 2 at_ bs 0 = (m2, 0, [])) : m.page at_ bs = ((m2.waits 256 1).1, (m2.waits 256 1).2.2) := by
  unfold Mac.page
  rw [h, if_neg (show ¬ ((0 : Int) = 1101) by decide), h2, if_neg (show ¬ ((0 : Int) = 1101) by decide)]
theorem prog_may (p : Int) (hk : 0 ≤ p ∧ p < 4096) (bs : List Int) (hb : ∀ x ∈ bs, 0 ≤ x ∧ x ≤ 255) (hl : bs.length ≤ 512) : cmdMay (opOf 2) p bs 0 = true := by
  have hby : bs.all byteB = true := by
    rw [List.all_eq_true]
    intro x hx
    have := hb x hx
    simp [byteB]
    omega
  have e : opOf 2 = ⟨2, 1, false, 0, 1, true⟩ := by kernel_rfl
  rw [e]
  unfold cmdMay fitsB
  rw [hby]
  simp
  omega
theorem prog_reads (p : Int) (bs : List Int) (hb : bs ≠ []) : phsReads (cmdPhs (opOf 2) p bs 0) = 0 := by
  rw [prog_phs p bs hb]
  rfl
theorem en_may : cmdMay (opOf 6) 0 [] 0 = true := by kernel_rfl
theorem en_many : phsMany (cmdPhs (opOf 6) 0 [] 0) = 8 := by kernel_rfl
theorem en_reads : phsReads (cmdPhs (opOf 6) 0 [] 0) = 0 := by kernel_rfl
def Mac.burns (m : Mac) : List Nat → Nat → List UInt8 → Mac × Int
  | [], _, _ => (m, 0)
  | z :: L, a, bs =>
    if (m.page (a : Int) (toI (bs.take z))).2 = 0 then (m.page (a : Int) (toI (bs.take z))).1.burns L (a + z) (bs.drop z)
    else m.page (a : Int) (toI (bs.take z))
theorem burns_on {m m1 : Mac} {z a : Nat} {L : List Nat} {bs : List UInt8} (h : m.page (a : Int) (toI (bs.take z)) = (m1, 0)) : m.burns (z :: L) a bs = m1.burns L (a + z) (bs.drop z) := by
  rw [Mac.burns, h, if_pos rfl]
theorem burns_off {m m1 : Mac} {z a : Nat} {e : Int} {L : List Nat} {bs : List UInt8} (h : m.page (a : Int) (toI (bs.take z)) = (m1, e)) (he : e ≠ 0) : m.burns (z :: L) a bs = (m1, e) := by
  rw [Mac.burns, h, if_neg he]
def Mac.burn (m : Mac) (a : Int) (bs : List UInt8) : Mac × Int :=
  if fmayB a (bs.length : Int) = false then (m, 1700)
  else if bs ≠ [] ∧ a < 2048 then (m, 1701)
  else m.burns (pagesL a.toNat bs.length) a.toNat bs
set_option maxRecDepth 100000 in
set_option maxHeartbeats 8000000 in
theorem p_page {Q : Own} {b k fo fi : Nat} {m0 : Mac} {n : Int} {w0 w : World} {rows : List (Value × List Value)} (h : Ctx (ProgP b k fo fi m0 n) Q w0 w rows) (p : Nat) (hp : p < 4096) (t : ByteArray) (h1 : 1 ≤ t.size) (h2 : t.size ≤ 32) (hn : n + 4660 ≤ 1048575)
    (m' : Mac) (e' : Int) (hpg : m0.page (p : Int) (toI t.data.toList) = (m', e')) :
    Calls Tryz.prog 135 #[.pointer (some ⟨k, 0, none⟩), .int .i64 (p : Int), .string t] w fun e w' => e = .returned (.int .i64 e') ∧ Ctx (ProgP b k fo fi m' (n + 4660)) Q w0 w' rows := by
  obtain ⟨m, hm⟩ : ∃ m, t.size = m := ⟨_, rfl⟩
  have hml : t.data.toList.length = m := hm
  obtain ⟨d, hd⟩ : ∃ d, toI t.data.toList = d := ⟨_, rfl⟩
  have hdl : d.length = m := by rw [← hd, toI_len, hml]
  have hdb : ∀ x ∈ d, 0 ≤ x ∧ x ≤ 255 := by rw [← hd]; exact toI_byte _
  have hne : d ≠ [] := by rintro e; rw [e] at hdl; simp at hdl; omega
  have HEN : Hid (∀ (w1 : World) (v : Value) (m1 : Mac) (e1 : Int), m0.go 6 0 [] 0 = (m1, e1, []) → Upd none' w w1 → Row w1 3 v (ints d) → (∀ g, v.ownBlock = some g → w.heap.size < g) → Calls Tryz.prog 50 #[.pointer (some ⟨k, 0, none⟩), .int .i64 6, .int .i64 0, .slice none 0 0, .int .i64 0] w1 fun e w' => ∃ oa oc, e = .returned (.tuple #[.slice oa 0 oc, .int .i64 e1]) ∧ Ctx (ProgP b k fo fi m1 (n + 9)) Q w0 w' ((v, ints d) :: rows)) := Lib.hid (fun w1 v m1 e1 hg hu hr ho => by
    have hR := (h.row (r := (v, ints d)) hu (hr.rs (by rw [ints_len, hdl]; omega)) (fun g hg => ⟨Nat.le_of_lt (ho g hg), hr.lt g hg⟩) hr.mk)
    refine (p_go hR.nilrow 6 (by decide) (by decide) 0 none 0 [] List.mem_cons_self 0 en_may 8 (by rw [en_many]; decide) (by omega) m1 e1 [] hg).mono ?_
    rintro e w' ⟨oa, oc, rfl, h3⟩
    exact ⟨oa, oc, rfl, by rw [show n + 9 = n + 8 + 1 by omega]; exact h3.tl.tl⟩)
  have HPR : Hid (∀ (w1 : World) (a : Option Addr) (cp : Nat) (m1 m2 : Mac) (e2 : Int), m1.go 2 (p : Int) d 0 = (m2, e2, []) → Ctx (ProgP b k fo fi m1 (n + 9)) Q w0 w1 ((.slice a m cp, ints d) :: rows) → Calls Tryz.prog 50 #[.pointer (some ⟨k, 0, none⟩), .int .i64 2, .int .i64 (p : Int), .slice a m cp, .int .i64 0] w1 fun e w' => ∃ oa oc, e = .returned (.tuple #[.slice oa 0 oc, .int .i64 e2]) ∧ Ctx (ProgP b k fo fi m2 (n + 298)) Q w0 w' rows) := Lib.hid (fun w1 a cp m1 m2 e2 hg hr => by
    have := p_go hr 2 (by decide) (by decide) (p : Int) a cp d (by rw [hdl]; exact List.mem_cons_self) 0 (prog_may _ (by omega) d hdb (by omega)) 288 (by rw [prog_many _ d hne, hdl]; omega) (by omega) m2 e2 [] hg
    rw [hdl] at this
    refine this.mono ?_
    rintro e w' ⟨oa, oc, rfl, hR⟩
    exact ⟨oa, oc, rfl, by rw [show n + 298 = n + 9 + 288 + 1 by omega]; exact hR.tl.tl⟩)
  have HW : Hid (∀ (w1 : World) (m2 : Mac), Ctx (ProgP b k fo fi m2 (n + 298)) Q w0 w1 rows → Calls Tryz.prog 60 #[.pointer (some ⟨k, 0, none⟩), .int .i64 256] w1 fun e w' => e = .returned (.tuple #[.int .i64 (m2.waits 256 1).2.1, .int .i64 (m2.waits 256 1).2.2]) ∧ Ctx (ProgP b k fo fi (m2.waits 256 1).1 (n + 4660)) Q w0 w' rows) := Lib.hid (fun w1 m2 hr => by
    refine (p_wait hr 256 (by decide) (by omega)).mono ?_
    rintro e w' ⟨rfl, hR⟩
    exact ⟨rfl, progP_mono hR (by omega)⟩)
  have kc := Lib.run_convert_string_bytes (P := Tryz.prog) w 9 23 5 t Tryz.underlying9 Tryz.underlying23 Tryz.underlying5
  have hBz := Buf.of_bytes w 5 t
  have hUz := upd_bytes w 5 t
  have HML := Lib.hid hml
  have HD := Lib.hid hd
  rw [hd] at hpg
  have HPG := Lib.hid hpg
  have HPD := Lib.hid (fun m1 : Mac => go_none m1 2 (p : Int) d (prog_reads _ d hne))
  clear h hml hd hpg hdb hdl hne
  go_enter Tryz.func135, Tryz.ntmps135
  go_wp2
  clear kc
  go_loopw [7, 19] (fun dv iv wr => ∃ i : Nat, i ≤ m ∧ iv = .int .i64 (i : Int) ∧ Row wr 3 dv (ints (toI (t.data.toList.take i))) ∧ (∀ g, dv.ownBlock = some g → w.heap.size < g) ∧ Buf wr w.heap.size t.data.toList 5 ∧ Upd none' w wr) (fun _ iv _ => m - (intOf iv).toNat)
  case atStart => exact ⟨0, Nat.zero_le _, rfl, by rw [List.take_zero]; exact Row.nil _ _, fun k hk => (by simp [Value.ownBlock] at hk), hBz, hUz⟩
  case round =>
    clear hBz hUz
    obtain ⟨r, hr, rfl, hrow, hown, hB, hU⟩ := hrel
    obtain ⟨oa, oc, rfl, -⟩ := hrow.form
    have hol : (ints (toI (t.data.toList.take r))).length = r := by rw [ints_len, toI_len, List.length_take, HML.out, Nat.min_eq_left hr]
    rw [hol] at hrow hown ⊢
    rename World => W2
    by_cases hlt : r < m
    · obtain ⟨c0, hc0⟩ : ∃ c0, t.data.toList.getD r 0 = c0 := ⟨_, rfl⟩
      have hcell := hB.cell (j := r) (by rw [HML.out]; exact hlt)
      rw [hc0] at hcell
      have hcb := c0.toNat_lt
      have hw8 : IntKind.i64.wrap ((c0.toNat : Nat) : Int) = ((c0.toNat : Nat) : Int) := IntWalk.i64_in _ (by omega)
      have hsn := toI_snoc t.data.toList r (by rw [HML.out]; exact hlt)
      rw [hc0] at hsn
      have HSN := Lib.hid hsn
      have HROW := Lib.hid hrow
      have HOWN := Lib.hid hown
      have HB := Lib.hid hB
      have HU := Lib.hid hU
      have HOL := Lib.hid hol
      clear hrow hown hB hU hol hsn hc0
      go_wp2_with (at_builtin; go_must (refine wpList_app1 rfl _ _ 33 rfl 3 (.int .i64 0) 8 Tryz.underlying33 info_int rfl _ (ints (toI (t.data.toList.take r))) r HOL.out rfl W2 (.int .i64 ((c0.toNat : Nat) : Int)) ⟨rfl, rfl, rfl⟩ HROW.out rfl rfl (by omega) (by omega) ?_); intro g cap w3 hR3 hU3 hg3 hgs3)
      have hg : w.heap.size < g := by
        rcases hg3 with e | e
        · exact HOWN.out g e
        · have := HB.out.lt; omega
      refine ⟨?rel, ?measure⟩
      case rel =>
        refine ⟨r + 1, by omega, by go_num, ?_, ?_, ?_, ?_⟩
        · rw [HSN.out, ints_app]
          exact hR3
        · intro k hk
          simp [Value.ownBlock] at hk
          rw [← hk]
          exact hg
        · exact HB.out.upd hU3 (fun h2 => absurd (HOWN.out _ h2) (by omega))
        · exact HU.out.trans hU3 (fun k h1 h2 => absurd (HOWN.out k h2) (by omega))
      case measure => simp [intOf]; omega
    · obtain rfl : r = m := by omega
      rw [List.take_of_length_le (by rw [HML.out]; exact Nat.le_refl _), HD.out] at hrow
      obtain ⟨m1, hm1⟩ := go_none m0 6 0 [] en_reads
      rcases hm1 with hm1 | hm1
      · obtain ⟨m2, hm2⟩ := HPD.out m1
        have HE := Lib.hid (HEN.out W2 _ m1 0 hm1 hU hrow hown)
        rcases hm2 with hm2 | hm2
        · have HM2 := Lib.hid hm2
          have HFIN : Hid ((m', e') = ((m2.waits 256 1).1, (m2.waits 256 1).2.2)) := Lib.hid (HPG.out.symm.trans (page_c hm1 hm2))
          clear hrow hown hB hU hol HEN hm1 hm2
          go_upto_region 10 with (go_at_call 50; refine HE.out.mono ?_; rintro e w3 ⟨oa3, oc3, rfl, hR3⟩)
          have HP := Lib.hid (HPR.out w3 oa oc m1 m2 0 HM2.out hR3)
          clear hR3 HE HPR
          go_upto_region 13 with (go_at_call 50; refine HP.out.mono ?_; rintro e w4 ⟨oa4, oc4, rfl, hR4⟩)
          have HWW := Lib.hid (HW.out w4 m2 hR4)
          clear hR4 HP HW
          go_wp2_with (go_at_call 60; refine HWW.out.mono ?_; rintro e w5 ⟨rfl, hR5⟩)
          go_ret
          have hf := HFIN.out
          simp only [Prod.mk.injEq] at hf
          rw [hf.1, hf.2]
          exact ⟨rfl, hR5⟩
        · have HM2 := Lib.hid hm2
          have HFIN : Hid ((m', e') = (m2, 1101)) := Lib.hid (HPG.out.symm.trans (page_b hm1 hm2))
          clear hrow hown hB hU hol HEN hm1 hm2
          go_upto_region 10 with (go_at_call 50; refine HE.out.mono ?_; rintro e w3 ⟨oa3, oc3, rfl, hR3⟩)
          have HP := Lib.hid (HPR.out w3 oa oc m1 m2 1101 HM2.out hR3)
          clear hR3 HE HPR HW
          go_wp2_with (go_at_call 50; refine HP.out.mono ?_; rintro e w4 ⟨oa4, oc4, rfl, hR4⟩)
          go_ret
          have hf := HFIN.out
          simp only [Prod.mk.injEq] at hf
          rw [hf.1, hf.2]
          exact ⟨rfl, progP_mono hR4 (by omega)⟩
      · have HE := Lib.hid (HEN.out W2 _ m1 1101 hm1 hU hrow hown)
        have HFIN : Hid ((m', e') = (m1, 1101)) := Lib.hid (HPG.out.symm.trans (page_a hm1))
        clear hrow hown hB hU hol HEN hm1 HPR HW
        go_wp2_with (go_at_call 50; refine HE.out.mono ?_; rintro e w3 ⟨oa3, oc3, rfl, hR3⟩)
        go_ret
        have hf := HFIN.out
        simp only [Prod.mk.injEq] at hf
        rw [hf.1, hf.2]
        exact ⟨rfl, progP_mono hR3.tl (by omega)⟩
set_option maxRecDepth 100000 in
set_option maxHeartbeats 8000000 in
theorem p_burns {Q : Own} {b k fo fi : Nat} {m0 : Mac} {n : Int} {w0 w : World} {rows : List (Value × List Value)} (h : Ctx (ProgP b k fo fi m0 n) Q w0 w rows) (a : Nat) (t : ByteArray) (hl : t.size ≤ 512) (ha : a + t.size ≤ 4096) (hi : 2048 ≤ a ∧ 1 ≤ t.size) (hn : n + 79220 ≤ 1048575)
    (m' : Mac) (e' : Int) (hbn : m0.burns (pagesL a t.size) a t.data.toList = (m', e')) :
    Calls Tryz.prog 66 #[.pointer (some ⟨k, 0, none⟩), .int .i64 (a : Int), .string t] w fun e w' => e = .returned (.int .i64 e') ∧ Ctx (ProgP b k fo fi m' (n + 79220)) Q w0 w' rows := by
  have hm := pages_ok a t.size hl ha
  have him := image_at (a : Int)
  rw [decide_eq_false (by omega : ¬ (0 ≤ (a : Int) ∧ (a : Int) < 2048))] at him
  have hne := str_nonempty t hi.2
  obtain ⟨L, hL⟩ : ∃ L, pagesL a t.size = L := ⟨_, rfl⟩
  obtain ⟨M, hM⟩ : ∃ M, L.length = M := ⟨_, rfl⟩
  have hML : M ≤ 17 := by
    have := (pagesL_len t.size a).2
    rw [hL, hM] at this
    omega
  rw [hL] at hm
  have hlm : (ints (natI L)).length = M := by rw [ints_len, natI_len, hM]
  obtain ⟨m, hmm⟩ : ∃ m, t.size = m := ⟨_, rfl⟩
  have hml : t.data.toList.length = m := hmm
  rw [hmm] at hm hl ha hi
  rw [hL] at hbn
  have HH := Lib.hid (And.intro h (And.intro hbn (And.intro hL (And.intro hM hml))))
  clear h hL hM hml hbn
  go_enter Tryz.func66, Tryz.ntmps66
  go_wp2_with (first | (go_at_call 134; refine (him _).mono ?_; rintro e w2 ⟨rfl, rfl⟩) | (go_at_call 67; refine (hm _).mono ?_; rintro e w1 ⟨v, rfl, hrow, hown, hU⟩; obtain ⟨oa, oc, rfl, -⟩ := hrow.form; rw [hlm] at hrow hown))
  have HR1 := Lib.hid (HH.out.1.row (r := (.slice oa M oc, ints (natI L))) hU (hrow.rs (by rw [hlm]; omega)) (fun g hg => ⟨hown g hg, hrow.lt g hg⟩) hrow.mk)
  clear hm him hrow hown
  go_loopw [1, 2, 34] (fun av sv iv wr => ∃ (j p : Nat) (u : ByteArray) (m1 : Mac), j ≤ M ∧ p + u.size = m ∧ av = .int .i64 ((a + p : Nat) : Int) ∧ sv = .string u ∧ iv = .int .i64 (j : Int) ∧ Hid (L.drop j = pagesL (a + p) u.size ∧ m1.burns (L.drop j) (a + p) u.data.toList = (m', e') ∧ Ctx (ProgP b k fo fi m1 (n + 4660 * (j : Int))) Q w0 wr ((.slice oa M oc, ints (natI L)) :: rows))) (fun _ _ iv _ => M - (intOf iv).toNat)
  case atStart =>
    refine ⟨0, 0, t, m0, Nat.zero_le _, by omega, rfl, rfl, rfl, Lib.hid ⟨?_, ?_, ?_⟩⟩
    · rw [List.drop_zero]
      exact HH.out.2.2.1.symm
    · rw [List.drop_zero]
      exact HH.out.2.1
    · rw [show n + 4660 * ((0 : Nat) : Int) = n by omega]
      exact HR1.out
  case round =>
    obtain ⟨j, p, u, m1, hj, hpu, rfl, rfl, rfl, hH⟩ := hrel
    obtain ⟨hD, hbn, hR⟩ := hH.out
    rename World => W2
    obtain ⟨x, hx⟩ : ∃ x, a + p = x := ⟨_, rfl⟩
    rw [hx] at hD hbn ⊢
    by_cases hlt : j < M
    · have hu0 : 0 < u.size := by
        by_cases h0 : u.size = 0
        · rw [h0, pagesL_zero] at hD
          have := congrArg List.length hD
          rw [List.length_drop, HH.out.2.2.2.1] at this
          simp at this
          omega
        · omega
      obtain ⟨z, hz⟩ : ∃ z, min u.size (32 - x % 32) = z := ⟨_, rfl⟩
      rw [pagesL_step x u.size hu0, hz] at hD
      have hgj : L.getD j 0 = z := by
        have := congrArg (fun l => l.getD 0 0) hD
        simpa [List.getD_eq_getElem?_getD] using this
      have hdj : L.drop (j + 1) = pagesL (x + z) (u.size - z) := by
        have := congrArg List.tail hD
        simpa using this
      obtain ⟨gx, ox, e1, hgx, hcc⟩ := (hR.rs 0 rfl).cells (by omega)
      subst e1
      have hcell := hcc j hlt
      rw [ints_at _ _ (by rw [natI_len, HH.out.2.2.2.1]; exact hlt), show (natI L).getD j 0 = (z : Int) from by
        rw [← hgj]
        unfold natI
        rw [List.getD_eq_getElem?_getD, List.getElem?_map, List.getElem?_eq_getElem (show j < L.length by rw [HH.out.2.2.2.1]; exact hlt), List.getD_eq_getElem?_getD, List.getElem?_eq_getElem (show j < L.length by rw [HH.out.2.2.2.1]; exact hlt)]
        rfl] at hcell
      have hz1 : 1 ≤ z ∧ z ≤ u.size ∧ z ≤ 32 := by omega
      have hes : (u.extract 0 z).size = z := by rw [ByteArray.size_extract]; omega
      have het : (u.extract 0 z).data.toList = u.data.toList.take z := by
        rw [ByteArray.data_extract, Array.toList_extract, List.extract_eq_take_drop, Nat.sub_zero, List.drop_zero]
      have hes2 : (u.extract z u.size).size = u.size - z := by rw [ByteArray.size_extract]; omega
      have het2 : (u.extract z u.size).data.toList = u.data.toList.drop z := by
        rw [ByteArray.data_extract, Array.toList_extract, List.extract_eq_take_drop, List.take_of_length_le (by rw [List.length_drop]; exact Nat.le_refl _)]
      obtain ⟨⟨m2, e2⟩, hpg⟩ : ∃ r, m1.page (x : Int) (toI (u.data.toList.take z)) = r := ⟨_, rfl⟩
      have hpp := p_page hR x (by omega) (u.extract 0 z) (by omega) (by omega) (by omega) m2 e2 (by rw [het]; exact hpg)
      rw [hD, ← hdj] at hbn
      have hw1 : IntKind.i64.wrap ((x : Int) + (z : Int)) = ((x + z : Nat) : Int) := by rw [IntWalk.i64_in _ (by omega)]; omega
      have hzu : (z : Int) ≤ (u.size : Int) := by omega
      have hub : u.size < 9223372036854775807 := by omega
      have HPG := Lib.hid hpp
      have HX := Lib.hid (And.intro hx hpu)
      by_cases he : e2 = 0
      · subst he
        rw [burns_on hpg] at hbn
        have HNX := Lib.hid (And.intro hdj (And.intro het2 hbn))
        clear hpp het het2 hes hdj hgj hD hbn hpg hR hcc hgx hz hH hpu hx HR1
        go_wp2_with (go_at_call 135; refine HPG.out.mono ?_; rintro e w3 ⟨rfl, hR3⟩)
        refine ⟨?rel, ?measure⟩
        case rel =>
          refine ⟨j + 1, p + z, u.extract z u.size, m2, by omega, by rw [hes2]; have := HX.out.2; omega, by have := HX.out.1; go_num, rfl, by go_num, Lib.hid ⟨?_, ?_, ?_⟩⟩
          · rw [hes2, HNX.out.1, ← HX.out.1, Nat.add_assoc]
          · rw [HNX.out.2.1, show a + (p + z) = x + z by have := HX.out.1; omega]
            exact HNX.out.2.2
          · rw [show n + 4660 * ((j + 1 : Nat) : Int) = n + 4660 * (j : Int) + 4660 by omega]
            exact hR3
        case measure => simp [intOf]; omega
      · rw [burns_off hpg he] at hbn
        have HNX := Lib.hid hbn
        have heb : (e2 == 0) = false := by simpa using he
        have heb2 : (e2 != 0) = true := by simpa using he
        clear hpp het het2 hes hdj hgj hD hbn hpg hR hcc hgx hz hH hpu hx HR1 he
        go_wp2_with (go_at_call 135; refine HPG.out.mono ?_; rintro e w3 ⟨rfl, hR3⟩)
        go_ret
        have hf := HNX.out
        simp only [Prod.mk.injEq] at hf
        rw [← hf.1, ← hf.2]
        exact ⟨rfl, progP_mono hR3.tl (by omega)⟩
    · obtain rfl : j = M := by omega
      rw [← HH.out.2.2.2.1, List.drop_length] at hbn
      have HF := Lib.hid hbn
      have HR := Lib.hid hR
      clear hD hbn hR
      go_wp2
      go_ret
      have hf : (m1, (0 : Int)) = (m', e') := HF.out
      simp only [Prod.mk.injEq] at hf
      rw [← hf.1, ← hf.2]
      exact ⟨rfl, progP_mono HR.out.tl (by omega)⟩
theorem p_burn {Q : Own} {b k fo fi : Nat} {m0 : Mac} {n : Int} {w0 w : World} {rows : List (Value × List Value)} (h : Ctx (ProgP b k fo fi m0 n) Q w0 w rows) (a : Int) (t : ByteArray) (hn : n + 79220 ≤ 1048575)
    (m' : Mac) (e' : Int) (hbn : m0.burn a t.data.toList = (m', e')) :
    Calls Tryz.prog 66 #[.pointer (some ⟨k, 0, none⟩), .int .i64 a, .string t] w fun e w' => e = .returned (.int .i64 e') ∧ Ctx (ProgP b k fo fi m' (n + 79220)) Q w0 w' rows := by
  unfold Mac.burn at hbn
  have hsz : t.data.toList.length = t.size := rfl
  rw [hsz] at hbn
  cases hf : fmayB a (t.size : Int) with
  | false =>
    rw [if_pos hf] at hbn
    simp only [Prod.mk.injEq] at hbn
    obtain ⟨rfl, rfl⟩ := hbn
    refine (burn_no k a t hf w).mono ?_
    rintro e w' ⟨rfl, rfl⟩
    exact ⟨rfl, progP_mono h (by omega)⟩
  | true =>
    have hb := of_decide_eq_true hf
    rw [if_neg (by rw [hf]; decide)] at hbn
    obtain ⟨z, rfl⟩ : ∃ z : Nat, a = (z : Int) := ⟨a.toNat, by omega⟩
    rw [Int.toNat_natCast] at hbn
    by_cases h0 : t.size = 0
    · have ht0 : t = ⟨#[]⟩ := by
        obtain ⟨d⟩ := t
        simp only [ByteArray.size] at h0
        rw [Array.eq_empty_of_size_eq_zero h0]
      subst ht0
      rw [if_neg (fun hh => hh.1 rfl)] at hbn
      rw [show pagesL z (ByteArray.size ⟨#[]⟩) = [] from pagesL_zero z] at hbn
      have hf : (m0, (0 : Int)) = (m', e') := hbn
      simp only [Prod.mk.injEq] at hf
      obtain ⟨rfl, rfl⟩ := hf
      refine (burn_empty k z (by omega) w).mono ?_
      rintro e w' ⟨rfl, hU⟩
      exact ⟨rfl, progP_mono (h.frame hU) (by omega)⟩
    · have hne : t.data.toList ≠ [] := by intro e; rw [e] at hsz; simp at hsz; omega
      by_cases hi : (z : Int) < 2048
      · rw [if_pos ⟨hne, hi⟩] at hbn
        simp only [Prod.mk.injEq] at hbn
        obtain ⟨rfl, rfl⟩ := hbn
        refine (burn_image k z t (by omega) (by omega) (by omega) (by omega) w).mono ?_
        rintro e w' ⟨rfl, hU⟩
        exact ⟨rfl, progP_mono (h.frame hU) (by omega)⟩
      · rw [if_neg (fun hh => hi hh.2)] at hbn
        exact p_burns h z t (by omega) (by omega) (by omega) hn m' e' hbn
end Go.Proofs.YteombggfmeilaaaGreat
/- MacD. -/
namespace Go.Proofs.YteombggfmeilaaaGreat
open Go.RowKit
set_option maxRecDepth 100000 in
set_option maxHeartbeats 4000000 in
theorem ref_pages_ok (a n : Nat) (hn : n ≤ 512) (ha : a + n ≤ 4096) (w : World) :
    Calls Tryz.prog 68 #[.int .i64 (a : Int), .int .i64 (n : Int)] w fun e w' => ∃ v, e = .returned (.tuple #[v, .int .i64 0]) ∧ Row w' 3 v (ints (natI (pagesL a n))) ∧ (∀ g, v.ownBlock = some g → w.heap.size ≤ g) ∧ Upd none' w w' := by
  have hm := ref_within (a : Int) (n : Int)
  rw [show fmayB (a : Int) (n : Int) = true from decide_eq_true (by omega)] at hm
  go_enter Tryz.func68, Tryz.ntmps68
  go_wp2_with (go_at_call 131; refine (hm _).mono ?_; rintro e w1 ⟨rfl, rfl⟩)
  clear hm
  go_loopw [0, 1, 6] (fun av nv ov wr => ∃ (p q : Nat) (D : List Nat), p + q = n ∧ D.length ≤ p ∧ av = .int .i64 ((a + p : Nat) : Int) ∧ nv = .int .i64 (q : Int) ∧ Hid (D ++ pagesL (a + p) q = pagesL a n) ∧ Row wr 3 ov (ints (natI D)) ∧ (∀ g, ov.ownBlock = some g → w.heap.size ≤ g) ∧ Upd none' w wr) (fun _ nv _ _ => (intOf nv).toNat)
  case atStart => exact ⟨0, n, [], by omega, Nat.le_refl 0, rfl, rfl, Lib.hid rfl, Row.nil _ _, fun k hk => (by simp [Value.ownBlock] at hk), Upd.refl _ _⟩
  case round =>
    obtain ⟨p, q, D, hpq, hDl, rfl, rfl, hD, hrow, hown, hU⟩ := hrel
    obtain ⟨oa, oc, rfl, -⟩ := hrow.form
    have hol : (ints (natI D)).length = D.length := by rw [ints_len, natI_len]
    rw [hol] at hrow hown ⊢
    obtain ⟨x, hx⟩ : ∃ x, a + p = x := ⟨_, rfl⟩
    rw [hx]
    by_cases hlt : 0 < q
    · obtain ⟨m, hm⟩ : ∃ m, min q (32 - x % 32) = m := ⟨_, rfl⟩
      have hst := pagesL_step x q hlt
      rw [hm] at hst
      have hmin1 : min (q : Int) (32 - (x : Int) % 32) = (m : Int) := by omega
      have hmin : (if (32 : Int) - (x : Int) % 32 < (q : Int) then (32 : Int) - (x : Int) % 32 else (q : Int)) = (m : Int) := by split <;> omega
      have hw2 : IntKind.i64.wrap ((x : Int) + (m : Int)) = ((x + m : Nat) : Int) := by rw [IntWalk.i64_in _ (by omega)]; omega
      have hw3 : IntKind.i64.wrap ((q : Int) - (m : Int)) = ((q - m : Nat) : Int) := by rw [IntWalk.i64_in _ (by omega)]; omega
      have HROW := Lib.hid hrow
      have HOWN := Lib.hid hown
      have HU := Lib.hid hU
      have HOL := Lib.hid hol
      have HST := Lib.hid hst
      have HD := Lib.hid hD.out
      have HM := Lib.hid (show 1 ≤ m ∧ m ≤ q by omega)
      clear hrow hown hU hol hst hD hm
      rename World => W2
      go_wp2_with (at_builtin; go_must (refine wpList_app1 rfl _ _ 33 rfl 3 (.int .i64 0) 8 Tryz.underlying33 info_int rfl _ (ints (natI D)) D.length HOL.out rfl W2 (.int .i64 (m : Int)) ⟨rfl, rfl, rfl⟩ HROW.out rfl rfl (by omega) (by omega) ?_); intro g cap w3 hR3 hU3 hg3 hgs3)
      refine ⟨?rel, ?measure⟩
      case rel =>
        have hg : w.heap.size ≤ g := by
          rcases hg3 with e | e
          · exact HOWN.out g e
          · have := HU.out.size; omega
        refine ⟨p + m, q - m, D ++ [m], by have := HM.out; omega, by rw [List.length_append]; have := HM.out; show D.length + 1 ≤ _; omega, by rw [← hx]; go_num, by go_num, Lib.hid ?_, ?_, ?_, ?_⟩
        · rw [← HD.out, hx, HST.out, List.append_assoc, ← Nat.add_assoc, hx]
          rfl
        · rw [natI_app, ints_app]
          exact hR3
        · intro k hk
          simp [Value.ownBlock] at hk
          rw [← hk]
          exact hg
        · exact HU.out.trans hU3 (fun k h1 h2 => absurd (HOWN.out k h2) (by omega))
      case measure => have := HM.out; simp [intOf]; omega
    · obtain rfl : q = 0 := by omega
      have hfin : D = pagesL a n := by
        have := hD.out
        rw [pagesL_zero, List.append_nil] at this
        exact this
      subst hfin
      go_wp2
      go_ret2
      exact ⟨.slice oa _ oc, rfl, hrow, hown, hU⟩
theorem ref_pages_no (a n : Int) (h : fmayB a n = false) (w : World) :
    Calls Tryz.prog 68 #[.int .i64 a, .int .i64 n] w fun e w' => e = .returned (.tuple #[.slice none 0 0, .int .i64 1700]) ∧ w = w' := by
  have hm := ref_within a n
  rw [h] at hm
  go_enter Tryz.func68, Tryz.ntmps68
  go_wp2_with (go_at_call 131; refine (hm _).mono ?_; rintro e w1 ⟨rfl, rfl⟩)
  go_ret2
  exact ⟨rfl, rfl⟩
theorem row_cell {P Q : Own} {w0 w : World} {rows : List (Value × List Value)} (hC : Ctx P Q w0 w rows) {gx ox M oc : Nat} {L : List Int} (hm : (.slice (some ⟨gx, ox, none⟩) M oc, ints L) ∈ rows) (hl : L.length = M) (j : Nat) (hj : j < M) : w.cell? ⟨gx, ox + j, none⟩ = some (.int .i64 (L.getD j 0)) := by
  obtain ⟨g, o, e, -, hc⟩ := (hC.rs_mem hm).cells (by omega)
  simp only [Option.some.injEq, Addr.mk.injEq, and_true] at e
  obtain ⟨rfl, rfl⟩ := e
  rw [hc j hj]
  exact ints_at _ _ (by omega)
theorem natI_get (L : List Nat) (j z : Nat) (hj : j < L.length) (h : L.getD j 0 = z) : (natI L).getD j 0 = (z : Int) := by
  rw [← h]
  unfold natI
  rw [List.getD_eq_getElem?_getD, List.getElem?_map, List.getElem?_eq_getElem hj, List.getD_eq_getElem?_getD, List.getElem?_eq_getElem hj]
  rfl
theorem str_atD (u : ByteArray) (r : Nat) (h : r < u.size) : u[r]'h = u.data.toList.getD r 0 := by
  rw [List.getD_eq_getElem?_getD, List.getElem?_eq_getElem (show r < u.data.toList.length from h)]
  simp
  rfl
set_option maxRecDepth 100000 in
set_option maxHeartbeats 16000000 in
theorem d_burns {Q : Own} {b k : Nat} {m0 : Mac} {n : Int} {w0 w : World} {rows : List (Value × List Value)} (h : Ctx (DocP b k m0 n) Q w0 w rows) (a : Nat) (t : ByteArray) (hl : t.size ≤ 512) (ha : a + t.size ≤ 4096) (hi : 2048 ≤ a ∧ 1 ≤ t.size) (hn : n + 79220 ≤ 1048575)
    (m' : Mac) (e' : Int) (hbn : m0.burns (pagesL a t.size) a t.data.toList = (m', e')) :
    Calls Tryz.prog 69 #[.pointer (some ⟨k, 0, none⟩), .int .i64 (a : Int), .string t] w fun e w' => e = .returned (.int .i64 e') ∧ Ctx (DocP b k m' (n + 79220)) Q w0 w' rows := by
  have hm := ref_pages_ok a t.size hl ha
  obtain ⟨L, hL⟩ : ∃ L, pagesL a t.size = L := ⟨_, rfl⟩
  obtain ⟨M, hM⟩ : ∃ M, L.length = M := ⟨_, rfl⟩
  have hML : M ≤ 17 := by
    have := (pagesL_len t.size a).2
    rw [hL, hM] at this
    omega
  rw [hL] at hm
  have hlm : (ints (natI L)).length = M := by rw [ints_len, natI_len, hM]
  obtain ⟨m, hmm⟩ : ∃ m, t.size = m := ⟨_, rfl⟩
  have hml : t.data.toList.length = m := hmm
  rw [hmm] at hm hl ha hi
  rw [hL] at hbn
  have HH := Lib.hid (And.intro h (And.intro hbn (And.intro hL (And.intro hM hml))))
  have hia : ¬ (a : Int) < 2048 := by omega
  have hm0 : (0 : Int) < (m : Int) := by omega
  clear h hL hM hml hbn
  go_enter Tryz.func69, Tryz.ntmps69
  go_wp2_with (go_at_call 68; refine (hm _).mono ?_; rintro e w1 ⟨v, rfl, hrow, hown, hU⟩; obtain ⟨oa, oc, rfl, -⟩ := hrow.form; rw [hlm] at hrow hown)
  have HR1 := Lib.hid (HH.out.1.row (r := (.slice oa M oc, ints (natI L))) hU (hrow.rs (by rw [hlm]; omega)) (fun g hg => ⟨hown g hg, hrow.lt g hg⟩) hrow.mk)
  clear hm hrow hown
  go_loopw [1, 2, 9] (fun av sv iv wr => ∃ (j p : Nat) (u : ByteArray) (m1 : Mac), j ≤ M ∧ p + u.size = m ∧ av = .int .i64 ((a + p : Nat) : Int) ∧ sv = .string u ∧ iv = .int .i64 (j : Int) ∧ Hid (L.drop j = pagesL (a + p) u.size ∧ m1.burns (L.drop j) (a + p) u.data.toList = (m', e') ∧ Ctx (DocP b k m1 (n + 4660 * (j : Int))) Q w0 wr ((.slice oa M oc, ints (natI L)) :: rows))) (fun _ _ iv _ => M - (intOf iv).toNat)
  case atStart =>
    refine ⟨0, 0, t, m0, Nat.zero_le _, by omega, rfl, rfl, rfl, Lib.hid ⟨?_, ?_, ?_⟩⟩
    · rw [List.drop_zero]
      exact HH.out.2.2.1.symm
    · rw [List.drop_zero]
      exact HH.out.2.1
    · rw [show n + 4660 * ((0 : Nat) : Int) = n by omega]
      exact HR1.out
  case round =>
    obtain ⟨j, p, u, m1, hj, hpu, rfl, rfl, rfl, hH⟩ := hrel
    obtain ⟨hD, hbn, hR⟩ := hH.out
    rename World => W2
    obtain ⟨x, hx⟩ : ∃ x, a + p = x := ⟨_, rfl⟩
    rw [hx] at hD hbn ⊢
    by_cases hlt : j < M
    · have hu0 : 0 < u.size := by
        by_cases h0 : u.size = 0
        · rw [h0, pagesL_zero] at hD
          have := congrArg List.length hD
          rw [List.length_drop, HH.out.2.2.2.1] at this
          simp at this
          omega
        · omega
      obtain ⟨z, hz⟩ : ∃ z, min u.size (32 - x % 32) = z := ⟨_, rfl⟩
      rw [pagesL_step x u.size hu0, hz] at hD
      have hgj : L.getD j 0 = z := by
        have := congrArg (fun l => l.getD 0 0) hD
        simpa [List.getD_eq_getElem?_getD] using this
      have hdj : L.drop (j + 1) = pagesL (x + z) (u.size - z) := by
        have := congrArg List.tail hD
        simpa using this
      obtain ⟨gx, ox, e1, hgx, -⟩ := (hR.rs 0 rfl).cells (by omega)
      subst e1
      have hgz := natI_get L j z (by rw [HH.out.2.2.2.1]; exact hlt) hgj
      have HCELL : Hid (∀ (w1 : World) (m2 : Mac) (n2 : Int) (rest : List (Value × List Value)), Ctx (DocP b k m2 n2) Q w0 w1 rest → (.slice (some ⟨gx, ox, none⟩) M oc, ints (natI L)) ∈ rest → w1.cell? ⟨gx, ox + j, none⟩ = some (.int .i64 (z : Int))) := Lib.hid (fun w1 m2 n2 rest hC hm => by
        rw [row_cell hC hm (by rw [natI_len, HH.out.2.2.2.1]) j hlt, hgz])
      have hz1 : 1 ≤ z ∧ z ≤ u.size ∧ z ≤ 32 := by omega
      have hes2 : (u.extract z u.size).size = u.size - z := by rw [ByteArray.size_extract]; omega
      have het2 : (u.extract z u.size).data.toList = u.data.toList.drop z := by
        rw [ByteArray.data_extract, Array.toList_extract, List.extract_eq_take_drop, List.take_of_length_le (by rw [List.length_drop]; exact Nat.le_refl _)]
      obtain ⟨d, hd⟩ : ∃ d, toI (u.data.toList.take z) = d := ⟨_, rfl⟩
      have hul : u.data.toList.length = u.size := rfl
      have hdl : d.length = z := by rw [← hd, toI_len, List.length_take, hul]; omega
      have hdb : ∀ x ∈ d, 0 ≤ x ∧ x ≤ 255 := by rw [← hd]; exact toI_byte _
      have hne : d ≠ [] := by rintro e; rw [e] at hdl; simp at hdl; omega
      obtain ⟨⟨m2, e2⟩, hpg⟩ : ∃ r, m1.page (x : Int) (toI (u.data.toList.take z)) = r := ⟨_, rfl⟩
      rw [hD, ← hdj] at hbn
      have hw1 : IntKind.i64.wrap ((x : Int) + (z : Int)) = ((x + z : Nat) : Int) := by rw [IntWalk.i64_in _ (by omega)]; omega
      have hzu : (z : Int) ≤ (u.size : Int) := by omega
      have hub : u.size < 9223372036854775807 := by omega
      have HX := Lib.hid (And.intro hx hpu)
      have HFIN : Hid (∀ w9, Ctx (DocP b k m2 (n + 4660 * (j : Int) + 4660)) Q w0 w9 ((.slice (some ⟨gx, ox, none⟩) M oc, ints (natI L)) :: rows) → (e2 = 0 → ∃ (j2 p2 : Nat) (u2 : ByteArray) (m3 : Mac), j2 ≤ M ∧ p2 + u2.size = m ∧ (Value.int .i64 ((x + z : Nat) : Int)) = .int .i64 ((a + p2 : Nat) : Int) ∧ Value.string (u.extract z u.size) = .string u2 ∧ (Value.int .i64 ((j + 1 : Nat) : Int)) = .int .i64 (j2 : Int) ∧ Hid (L.drop j2 = pagesL (a + p2) u2.size ∧ m3.burns (L.drop j2) (a + p2) u2.data.toList = (m', e') ∧ Ctx (DocP b k m3 (n + 4660 * (j2 : Int))) Q w0 w9 ((.slice (some ⟨gx, ox, none⟩) M oc, ints (natI L)) :: rows))) ∧ (e2 ≠ 0 → e2 = e' ∧ Ctx (DocP b k m' (n + 79220)) Q w0 w9 rows)) := Lib.hid (fun w9 hC => by
        refine ⟨fun he => ?_, fun he => ?_⟩
        · subst he
          rw [burns_on hpg] at hbn
          refine ⟨j + 1, p + z, u.extract z u.size, m2, by omega, by rw [hes2]; omega, by rw [← hx, Nat.add_assoc], rfl, rfl, Lib.hid ⟨?_, ?_, ?_⟩⟩
          · rw [hes2, hdj, ← hx, Nat.add_assoc]
          · rw [het2, show a + (p + z) = x + z by omega]
            exact hbn
          · rw [show n + 4660 * ((j + 1 : Nat) : Int) = n + 4660 * (j : Int) + 4660 by omega]
            exact hC
        · rw [burns_off hpg he] at hbn
          simp only [Prod.mk.injEq] at hbn
          obtain ⟨rfl, rfl⟩ := hbn
          exact ⟨rfl, docP_mono hC.tl (by omega)⟩)
      rw [hd] at hpg
      have HPG := Lib.hid hpg
      have HR := Lib.hid hR
      have HWT : Hid (∀ (w1 : World) (m3 : Mac), Ctx (DocP b k m3 (n + 4660 * (j : Int) + 298)) Q w0 w1 ((.slice (some ⟨gx, ox, none⟩) M oc, ints (natI L)) :: rows) → Calls Tryz.prog 61 #[.pointer (some ⟨k, 0, none⟩), .int .i64 256] w1 fun e w' => e = .returned (.tuple #[.int .i64 (m3.waits 256 1).2.1, .int .i64 (m3.waits 256 1).2.2]) ∧ Ctx (DocP b k (m3.waits 256 1).1 (n + 4660 * (j : Int) + 4660)) Q w0 w' ((.slice (some ⟨gx, ox, none⟩) M oc, ints (natI L)) :: rows)) := Lib.hid (fun w1 m3 hr => by
        refine (d_wait hr 256 (by decide) (by omega)).mono ?_
        rintro e w' ⟨rfl, hR⟩
        exact ⟨rfl, docP_mono hR (by omega)⟩)
      have HPR : Hid (∀ (w3 w1 : World) (oa2 : Option Addr) (cp : Nat) (m3 m4 : Mac) (e4 : Int), m3.go 2 (x : Int) d 0 = (m4, e4, []) → Ctx (DocP b k m3 (n + 4660 * (j : Int) + 9)) Q w0 w3 ((.slice (some ⟨gx, ox, none⟩) M oc, ints (natI L)) :: rows) → Upd none' w3 w1 → Row w1 3 (.slice oa2 z cp) (ints d) → (∀ g, (Value.slice oa2 z cp).ownBlock = some g → w3.heap.size ≤ g) → Calls Tryz.prog 53 #[.pointer (some ⟨k, 0, none⟩), .int .i64 2, .int .i64 (x : Int), .slice oa2 z cp, .int .i64 0] w1 fun e w' => ∃ oa oc2, e = .returned (.tuple #[.slice oa 0 oc2, .int .i64 e4]) ∧ Ctx (DocP b k m4 (n + 4660 * (j : Int) + 298)) Q w0 w' ((.slice (some ⟨gx, ox, none⟩) M oc, ints (natI L)) :: rows)) := Lib.hid (fun w3 w1 oa2 cp m3 m4 e4 hg hC hu hrw ho => by
        have hr := hC.row (r := (.slice oa2 z cp, ints d)) hu (hrw.rs (by rw [ints_len, hdl]; omega)) (fun g hg => ⟨ho g hg, hrw.lt g hg⟩) hrw.mk
        have := d_go hr 2 (by decide) (by decide) (x : Int) oa2 cp d (by rw [hdl]; exact List.mem_cons_self) 0 (prog_may _ (by omega) d hdb (by omega)) 288 (by rw [prog_many _ d hne, hdl]; omega) (by omega) m4 e4 [] hg
        rw [hdl] at this
        refine this.mono ?_
        rintro e w' ⟨oa, oc, rfl, hR⟩
        exact ⟨oa, oc, rfl, by rw [show n + 4660 * (j : Int) + 298 = n + 4660 * (j : Int) + 9 + 288 + 1 by omega]; exact hR.tl.tl⟩)
      have HUL := Lib.hid (And.intro hul hd)
      obtain ⟨m3, hm3⟩ := go_none m1 6 0 [] en_reads
      have HPD := Lib.hid (fun m1 : Mac => go_none m1 2 (x : Int) d (prog_reads _ d hne))
      rcases hm3 with hm3 | hm3
      · have HEN : Hid (Calls Tryz.prog 53 #[.pointer (some ⟨k, 0, none⟩), .int .i64 6, .int .i64 0, .slice none 0 0, .int .i64 0] W2 fun e w' => ∃ oa oc2, e = .returned (.tuple #[.slice oa 0 oc2, .int .i64 0]) ∧ Ctx (DocP b k m3 (n + 4660 * (j : Int) + 9)) Q w0 w' ((.slice (some ⟨gx, ox, none⟩) M oc, ints (natI L)) :: rows)) := Lib.hid (by
          refine (d_go hR.nilrow 6 (by decide) (by decide) 0 none 0 [] List.mem_cons_self 0 en_may 8 (by rw [en_many]; decide) (by omega) m3 0 [] hm3).mono ?_
          rintro e w' ⟨oa, oc, rfl, h3⟩
          exact ⟨oa, oc, rfl, by rw [show n + 4660 * (j : Int) + 9 = n + 4660 * (j : Int) + 8 + 1 by omega]; exact h3.tl.tl⟩)
        have HM3 := Lib.hid hm3
        clear het2 hes2 hdj hgj hD hbn hpg hR hgx hz hH hpu hx HR1 hm3 hd hul hdl hdb hne hgz HR
        go_upto_region 13 with (go_at_call 53; refine HEN.out.mono ?_; rintro e w3 ⟨oa3, oc3, rfl, hR3⟩)
        have hc3 := HCELL.out _ _ _ _ hR3 List.mem_cons_self
        have HR3 := Lib.hid hR3
        clear hR3 HEN
        go_wp2
        go_loopw [12, 13] (fun dv jv wr => ∃ r : Nat, r ≤ z ∧ jv = .int .i64 (r : Int) ∧ Row wr 3 dv (ints (toI (u.data.toList.take r))) ∧ (∀ g, dv.ownBlock = some g → w3.heap.size ≤ g) ∧ Upd none' w3 wr) (fun _ jv _ => z - (intOf jv).toNat)
        case atStart => exact ⟨0, Nat.zero_le _, rfl, by rw [List.take_zero]; exact Row.nil _ _, fun k hk => (by simp [Value.ownBlock] at hk), Upd.refl _ _⟩
        case round =>
          clear hc3
          rename World => W4
          obtain ⟨r, hr, rfl, hrow, hown, hU4⟩ := hrel
          obtain ⟨oa4, oc4, rfl, -⟩ := hrow.form
          have hol : (ints (toI (u.data.toList.take r))).length = r := by rw [ints_len, toI_len, List.length_take, HUL.out.1]; omega
          rw [hol] at hrow hown ⊢
          have hc4 := HCELL.out _ _ _ _ (HR3.out.frame hU4) List.mem_cons_self
          by_cases hrz : r < z
          · obtain ⟨c0, hc0⟩ : ∃ c0, u.data.toList.getD r 0 = c0 := ⟨_, rfl⟩
            have hcb := c0.toNat_lt
            have hat : ∀ h, (u[r]'h) = c0 := fun h => by rw [str_atD u r h, hc0]
            have hw8 : IntKind.i64.wrap ((c0.toNat : Nat) : Int) = ((c0.toNat : Nat) : Int) := IntWalk.i64_in _ (by omega)
            have hru : r < u.size := by omega
            have hsn := toI_snoc u.data.toList r (by rw [HUL.out.1]; exact hru)
            rw [hc0] at hsn
            have HSN := Lib.hid hsn
            have HROW := Lib.hid hrow
            have HOWN := Lib.hid hown
            have HU4 := Lib.hid hU4
            have HOL := Lib.hid hol
            clear hrow hown hU4 hol hsn hc0
            go_wp2_with (at_builtin; go_must (refine wpList_app1 rfl _ _ 33 rfl 3 (.int .i64 0) 8 Tryz.underlying33 info_int rfl _ (ints (toI (u.data.toList.take r))) r HOL.out rfl W4 (.int .i64 ((c0.toNat : Nat) : Int)) ⟨rfl, rfl, rfl⟩ HROW.out rfl rfl (by omega) (by omega) ?_); intro g cap w5 hR5 hU5 hg5 hgs5)
            refine ⟨?rel, ?measure⟩
            case rel =>
              refine ⟨r + 1, by omega, by go_num, ?_, ?_, ?_⟩
              · rw [HSN.out, ints_app]
                exact hR5
              · intro k hk
                simp only [Value.ownBlock, Option.some.injEq] at hk
                rw [← hk]
                rcases hg5 with e | e
                · exact HOWN.out g e
                · have := HU4.out.size; omega
              · exact HU4.out.trans hU5 (fun k h1 h2 => absurd (HOWN.out k h2) (by omega))
            case measure => simp [intOf]; omega
          · obtain rfl : r = z := by omega
            rw [HUL.out.2] at hrow
            obtain ⟨m4, hm4⟩ := HPD.out m3
            rcases hm4 with hm4 | hm4
            · have HP := Lib.hid (HPR.out w3 W4 oa4 oc4 m3 m4 0 hm4 HR3.out hU4 hrow hown)
              have hpc := HPG.out.symm.trans (page_c HM3.out hm4)
              simp only [Prod.mk.injEq] at hpc
              have HPC := Lib.hid hpc
              clear hrow hown hU4 hol hm4 hpc HPR HR3
              go_upto_region 20 with (go_at_call 53; refine HP.out.mono ?_; rintro e w5 ⟨oa5, oc5, rfl, hR5⟩)
              have hw := HWT.out _ _ hR5
              rw [← HPC.out.1, ← HPC.out.2] at hw
              have HW := Lib.hid hw
              clear hR5 hw HP
              by_cases he : e2 = 0
              · subst he
                go_wp2_with (go_at_call 61; refine HW.out.mono ?_; rintro e w6 ⟨rfl, hR6⟩; have hc6 := HCELL.out _ _ _ _ hR6 List.mem_cons_self; have HR6 := Lib.hid hR6; clear hR6)
                refine ⟨?rel, ?measure⟩
                case rel => exact (HFIN.out _ HR6.out).1 (by first | trivial | rfl)
                case measure => simp [intOf]; omega
              · have heb : (e2 == 0) = false := by simpa using he
                have heb2 : (e2 != 0) = true := by simpa using he
                have HE := Lib.hid he
                clear he
                go_wp2_with (go_at_call 61; refine HW.out.mono ?_; rintro e w6 ⟨rfl, hR6⟩; have HR6 := Lib.hid hR6; clear hR6)
                go_ret
                obtain ⟨f1, f2⟩ := (HFIN.out _ HR6.out).2 HE.out
                exact ⟨by rw [← f1]; rfl, f2⟩
            · have HP := Lib.hid (HPR.out w3 W4 oa4 oc4 m3 m4 1101 hm4 HR3.out hU4 hrow hown)
              have hpc := HPG.out.symm.trans (page_b HM3.out hm4)
              simp only [Prod.mk.injEq] at hpc
              have HPC := Lib.hid hpc
              clear hrow hown hU4 hol hm4 hpc HPR HR3
              go_wp2_with (go_at_call 53; refine HP.out.mono ?_; rintro e w5 ⟨oa5, oc5, rfl, hR5⟩; have HR5 := Lib.hid hR5; clear hR5)
              go_ret
              obtain ⟨f1, f2⟩ := (HFIN.out _ (by rw [HPC.out.1]; exact docP_mono HR5.out (by omega))).2 (by rw [HPC.out.2]; decide)
              exact ⟨by rw [show e' = 1101 from f1.symm.trans HPC.out.2]; rfl, f2⟩
      · have HEN : Hid (Calls Tryz.prog 53 #[.pointer (some ⟨k, 0, none⟩), .int .i64 6, .int .i64 0, .slice none 0 0, .int .i64 0] W2 fun e w' => ∃ oa oc2, e = .returned (.tuple #[.slice oa 0 oc2, .int .i64 1101]) ∧ Ctx (DocP b k m3 (n + 4660 * (j : Int) + 9)) Q w0 w' ((.slice (some ⟨gx, ox, none⟩) M oc, ints (natI L)) :: rows)) := Lib.hid (by
          refine (d_go hR.nilrow 6 (by decide) (by decide) 0 none 0 [] List.mem_cons_self 0 en_may 8 (by rw [en_many]; decide) (by omega) m3 1101 [] hm3).mono ?_
          rintro e w' ⟨oa, oc, rfl, h3⟩
          exact ⟨oa, oc, rfl, by rw [show n + 4660 * (j : Int) + 9 = n + 4660 * (j : Int) + 8 + 1 by omega]; exact h3.tl.tl⟩)
        have hpc := HPG.out.symm.trans (page_a hm3)
        simp only [Prod.mk.injEq] at hpc
        have HPC := Lib.hid hpc
        clear het2 hes2 hdj hgj hD hbn hpg hR hgx hz hH hpu hx HR1 hm3 hd hul hdl hdb hne hgz HR hpc HPR HWT
        go_wp2_with (go_at_call 53; refine HEN.out.mono ?_; rintro e w3 ⟨oa3, oc3, rfl, hR3⟩; have HR3 := Lib.hid hR3; clear hR3)
        go_ret
        obtain ⟨f1, f2⟩ := (HFIN.out _ (by rw [HPC.out.1]; exact docP_mono HR3.out (by omega))).2 (by rw [HPC.out.2]; decide)
        exact ⟨by rw [show e' = 1101 from f1.symm.trans HPC.out.2]; rfl, f2⟩
    · obtain rfl : j = M := by omega
      rw [← HH.out.2.2.2.1, List.drop_length] at hbn
      have HF := Lib.hid hbn
      have HR := Lib.hid hR
      clear hD hbn hR
      go_wp2
      go_ret
      have hf : (m1, (0 : Int)) = (m', e') := HF.out
      simp only [Prod.mk.injEq] at hf
      rw [← hf.1, ← hf.2]
      exact ⟨rfl, docP_mono HR.out.tl (by omega)⟩
set_option maxRecDepth 100000 in
set_option maxHeartbeats 1000000 in
theorem ref_burn_no (k : Nat) (a : Int) (t : ByteArray) (h : fmayB a (t.size : Int) = false) (w : World) :
    Calls Tryz.prog 69 #[.pointer (some ⟨k, 0, none⟩), .int .i64 a, .string t] w fun e w' => e = .returned (.int .i64 1700) ∧ w = w' := by
  have hm := ref_pages_no a (t.size : Int) h
  clear h
  go_enter Tryz.func69, Tryz.ntmps69
  go_wp2_with (go_at_call 68; refine (hm _).mono ?_; rintro e w1 ⟨rfl, rfl⟩)
  go_ret
  exact ⟨rfl, rfl⟩
set_option maxRecDepth 100000 in
set_option maxHeartbeats 1000000 in
theorem ref_burn_image (k : Nat) (a : Nat) (t : ByteArray) (hl : t.size ≤ 512) (ha : a + t.size ≤ 4096) (h1 : 1 ≤ t.size) (h2 : a < 2048) (w : World) :
    Calls Tryz.prog 69 #[.pointer (some ⟨k, 0, none⟩), .int .i64 (a : Int), .string t] w fun e w' => e = .returned (.int .i64 1701) ∧ Upd none' w w' := by
  have hm := ref_pages_ok a t.size hl ha
  have h3 : (0 : Int) < (t.size : Int) := by omega
  have h4 : (a : Int) < 2048 := by omega
  go_enter Tryz.func69, Tryz.ntmps69
  go_wp2_with (go_at_call 68; refine (hm _).mono ?_; rintro e w1 ⟨v, rfl, hrow, hown, hU⟩)
  go_ret
  exact ⟨rfl, hU⟩
set_option maxRecDepth 100000 in
set_option maxHeartbeats 1000000 in
theorem ref_burn_empty (k : Nat) (a : Nat) (ha : a ≤ 4096) (w : World) :
    Calls Tryz.prog 69 #[.pointer (some ⟨k, 0, none⟩), .int .i64 (a : Int), .string ⟨#[]⟩] w fun e w' => e = .returned (.int .i64 0) ∧ Upd none' w w' := by
  have hm := ref_pages_ok a 0 (by omega) (by omega)
  rw [pagesL_zero] at hm
  go_enter Tryz.func69, Tryz.ntmps69
  go_wp2_with (go_at_call 68; refine (hm _).mono ?_; rintro e w1 ⟨v, rfl, hrow, hown, hU⟩; obtain ⟨oa, oc, rfl, -⟩ := hrow.form)
  clear hm
  go_loopw [9] (fun iv wr => iv = .int .i64 0 ∧ Upd none' w wr) (fun _ _ => 0)
  case atStart => exact ⟨rfl, hU⟩
  case round =>
    obtain ⟨rfl, hU2⟩ := hrel
    go_wp2
    go_ret
    exact ⟨rfl, hU2⟩
theorem d_burn {Q : Own} {b k : Nat} {m0 : Mac} {n : Int} {w0 w : World} {rows : List (Value × List Value)} (h : Ctx (DocP b k m0 n) Q w0 w rows) (a : Int) (t : ByteArray) (hn : n + 79220 ≤ 1048575)
    (m' : Mac) (e' : Int) (hbn : m0.burn a t.data.toList = (m', e')) :
    Calls Tryz.prog 69 #[.pointer (some ⟨k, 0, none⟩), .int .i64 a, .string t] w fun e w' => e = .returned (.int .i64 e') ∧ Ctx (DocP b k m' (n + 79220)) Q w0 w' rows := by
  unfold Mac.burn at hbn
  have hsz : t.data.toList.length = t.size := rfl
  rw [hsz] at hbn
  cases hf : fmayB a (t.size : Int) with
  | false =>
    rw [if_pos hf] at hbn
    simp only [Prod.mk.injEq] at hbn
    obtain ⟨rfl, rfl⟩ := hbn
    refine (ref_burn_no k a t hf w).mono ?_
    rintro e w' ⟨rfl, rfl⟩
    exact ⟨rfl, docP_mono h (by omega)⟩
  | true =>
    have hb := of_decide_eq_true hf
    rw [if_neg (by rw [hf]; decide)] at hbn
    obtain ⟨z, rfl⟩ : ∃ z : Nat, a = (z : Int) := ⟨a.toNat, by omega⟩
    rw [Int.toNat_natCast] at hbn
    by_cases h0 : t.size = 0
    · have ht0 : t = ⟨#[]⟩ := by
        obtain ⟨d⟩ := t
        simp only [ByteArray.size] at h0
        rw [Array.eq_empty_of_size_eq_zero h0]
      subst ht0
      rw [if_neg (fun hh => hh.1 rfl)] at hbn
      rw [show pagesL z (ByteArray.size ⟨#[]⟩) = [] from pagesL_zero z] at hbn
      have hf : (m0, (0 : Int)) = (m', e') := hbn
      simp only [Prod.mk.injEq] at hf
      obtain ⟨rfl, rfl⟩ := hf
      refine (ref_burn_empty k z (by omega) w).mono ?_
      rintro e w' ⟨rfl, hU⟩
      exact ⟨rfl, docP_mono (h.frame hU) (by omega)⟩
    · have hne : t.data.toList ≠ [] := by intro e; rw [e] at hsz; simp at hsz; omega
      by_cases hi : (z : Int) < 2048
      · rw [if_pos ⟨hne, hi⟩] at hbn
        simp only [Prod.mk.injEq] at hbn
        obtain ⟨rfl, rfl⟩ := hbn
        refine (ref_burn_image k z t (by omega) (by omega) (by omega) (by omega) w).mono ?_
        rintro e w' ⟨rfl, hU⟩
        exact ⟨rfl, docP_mono (h.frame hU) (by omega)⟩
      · rw [if_neg (fun hh => hi hh.2)] at hbn
        exact d_burns h z t (by omega) (by omega) (by omega) hn m' e' hbn
end Go.Proofs.YteombggfmeilaaaGreat
/- Both. -/
namespace Go.Proofs.YteombggfmeilaaaGreat
open Go.RowKit
theorem m_new_ok (fa : ByteArray) : (Mac.mk (St.new fa) KS.new).Ok := ⟨rfl, (show -9223372036854775808 ≤ (-1 : Int) ∧ (-1 : Int) ≤ 9223372036854775807 by decide), (show (0 : Int) ≤ 0 by decide), fun _ => rfl⟩
theorem p_new {Q : Own} {w0 w : World} {b : Nat} {fa : ByteArray} {rows : List (Value × List Value)} (hC : Ctx (ChipP b (St.new fa) 0) Q w0 w rows) :
    Calls Tryz.prog 49 #[.pointer (some ⟨b, 0, none⟩)] w fun e w' => ∃ k fo fi, e = .returned (.tuple #[.pointer (some ⟨k, 0, none⟩), .int .i64 0]) ∧ Ctx (ProgP b k fo fi ⟨St.new fa, KS.new⟩ 0) Q w0 w' rows := by
  refine (c_ctlnew hC).mono ?_
  rintro e w' ⟨k, fo, fi, rfl, h⟩
  exact ⟨k, fo, fi, rfl, progP_to (m := ⟨St.new fa, KS.new⟩) hC.okQ h ⟨Int.le_refl _, Int.le_refl _, m_new_ok fa, Int.le_refl _⟩⟩
theorem d_new {Q : Own} {w0 w : World} {b : Nat} {fa : ByteArray} {rows : List (Value × List Value)} (hC : Ctx Q (RefP b (St.new fa) 0) w0 w rows) :
    Calls Tryz.prog 52 #[.pointer (some ⟨b, 0, none⟩)] w fun e w' => ∃ k, e = .returned (.pointer (some ⟨k, 0, none⟩)) ∧ Ctx Q (DocP b k ⟨St.new fa, KS.new⟩ 0) w0 w' rows := by
  refine (rk_new (b := b) hC.commQ).mono ?_
  rintro e w' ⟨k, rfl, -, h⟩
  exact ⟨k, rfl, (docP_to (m := ⟨St.new fa, KS.new⟩) hC.okP h ⟨Int.le_refl _, Int.le_refl _, m_new_ok fa, Int.le_refl _⟩).commQ⟩
def Mac.next (m : Mac) (xs : List Int) : Mac := ⟨{ m.s with busy := xs }, m.K⟩
theorem Mac.Ok.next {m : Mac} (h : m.Ok) (xs : List Int) : (m.next xs).Ok := ⟨h.goes, h.left, h.clocks, h.sel⟩
def Mac.cut (m : Mac) (x : Int) : Mac := ⟨m.s, { m.K with left := x }⟩
theorem Mac.Ok.cut {m : Mac} (h : m.Ok) (x : Int) (hx : 0 ≤ x ∧ x ≤ 1048576) : (m.cut x).Ok := ⟨h.goes, ⟨by show -9223372036854775808 ≤ x; omega, by show x ≤ 9223372036854775807; omega⟩, h.clocks, h.sel⟩
theorem p_cut {Q : Own} {b k fo fi : Nat} {m : Mac} {n : Int} {w0 w : World} {rows : List (Value × List Value)} (h : Ctx (ProgP b k fo fi m n) Q w0 w rows) (x : Int) (hx : 0 ≤ x ∧ x ≤ 1048576) :
    Calls Tryz.prog 54 #[.pointer (some ⟨k, 0, none⟩), .int .i64 x] w fun e w' => e = .returned (.int .i64 0) ∧ Ctx (ProgP b k fo fi (m.cut x) n) Q w0 w' rows := by
  obtain ⟨N, hC, h1, h2, h3, h4⟩ := progP_of h
  refine (c_cut h.okQ hC x hx.1).mono ?_
  rintro e w' ⟨rfl, hC2⟩
  exact ⟨rfl, progP_to (m := m.cut x) h.okQ hC2 ⟨h1, h2, h3.cut x hx, h4⟩⟩
theorem d_cut {Q : Own} {b k : Nat} {m : Mac} {n : Int} {w0 w : World} {rows : List (Value × List Value)} (h : Ctx Q (DocP b k m n) w0 w rows) (x : Int) (hx : 0 ≤ x ∧ x ≤ 1048576) :
    Calls Tryz.prog 55 #[.pointer (some ⟨k, 0, none⟩), .int .i64 x] w fun e w' => e = .returned (.int .i64 0) ∧ Ctx Q (DocP b k (m.cut x) n) w0 w' rows := by
  obtain ⟨N, hC, h1, h2, h3, h4⟩ := docP_of h.commQ
  refine (rk_cut h.okP hC x hx.1).mono ?_
  rintro e w' ⟨rfl, hC2⟩
  exact ⟨rfl, (docP_to (m := m.cut x) h.okP hC2 ⟨h1, h2, h3.cut x hx, h4⟩).commQ⟩
theorem p_clocks {Q : Own} {b k fo fi : Nat} {m : Mac} {n : Int} {w0 w : World} {rows : List (Value × List Value)} (h : Ctx (ProgP b k fo fi m n) Q w0 w rows) : ∀ w', Upd none' w w' →
    Calls Tryz.prog 57 #[.pointer (some ⟨k, 0, none⟩)] w' fun e w'' => e = .returned (.int .i64 m.K.clocks) ∧ w' = w'' := by
  intro w' u
  obtain ⟨N, hC, -⟩ := progP_of (h.frame u)
  exact k_clocks hC
theorem p_lost {Q : Own} {b k fo fi : Nat} {m : Mac} {n : Int} {w0 w : World} {rows : List (Value × List Value)} (h : Ctx (ProgP b k fo fi m n) Q w0 w rows) : ∀ w', Upd none' w w' →
    Calls Tryz.prog 58 #[.pointer (some ⟨k, 0, none⟩)] w' fun e w'' => e = .returned (.bool m.K.lost) ∧ w' = w'' := by
  intro w' u
  obtain ⟨N, hC, -⟩ := progP_of (h.frame u)
  exact c_lost hC m.K.lost rfl
theorem d_cells {Q : Own} {b k : Nat} {m : Mac} {n : Int} {w0 w : World} {rows : List (Value × List Value)} (h : Ctx Q (DocP b k m n) w0 w rows) : ∀ w', Upd none' w w' → w'.cell? ⟨k, 6, none⟩ = some (.int .i64 m.K.clocks) ∧ w'.cell? ⟨k, 9, none⟩ = some (.bool m.K.lost) := by
  intro w' u
  obtain ⟨N, hC, -⟩ := docP_of (h.frame u).commQ
  obtain ⟨-, c6, -, -, c9, -⟩ := rkc_cells hC
  exact ⟨c6, c9⟩
theorem both_views {b k fo fi b2 k2 : Nat} {m m2 : Mac} {n n2 : Int} {w0 w : World} {rows : List (Value × List Value)} (h : Ctx (ProgP b k fo fi m n) (DocP b2 k2 m2 n2) w0 w rows) : ∀ w', Upd none' w w' → ∃ (N N2 : Int) (Q Q2 : Own), Ctx (ChipP b m.s N) Q w0 w' rows ∧ Ctx (RefP b2 m2.s N2) Q2 w0 w' rows := by
  intro w' u
  obtain ⟨N, hC, -⟩ := progP_of (h.frame u)
  obtain ⟨N2, hC2, -⟩ := docP_of (h.frame u).commQ
  exact ⟨N, N2, _, _, hC, hC2⟩
end Go.Proofs.YteombggfmeilaaaGreat
