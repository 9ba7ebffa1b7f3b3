/- CtxW Twins14 Lane -/
import Derived.Test.YteombggfmeilaaaGreatBa05
import Derived.Test.YteombggfmeilaaaGreatBa01
import Derived.Test.YteombggfmeilaaaGreatBa00
import Derived.Deep.RegionHeld3
/- CtxW. -/
namespace Go.Proofs.YteombggfmeilaaaGreat
open Go.RowKit
theorem Ctx.swap {P R Q : Own} {w0 w : World} {rows : List (Value × List Value)} (hR : R.Ok) (hQ : Q.Ok) (h : Ctx P (R.star Q) w0 w rows) : Ctx R (P.star Q) w0 w rows := by
  obtain ⟨S, ⟨A, D, hA, ⟨B, C, hB, hC, d1, e1⟩, d2, e2⟩, h2, h3⟩ := h.all
  refine ⟨hR, h.okP.star hQ, h.upd, S, ⟨B, fun k => A k ∨ C k, hB, ⟨A, C, hA, hC, fun k ha hc => d2 k ha ((e1 k).2 (.inr hc)), fun _ => Iff.rfl⟩, ?_, ?_⟩, h2, h3⟩
  · rintro k hb (ha | hc)
    · exact d2 k ha ((e1 k).2 (.inl hb))
    · exact d1 k hb hc
  · intro k
    rw [e2 k, e1 k]
    constructor
    · rintro (ha | hb | hc)
      · exact .inr (.inl ha)
      · exact .inl hb
      · exact .inr (.inr hc)
    · rintro (hb | ha | hc)
      · exact .inr (.inl hb)
      · exact .inl ha
      · exact .inr (.inr hc)
theorem Ctx.step2 {P R R' Q : Own} {w0 w w' : World} {rows : List (Value × List Value)} (hR : R.Ok) (hQ : Q.Ok) (hC : Ctx P (R.star Q) w0 w rows) (hR' : R'.Ok) (h : ∀ S, R w S → ∃ S', R' w' S' ∧ (∀ k, S' k → S k ∨ w.heap.size ≤ k) ∧ Upd S w w') : Ctx P (R'.star Q) w0 w' rows :=
  ((hC.swap hR hQ).step hR' h).swap hC.okP hQ
theorem Ctx.get2 {P R Q : Own} {w0 w : World} {rows : List (Value × List Value)} (h : Ctx P (R.star Q) w0 w rows) : ∃ S, R w S ∧ ∀ k, S k → w0.heap.size ≤ k := by
  obtain ⟨S, ⟨A, D, hA, ⟨B, C, hB, hC, d1, e1⟩, d2, e2⟩, h2, h3⟩ := h.all
  exact ⟨B, hB, fun k hk => h2 k ((e2 k).2 (.inr ((e1 k).2 (.inl hk))))⟩
theorem Ctx.drop2 {P R Q : Own} {w0 w : World} {rows : List (Value × List Value)} (hQ : Q.Ok) (h : Ctx P (R.star Q) w0 w rows) : Ctx P Q w0 w rows := by
  obtain ⟨S, ⟨A, D, hA, ⟨B, C, hB, hC, d1, e1⟩, d2, e2⟩, h2, h3⟩ := h.all
  exact ⟨h.okP, hQ, h.upd, fun k => A k ∨ C k, ⟨A, C, hA, hC, fun k ha hc => d2 k ha ((e1 k).2 (.inr hc)), fun _ => Iff.rfl⟩, fun k hk => h2 k ((e2 k).2 (hk.imp id fun hc => (e1 k).2 (.inr hc))), fun r hr => ⟨(h3 r hr).1, fun k hk => ⟨((h3 r hr).2.1 k hk).1, fun hs => ((h3 r hr).2.1 k hk).2 ((e2 k).2 (hs.imp id fun hc => (e1 k).2 (.inr hc)))⟩, (h3 r hr).2.2⟩⟩
theorem Ctx.add2 {P Q R : Own} {w0 w w' : World} {rows : List (Value × List Value)} (hC : Ctx P Q w0 w rows) (hR : R.Ok) (hu : Upd none' w w') {B : Nat → Prop} (hB : R w' B) (hn : ∀ k, B k → w.heap.size ≤ k) : Ctx P (R.star Q) w0 w' rows := by
  obtain ⟨S, ⟨A, E, hA, hE, hd, hS⟩, h2, h3⟩ := hC.all
  have h0 := hC.upd.size
  have hlt := hC.okP.lt hA
  have hlt2 := hC.okQ.lt hE
  refine ⟨hC.okP, hR.star hC.okQ, hC.upd.trans hu (fun _ _ f => f), fun k => A k ∨ B k ∨ E k, ⟨A, fun k => B k ∨ E k, hC.okP.frame hA hu (fun _ _ f => f), ⟨B, E, hB, hC.okQ.frame hE hu (fun _ _ f => f), fun k hb he => ?_, fun _ => Iff.rfl⟩, fun k ha hb => ?_, fun _ => Iff.rfl⟩, ?_, ?_⟩
  · have := hn k hb; have := hlt2 k he; omega
  · rcases hb with hb | hb
    · have := hlt k ha; have := hn k hb; omega
    · exact hd k ha hb
  · rintro k (h1 | h1 | h1)
    · exact h2 k ((hS k).2 (.inl h1))
    · have := hn k h1; omega
    · exact h2 k ((hS k).2 (.inr h1))
  · intro r hr
    refine (h3 r hr).upd hu (fun _ f => f.elim) ?_
    rintro k (h6 | h6 | h6)
    · exact .inl ((hS k).2 (.inl h6))
    · exact .inr (hn k h6)
    · exact .inl ((hS k).2 (.inr h6))
theorem Ctx.rs_mem {P Q : Own} {w0 w : World} {rows : List (Value × List Value)} (h : Ctx P Q w0 w rows) {v : Value} {vs : List Value} (hm : (v, vs) ∈ rows) : RS w v vs := by
  obtain ⟨S, h1, h2, h3⟩ := h.all
  exact (h3 _ hm).1
theorem Ctx.old {P Q : Own} {w0 w : World} {rows news : List (Value × List Value)} (h : Ctx P Q w0 w rows) (hn : ∀ r ∈ news, RS w0 r.1 r.2 ∧ ∀ k, r.1.ownBlock = some k → k < w0.heap.size) : Ctx P Q w0 w (news ++ rows) := by
  obtain ⟨S, h1, h2, h3⟩ := h.all
  refine ⟨h.okP, h.okQ, h.upd, S, h1, h2, fun r hr => ?_⟩
  rcases List.mem_append.1 hr with hr | hr
  · exact ⟨(hn r hr).1.upd h.upd (fun _ _ _ f => f), fun k hk => ⟨Nat.lt_of_lt_of_le ((hn r hr).2 k hk) h.upd.size, fun hs => by have := h2 k hs; have := (hn r hr).2 k hk; omega⟩, fun k hk h0 => absurd ((hn r hr).2 k hk) (by omega)⟩
  · exact h3 r hr
def phCells (x : Ph × Value) : List Value := [.int .i64 x.1.lanes, x.2, .int .i64 x.1.clocks, .int .i64 x.1.read]
def i64B (n : Int) : Prop := -9223372036854775808 ≤ n ∧ n ≤ 9223372036854775807
def PhsV (rows : List (Value × List Value)) (v : Value) (L : List (Ph × Value)) : Prop :=
  ∃ a cap, v = .slice a L.length cap ∧ L.length ≤ cap ∧ (a = none → cap = 0) ∧ L.length ≤ 4398046511104 ∧ (L = [] ∨ (.slice a (4 * L.length) (4 * L.length), L.flatMap phCells) ∈ rows) ∧ ∀ x ∈ L, (∃ a c, x.2 = .slice a x.1.bytes.length c ∧ x.1.bytes.length ≤ c) ∧ x.1.bytes.length * 8 ≤ 140737488351232 ∧ (x.1.bytes = [] ∨ (x.2, ints x.1.bytes) ∈ rows)
theorem flat4_len (L : List (Ph × Value)) : (L.flatMap phCells).length = 4 * L.length := by
  induction L with
  | nil => rfl
  | cons x L ih => rw [List.flatMap_cons, List.length_append, ih, List.length_cons]; show 4 + _ = _; omega
theorem flat4_at (L : List (Ph × Value)) : ∀ (i j : Nat) (_ : j < 4) (h : i < L.length), (L.flatMap phCells)[4 * i + j]? = (phCells L[i])[j]? := by
  induction L with
  | nil => intro i j _ h; simp at h
  | cons x L ih =>
    intro i j hj h
    rw [List.flatMap_cons]
    cases i with
    | zero => rw [List.getElem?_append_left (show 4 * 0 + j < 4 by omega)]; rw [show 4 * 0 + j = j by omega]; rfl
    | succ i =>
      rw [List.getElem?_append_right (show 4 ≤ 4 * (i + 1) + j by omega)]
      rw [show 4 * (i + 1) + j - (phCells x).length = 4 * i + j from by show 4 * (i + 1) + j - 4 = _; omega, ih i j hj (by rw [List.length_cons] at h; omega)]
      rfl
theorem phs_cells {P Q : Own} {w0 w : World} {rows : List (Value × List Value)} (hC : Ctx P Q w0 w rows) {a : Option Addr} {n cap : Nat} {L : List (Ph × Value)} (h : PhsV rows (.slice a n cap) L) (i : Nat) (hi : i < L.length) :
    n = L.length ∧ n ≤ cap ∧ ∃ g o, a = some ⟨g, o, none⟩ ∧ g < w.heap.size ∧ w.cell? ⟨g, o + i * 4, none⟩ = some (.int .i64 L[i].1.lanes) ∧ w.cell? ⟨g, o + i * 4 + 1, none⟩ = some L[i].2 ∧ w.cell? ⟨g, o + i * 4 + 2, none⟩ = some (.int .i64 L[i].1.clocks) ∧ w.cell? ⟨g, o + i * 4 + 3, none⟩ = some (.int .i64 L[i].1.read) := by
  obtain ⟨a', cap', e, hc, _, _, hm0, _⟩ := h
  simp only [Value.slice.injEq] at e
  obtain ⟨rfl, rfl, rfl⟩ := e
  have hm := hm0.resolve_left (fun e => by rw [e] at hi; simp at hi)
  obtain ⟨g, o, rfl, hg, hcell⟩ := (hC.rs_mem hm).cells (by omega)
  refine ⟨rfl, hc, g, o, rfl, hg, ?_, ?_, ?_, ?_⟩
  · have := hcell (4 * i + 0) (by omega); rw [flat4_at L i 0 (by omega) hi] at this; rw [show o + i * 4 = o + (4 * i + 0) by omega]; exact this
  · have := hcell (4 * i + 1) (by omega); rw [flat4_at L i 1 (by omega) hi] at this; rw [show o + i * 4 + 1 = o + (4 * i + 1) by omega]; exact this
  · have := hcell (4 * i + 2) (by omega); rw [flat4_at L i 2 (by omega) hi] at this; rw [show o + i * 4 + 2 = o + (4 * i + 2) by omega]; exact this
  · have := hcell (4 * i + 3) (by omega); rw [flat4_at L i 3 (by omega) hi] at this; rw [show o + i * 4 + 3 = o + (4 * i + 3) by omega]; exact this
theorem phs_bytes {rows : List (Value × List Value)} {v : Value} {L : List (Ph × Value)} (h : PhsV rows v L) (i : Nat) (hi : i < L.length) :
    ∃ a c, L[i].2 = .slice a L[i].1.bytes.length c ∧ (∀ {P Q : Own} {w0 w : World}, Ctx P Q w0 w rows → RS w (.slice a L[i].1.bytes.length c) (ints L[i].1.bytes)) ∧ L[i].1.bytes.length * 8 ≤ 140737488351232 := by
  obtain ⟨a', cap', e, hc, _, _, hm, h5⟩ := h
  obtain ⟨⟨a, c, e2, hle⟩, h6, h7⟩ := h5 _ (List.getElem_mem hi)
  refine ⟨a, c, e2, fun hC => ?_, h6⟩
  rcases h7 with h7 | h7
  · rw [h7]
    exact ⟨by decide, a, c, rfl, Nat.zero_le _, fun h => absurd rfl h⟩
  · rw [← e2]; exact hC.rs_mem h7
theorem phs_len {rows : List (Value × List Value)} {v : Value} {L : List (Ph × Value)} (h : PhsV rows v L) : L.length ≤ 4398046511104 := by
  obtain ⟨a', cap', e, hc, _, hl, _⟩ := h
  exact hl
theorem PhsV.sub {rows rows' : List (Value × List Value)} {v : Value} {L : List (Ph × Value)} (h : PhsV rows v L) (hs : ∀ r ∈ rows, r ∈ rows') : PhsV rows' v L := by
  obtain ⟨a, cap, h1, h2, h3, h4, h5, h6⟩ := h
  exact ⟨a, cap, h1, h2, h3, h4, h5.imp id (hs _), fun x hx => ⟨(h6 x hx).1, (h6 x hx).2.1, (h6 x hx).2.2.imp id (hs _)⟩⟩
theorem ph_form {P Q : Own} {w0 w : World} {rows : List (Value × List Value)} (hC : Ctx P Q w0 w rows) {x : Ph × Value} (h : (x.2, ints x.1.bytes) ∈ rows) : (∃ a c, x.2 = .slice a x.1.bytes.length c ∧ x.1.bytes.length ≤ c) ∧ x.1.bytes.length * 8 ≤ 140737488351232 := by
  obtain ⟨h1, a, c, h2, h3, _⟩ := hC.rs_mem h
  rw [ints_len] at h1 h2 h3
  exact ⟨⟨a, c, h2, h3⟩, h1⟩
end Go.Proofs.YteombggfmeilaaaGreat
/- Twins14. -/
namespace Go.Proofs.YteombggfmeilaaaGreat
open Go.RowKit
set_option maxRecDepth 100000 in
set_option maxHeartbeats 2000000 in
theorem twins14 (s : ByteArray) (w : World) (hs : s.size ≤ 9223372036854775807) :
    Calls Tryz.prog 59 #[.string s] w fun e w' => ∃ b S r v, e = .returned (.tuple #[.pointer (some ⟨b, 0, none⟩), .pointer (some ⟨r, 0, none⟩)]) ∧ ChipAt w' b (St.new ⟨(freshL s).toArray⟩) S ∧ (∀ k, S k → w.heap.size ≤ k) ∧ RefNew w' r ⟨(freshL s).toArray⟩ v ∧ (w.heap.size ≤ r ∧ ¬ S r) ∧ (∀ k, v.ownBlock = some k → w.heap.size ≤ k ∧ ¬ S k) ∧ Upd none' w w' := by
  have hbk := ref_blank w
  obtain ⟨bl, hbl⟩ : ∃ bl : ByteArray, bl = ⟨blankL.toArray⟩ := ⟨_, rfl⟩
  have hsz : bl.size = 4096 := by rw [hbl]; exact List.length_replicate
  have hdl : bl.data.toList = blankL := by rw [hbl]
  rw [← hbl] at hbk
  have HDL := Lib.hid hdl
  clear hbl hdl
  go_enter Tryz.func59, Tryz.ntmps59
  go_wp2_with (go_at_call 13; refine hbk.mono ?_; rintro e w1 ⟨rfl, hU1⟩; have kc := Lib.run_convert_string_bytes (P := Tryz.prog) w1 9 23 5 bl Tryz.underlying9 Tryz.underlying23 Tryz.underlying5)
  have hBz := Buf.of_bytes w1 5 bl
  have hUz := hU1.trans (upd_bytes w1 5 bl) (fun _ _ f => f)
  have hs1 := hU1.size
  clear kc hbk hU1
  go_loopw [5] (fun iv wr => ∃ (i : Nat) (l : List UInt8), i ≤ 4096 ∧ iv = .int .i64 i ∧ Upd none' w wr ∧ Buf wr w1.heap.size l 5 ∧ (s.size = 0 → i = 0) ∧ Hid (l = ((List.range 4096).map (freshAt s)).take i ++ blankL.drop i)) (fun iv _ => 4096 - (intOf iv).toNat)
  case atStart => exact ⟨0, _, by omega, rfl, hUz, hBz, fun _ => rfl, Lib.hid (by rw [HDL.out, List.take_zero, List.drop_zero, List.nil_append])⟩
  case round =>
    clear hBz hUz
    obtain ⟨i, l, hi, rfl, hU, hB, hs0, hl⟩ := hrel
    have hll : l.length = 4096 := by
      rw [hl.out, List.length_append, List.length_take, List.length_drop, List.length_map, List.length_range, show blankL.length = 4096 from List.length_replicate]
      omega
    by_cases hz : s.size = 0
    · have hi0 := hs0 hz
      subst hi0
      have hse : s = ⟨#[]⟩ := by
        obtain ⟨d⟩ := s
        simp only [ByteArray.size] at hz
        rw [Array.eq_empty_of_size_eq_zero hz]
      have hfin : l = freshL s := by
        rw [hl.out, List.take_zero, List.drop_zero, List.nil_append]
        unfold freshL
        rw [if_pos hz]
      · clear hs0
        subst hse
        have hst := fun cap => run_string_buf hB 23 5 9 Tryz.underlying23 Tryz.underlying5 Tryz.underlying9 4096 cap hll
        have HN := Lib.hid (chip_new ⟨l.toArray⟩ wr (by simpa [ByteArray.size] using hll))
        have HRF := Lib.hid (fun w => ref_new ⟨l.toArray⟩ w (by simpa [ByteArray.size] using hll))
        have hB2 := fun w2 (u : Upd none' wr w2) cap => run_string_buf (hB.upd u (fun f => f)) 23 5 9 Tryz.underlying23 Tryz.underlying5 Tryz.underlying9 4096 cap hll
        have HB2 := Lib.hid hB2
        clear hB2
        have HU := Lib.hid hU
        have HL := Lib.hid hfin
        clear hB hU hfin hl
        go_wp2_with (first | (go_at_call 15; refine (HRF.out _).mono ?_; rintro e w3 ⟨r, v, rfl, hr, hBr, hRv, hv, hU3⟩) | (go_at_call 14; refine HN.out.mono ?_; rintro e w2 ⟨b, S, rfl, hA, hS, hU2⟩; have hst2 := HB2.out _ hU2))
        go_ret2
        have hlt := hA.lt
        have hsz := HU.out.size
        have hsz2 := hU2.size
        refine ⟨b, S, r, v, rfl, by rw [← HL.out]; exact hA.upd hU3 (fun _ _ f => f), fun k hk => ?_, by rw [← HL.out]; exact ⟨hBr, hRv, fun k hk => (hv k hk).2⟩, ⟨by omega, fun hs => ?_⟩, fun k hk => ⟨?_, fun hs => ?_⟩, (HU.out.trans hU2 (fun _ _ f => f)).trans hU3 (fun _ _ f => f)⟩
        · have := hS k hk; omega
        · have := hlt r hs; omega
        · have := (hv k hk).1; omega
        · have := hlt k hs; have := (hv k hk).1; omega
    · have hpos : 0 < s.size := by omega
      have hne := str_nonempty s hpos
      by_cases hlt : i < 4096
      · have hq : i % s.size < s.size := Nat.mod_lt _ hpos
        have hfa : freshAt s i = s[i % s.size] := by unfold freshAt; rw [str_at s _ hq]
        have hc := hB.cell (j := i) (by omega)
        have hf := hB.frozen (j := i) (by omega)
        have HB := Lib.hid (hB.set (j := i) (by omega) (freshAt s i))
        have HU := Lib.hid (hU.setCell ⟨w1.heap.size, i, none⟩ (.int .u8 (freshAt s i).toNat) (fun h => absurd h (by dsimp only; omega)))
        have HFA := Lib.hid hfa
        clear hB hU hfa hs0
        go_wp2
        refine ⟨⟨i + 1, _, by omega, by go_num, ?_, ?_, fun h => absurd h hz, Lib.hid (fresh_step s l i hlt hl.out)⟩, by simp [intOf]; omega⟩
        · have := HU.out
          rw [HFA.out] at this
          exact this
        · have := HB.out
          rw [HFA.out] at this ⊢
          exact this
      · have hieq : i = 4096 := by omega
        subst hieq
        have hfin : l = freshL s := by
          rw [hl.out]
          unfold freshL
          rw [if_neg hz, List.take_of_length_le (by rw [List.length_map, List.length_range]; exact Nat.le_refl _), List.drop_of_length_le (by rw [show blankL.length = 4096 from List.length_replicate]; exact Nat.le_refl _), List.append_nil]
        clear hs0
        have hst := fun cap => run_string_buf hB 23 5 9 Tryz.underlying23 Tryz.underlying5 Tryz.underlying9 4096 cap hll
        have HN := Lib.hid (chip_new ⟨l.toArray⟩ wr (by simpa [ByteArray.size] using hll))
        have HRF := Lib.hid (fun w => ref_new ⟨l.toArray⟩ w (by simpa [ByteArray.size] using hll))
        have hB2 := fun w2 (u : Upd none' wr w2) cap => run_string_buf (hB.upd u (fun f => f)) 23 5 9 Tryz.underlying23 Tryz.underlying5 Tryz.underlying9 4096 cap hll
        have HB2 := Lib.hid hB2
        clear hB2
        have HU := Lib.hid hU
        have HL := Lib.hid hfin
        clear hB hU hfin hl
        go_wp2_with (first | (go_at_call 15; refine (HRF.out _).mono ?_; rintro e w3 ⟨r, v, rfl, hr, hBr, hRv, hv, hU3⟩) | (go_at_call 14; refine HN.out.mono ?_; rintro e w2 ⟨b, S, rfl, hA, hS, hU2⟩; have hst2 := HB2.out _ hU2))
        go_ret2
        have hlt := hA.lt
        have hsz := HU.out.size
        have hsz2 := hU2.size
        refine ⟨b, S, r, v, rfl, by rw [← HL.out]; exact hA.upd hU3 (fun _ _ f => f), fun k hk => ?_, by rw [← HL.out]; exact ⟨hBr, hRv, fun k hk => (hv k hk).2⟩, ⟨by omega, fun hs => ?_⟩, fun k hk => ⟨?_, fun hs => ?_⟩, (HU.out.trans hU2 (fun _ _ f => f)).trans hU3 (fun _ _ f => f)⟩
        · have := hS k hk; omega
        · have := hlt r hs; omega
        · have := (hv k hk).1; omega
        · have := hlt k hs; have := (hv k hk).1; omega
theorem c_twins14 {w0 w : World} (h : Upd none' w0 w) (s : ByteArray) (hs : s.size ≤ 9223372036854775807) (fa : ByteArray) (hfa : (⟨(freshL s).toArray⟩ : ByteArray) = fa) :
    Calls Tryz.prog 59 #[.string s] w fun e w' => ∃ b r, e = .returned (.tuple #[.pointer (some ⟨b, 0, none⟩), .pointer (some ⟨r, 0, none⟩)]) ∧ Ctx (ChipP b (St.new fa) 0) .emp w0 w' [] := by
  refine (twins14 s w hs).mono ?_
  rintro e w' ⟨b, S, r, v, rfl, hA, hS, -, -, -, hU⟩
  rw [hfa] at hA
  have hsz : fa.size = 4096 := by rw [← hfa]; simpa [ByteArray.size] using freshL_len s
  exact ⟨b, r, rfl, chipP_ok _ _ _, Own.emp_ok, h.trans hU (fun _ _ f => f), S, ⟨S, none', ⟨hA, new_inv fa hsz⟩, fun _ f => f, fun _ _ f => f, fun k => ⟨.inl, fun h => h.elim (fun x => x) (fun f => f.elim)⟩⟩, fun k hk => Nat.le_trans h.size (hS k hk), fun r hr => by simp at hr⟩
end Go.Proofs.YteombggfmeilaaaGreat
/- Lane. -/
namespace Go.Proofs.YteombggfmeilaaaGreat
open Go.RowKit
theorem step_app1 {P : Program} {w : World} {ops : Array Oper} {o : Oper} {a : Act} {K : Act → World → Prop} {Q : Exit → Act → World → Prop} {E : Prop} (hgd : o.guard = none) (s x : Operand) (t : TypeId)
    (ho : o.op = .call { callee := .builtin .append, args := #[s, x], argTypes := #[t, t] })
    (e : TypeId) (z : Value) (bytes : Nat) (ht : P.underlying t = some (.slice e)) (hi : (P.info? e).map (fun i => (i.zero, i.size, i.bytes)) = some (some z, 1, bytes)) (hzs : z.cells.size = 1)
    (v : Value) (xs : List Value) (n : Nat) (hn : xs.length = n) (hs : a.eval s = v) (w0 : World) (u : Value) (hA : w.Alike (w0.alloc (.cells #[u] e))) (hown : Row w0 e v xs)
    (hx : a.eval x = .slice (some ⟨w0.heap.size, 0, none⟩) 1 1) (hu : u.oneCell' = true) (hlen : n ≤ 17592186044415) (hbytes : (n + 1) * bytes ≤ 140737488355328)
    (h : ∀ g cap w', Row w' e (.slice (some ⟨g, 0, none⟩) (n + 1) cap) (xs ++ [u]) → Upd (fun k => v.ownBlock = some k) w0 w' → (v.ownBlock = some g ∨ w0.heap.size ≤ g) → g < w'.heap.size → K (a.put o.dst (.slice (some ⟨g, 0, none⟩) (n + 1) cap)) w') :
    if Region.wanted o (yielded ops a.tmps) = true then Oper.wp P o a w K Q else E := by
  subst hn
  obtain ⟨i0, hi0, hz0, hz1, hz2⟩ := info_parts hi
  have hU : Upd none' w0 w := ((Upd.refl none' w0).alloc _).alike hA
  refine step_append_lies w hgd s x t ho 0 e i0 z 1 bytes ht hi0 hz0 hz1 hz2 hzs (by decide) v xs.length xs hs (hown.upd hU (fun _ _ f => f)) ⟨w0.heap.size, 0, none⟩ 1 1 [u] hx rfl ?_ ?_ (by decide) (by unfold maxLen; omega) hbytes (Nat.zero_le _) w.heap.size rfl ?_
  · intro j u' hj
    match j, hj with
    | 0, hj =>
      simp at hj; subst hj
      have := (Blk.new w0 [u] e).alike hA
      have := this.cell 0
      simpa [Addr.add] using this
    | j + 1, hj => simp at hj
  · intro u' hu'
    simp at hu'; subst hu'; exact hu
  · intro g cap w' h2 h3 h4 h5
    refine h g cap w' ?_ ((hU.mono (fun _ _ f => f.elim)).trans ((Upd.refl _ w).grown h3 (fun k hk _ => hk)) (fun _ _ k => k)) ?_ h5
    · unfold Row
      rw [List.length_append]; exact h2
    · rcases h4 with h4 | h4
      · exact .inl h4
      · exact .inr (by rw [h4]; exact hU.size)
end Go.Proofs.YteombggfmeilaaaGreat
namespace Go.Proofs.YteombggfmeilaaaGreat
open Go.RowKit
theorem lane_lanes (n : Int) (w : World) : Calls Tryz.prog 176 #[.int .i64 n] w fun e w' => e = .returned (.bool (lanesB n)) ∧ w = w' := by
  by_cases h1 : n = 1
  · subst h1
    go_enter Tryz.func176, Tryz.ntmps176
    go_wp2
    go_ret
    exact ⟨rfl, rfl⟩
  · by_cases h4 : n = 4
    · subst h4
      go_enter Tryz.func176, Tryz.ntmps176
      go_wp2
      go_ret
      exact ⟨rfl, rfl⟩
    · have e1 : (n == 1) = false := by simpa using h1
      have e4 : (n == 4) = false := by simpa using h4
      go_enter Tryz.func176, Tryz.ntmps176
      go_wp2
      go_ret
      exact ⟨by rw [show lanesB n = false from decide_eq_false (by omega)]; rfl, rfl⟩
theorem lane_byte (b : Int) (w : World) : Calls Tryz.prog 175 #[.int .i64 b] w fun e w' => e = .returned (.bool (byteB b)) ∧ w = w' := by
  by_cases h1 : 0 ≤ b
  · by_cases h2 : b < 256
    · go_enter Tryz.func175, Tryz.ntmps175
      go_wp2
      go_ret
      exact ⟨by rw [show byteB b = true from decide_eq_true ⟨h1, h2⟩]; rfl, rfl⟩
    · go_enter Tryz.func175, Tryz.ntmps175
      go_wp2
      go_ret
      exact ⟨by rw [show byteB b = false from decide_eq_false (by omega)]; rfl, rfl⟩
  · go_enter Tryz.func175, Tryz.ntmps175
    go_wp2
    go_ret
    exact ⟨by rw [show byteB b = false from decide_eq_false (by omega)]; rfl, rfl⟩
def outBits (b l : Int) : List Int := if l = 1 then [b / 128 % 2, b / 64 % 2, b / 32 % 2, b / 16 % 2, b / 8 % 2, b / 4 % 2, b / 2 % 2, b % 2] else [b / 16 % 16, b % 16]
set_option maxHeartbeats 2000000 in
theorem lane_out1 (w : World) (b : Int) (hb : 0 ≤ b ∧ b < 256) :
    Calls Tryz.prog 199 #[.int .i64 b, .int .i64 1] w fun e w' => ∃ v, e = .returned (.tuple #[v, .int .i64 0]) ∧ Row w' 3 v (ints (outBits b 1)) ∧ (∀ k, v.ownBlock = some k → w.heap.size ≤ k) ∧ Upd none' w w' := by
  have hby := lane_byte b
  rw [show byteB b = true from decide_eq_true hb] at hby
  have hla := lane_lanes 1
  go_enter Tryz.func199, Tryz.ntmps199
  go_wp2_with (first | (go_at_call 176; refine (hla _).mono ?_; rintro e w1 ⟨rfl, rfl⟩) | (go_at_call 175; refine (hby _).mono ?_; rintro e w1 ⟨rfl, rfl⟩))
  clear hby hla
  go_loopw [6, 7] (fun ov jv wr => ∃ j : Nat, j ≤ 8 ∧ jv = .int .i64 (7 - 1 * (j : Int)) ∧ Row wr 3 ov (ints ((outBits b 1).take j)) ∧ (∀ k, ov.ownBlock = some k → w.heap.size ≤ k) ∧ Upd none' w wr) (fun _ jv _ => (intOf jv + 1).toNat)
  case atStart => exact ⟨0, by omega, rfl, by rw [List.take_zero]; exact Row.nil _ _, fun k hk => (by simp [Value.ownBlock] at hk), Upd.refl _ _⟩
  case round =>
    rename World => W2
    obtain ⟨j, hj, rfl, hrow2, hown2, hU2⟩ := hrel
    obtain ⟨oa2, oc2, rfl, -⟩ := hrow2.form
    have hol2 : (ints ((outBits b 1).take j)).length = j := by
      rw [ints_len, List.length_take, show (outBits b 1).length = 8 from rfl, Nat.min_eq_left hj]
    rw [hol2] at hrow2 hown2 ⊢
    have HROW2 := Lib.hid hrow2
    have HOWN2 := Lib.hid hown2
    have HU2 := Lib.hid hU2
    have HOL := Lib.hid hol2
    clear hrow2 hown2 hU2 hol2
    rcases (show j = 0 ∨ j = 1 ∨ j = 2 ∨ j = 3 ∨ j = 4 ∨ j = 5 ∨ j = 6 ∨ j = 7 ∨ j = 8 by omega) with rfl | rfl | rfl | rfl | rfl | rfl | rfl | rfl | rfl
    · have ha := i64_and1 (b / 128)
      go_upto_region 7 with fail
      go_region_held3 (fun w' => True) (exact trivial) ((go_must (refine step_app1 rfl _ _ 33 rfl 3 (.int .i64 0) 8 Tryz.underlying33 info_int rfl (.slice oa2 0 oc2) (ints ((outBits b 1).take 0)) 0 HOL.out rfl W2 (.int .i64 (bits .and .i64 (b / 128) (IntKind.i64.wrap (IntKind.i64.wrap 2 - 1)))) ⟨rfl, rfl, rfl⟩ HROW2.out rfl rfl (by omega) (by omega) ?_); intro g cap w3 hR3 hU3 hg3 hgs3; rw [show IntKind.i64.wrap (IntKind.i64.wrap 2 - 1) = 1 from by decide, ha] at hR3))
      all_goals
        go_wp2
        refine ⟨?rel, ?measure⟩
        case rel =>
          have hg : w.heap.size ≤ g := by
            rcases hg3 with e | e
            · exact HOWN2.out g e
            · have := HU2.out.size; omega
          refine ⟨1, by omega, by go_num, ?_, ?_, ?_⟩
          · rw [show (outBits b 1).take 1 = (outBits b 1).take 0 ++ [b / 128 % 2] from rfl, ints_app]
            exact hR3
          · intro k hk
            simp [Value.ownBlock] at hk
            rw [← hk]
            exact hg
          · exact HU2.out.trans hU3 (fun k h1 h2 => absurd (HOWN2.out k h2) (by omega))
        case measure => (try simp [intOf]); (try omega)
    · have ha := i64_and1 (b / 64)
      go_upto_region 7 with fail
      go_region_held3 (fun w' => True) (exact trivial) ((go_must (refine step_app1 rfl _ _ 33 rfl 3 (.int .i64 0) 8 Tryz.underlying33 info_int rfl (.slice oa2 1 oc2) (ints ((outBits b 1).take 1)) 1 HOL.out rfl W2 (.int .i64 (bits .and .i64 (b / 64) (IntKind.i64.wrap (IntKind.i64.wrap 2 - 1)))) ⟨rfl, rfl, rfl⟩ HROW2.out rfl rfl (by omega) (by omega) ?_); intro g cap w3 hR3 hU3 hg3 hgs3; rw [show IntKind.i64.wrap (IntKind.i64.wrap 2 - 1) = 1 from by decide, ha] at hR3))
      all_goals
        go_wp2
        refine ⟨?rel, ?measure⟩
        case rel =>
          have hg : w.heap.size ≤ g := by
            rcases hg3 with e | e
            · exact HOWN2.out g e
            · have := HU2.out.size; omega
          refine ⟨2, by omega, by go_num, ?_, ?_, ?_⟩
          · rw [show (outBits b 1).take 2 = (outBits b 1).take 1 ++ [b / 64 % 2] from rfl, ints_app]
            exact hR3
          · intro k hk
            simp [Value.ownBlock] at hk
            rw [← hk]
            exact hg
          · exact HU2.out.trans hU3 (fun k h1 h2 => absurd (HOWN2.out k h2) (by omega))
        case measure => (try simp [intOf]); (try omega)
    · have ha := i64_and1 (b / 32)
      go_upto_region 7 with fail
      go_region_held3 (fun w' => True) (exact trivial) ((go_must (refine step_app1 rfl _ _ 33 rfl 3 (.int .i64 0) 8 Tryz.underlying33 info_int rfl (.slice oa2 2 oc2) (ints ((outBits b 1).take 2)) 2 HOL.out rfl W2 (.int .i64 (bits .and .i64 (b / 32) (IntKind.i64.wrap (IntKind.i64.wrap 2 - 1)))) ⟨rfl, rfl, rfl⟩ HROW2.out rfl rfl (by omega) (by omega) ?_); intro g cap w3 hR3 hU3 hg3 hgs3; rw [show IntKind.i64.wrap (IntKind.i64.wrap 2 - 1) = 1 from by decide, ha] at hR3))
      all_goals
        go_wp2
        refine ⟨?rel, ?measure⟩
        case rel =>
          have hg : w.heap.size ≤ g := by
            rcases hg3 with e | e
            · exact HOWN2.out g e
            · have := HU2.out.size; omega
          refine ⟨3, by omega, by go_num, ?_, ?_, ?_⟩
          · rw [show (outBits b 1).take 3 = (outBits b 1).take 2 ++ [b / 32 % 2] from rfl, ints_app]
            exact hR3
          · intro k hk
            simp [Value.ownBlock] at hk
            rw [← hk]
            exact hg
          · exact HU2.out.trans hU3 (fun k h1 h2 => absurd (HOWN2.out k h2) (by omega))
        case measure => (try simp [intOf]); (try omega)
    · have ha := i64_and1 (b / 16)
      go_upto_region 7 with fail
      go_region_held3 (fun w' => True) (exact trivial) ((go_must (refine step_app1 rfl _ _ 33 rfl 3 (.int .i64 0) 8 Tryz.underlying33 info_int rfl (.slice oa2 3 oc2) (ints ((outBits b 1).take 3)) 3 HOL.out rfl W2 (.int .i64 (bits .and .i64 (b / 16) (IntKind.i64.wrap (IntKind.i64.wrap 2 - 1)))) ⟨rfl, rfl, rfl⟩ HROW2.out rfl rfl (by omega) (by omega) ?_); intro g cap w3 hR3 hU3 hg3 hgs3; rw [show IntKind.i64.wrap (IntKind.i64.wrap 2 - 1) = 1 from by decide, ha] at hR3))
      all_goals
        go_wp2
        refine ⟨?rel, ?measure⟩
        case rel =>
          have hg : w.heap.size ≤ g := by
            rcases hg3 with e | e
            · exact HOWN2.out g e
            · have := HU2.out.size; omega
          refine ⟨4, by omega, by go_num, ?_, ?_, ?_⟩
          · rw [show (outBits b 1).take 4 = (outBits b 1).take 3 ++ [b / 16 % 2] from rfl, ints_app]
            exact hR3
          · intro k hk
            simp [Value.ownBlock] at hk
            rw [← hk]
            exact hg
          · exact HU2.out.trans hU3 (fun k h1 h2 => absurd (HOWN2.out k h2) (by omega))
        case measure => (try simp [intOf]); (try omega)
    · have ha := i64_and1 (b / 8)
      go_upto_region 7 with fail
      go_region_held3 (fun w' => True) (exact trivial) ((go_must (refine step_app1 rfl _ _ 33 rfl 3 (.int .i64 0) 8 Tryz.underlying33 info_int rfl (.slice oa2 4 oc2) (ints ((outBits b 1).take 4)) 4 HOL.out rfl W2 (.int .i64 (bits .and .i64 (b / 8) (IntKind.i64.wrap (IntKind.i64.wrap 2 - 1)))) ⟨rfl, rfl, rfl⟩ HROW2.out rfl rfl (by omega) (by omega) ?_); intro g cap w3 hR3 hU3 hg3 hgs3; rw [show IntKind.i64.wrap (IntKind.i64.wrap 2 - 1) = 1 from by decide, ha] at hR3))
      all_goals
        go_wp2
        refine ⟨?rel, ?measure⟩
        case rel =>
          have hg : w.heap.size ≤ g := by
            rcases hg3 with e | e
            · exact HOWN2.out g e
            · have := HU2.out.size; omega
          refine ⟨5, by omega, by go_num, ?_, ?_, ?_⟩
          · rw [show (outBits b 1).take 5 = (outBits b 1).take 4 ++ [b / 8 % 2] from rfl, ints_app]
            exact hR3
          · intro k hk
            simp [Value.ownBlock] at hk
            rw [← hk]
            exact hg
          · exact HU2.out.trans hU3 (fun k h1 h2 => absurd (HOWN2.out k h2) (by omega))
        case measure => (try simp [intOf]); (try omega)
    · have ha := i64_and1 (b / 4)
      go_upto_region 7 with fail
      go_region_held3 (fun w' => True) (exact trivial) ((go_must (refine step_app1 rfl _ _ 33 rfl 3 (.int .i64 0) 8 Tryz.underlying33 info_int rfl (.slice oa2 5 oc2) (ints ((outBits b 1).take 5)) 5 HOL.out rfl W2 (.int .i64 (bits .and .i64 (b / 4) (IntKind.i64.wrap (IntKind.i64.wrap 2 - 1)))) ⟨rfl, rfl, rfl⟩ HROW2.out rfl rfl (by omega) (by omega) ?_); intro g cap w3 hR3 hU3 hg3 hgs3; rw [show IntKind.i64.wrap (IntKind.i64.wrap 2 - 1) = 1 from by decide, ha] at hR3))
      all_goals
        go_wp2
        refine ⟨?rel, ?measure⟩
        case rel =>
          have hg : w.heap.size ≤ g := by
            rcases hg3 with e | e
            · exact HOWN2.out g e
            · have := HU2.out.size; omega
          refine ⟨6, by omega, by go_num, ?_, ?_, ?_⟩
          · rw [show (outBits b 1).take 6 = (outBits b 1).take 5 ++ [b / 4 % 2] from rfl, ints_app]
            exact hR3
          · intro k hk
            simp [Value.ownBlock] at hk
            rw [← hk]
            exact hg
          · exact HU2.out.trans hU3 (fun k h1 h2 => absurd (HOWN2.out k h2) (by omega))
        case measure => (try simp [intOf]); (try omega)
    · have ha := i64_and1 (b / 2)
      go_upto_region 7 with fail
      go_region_held3 (fun w' => True) (exact trivial) ((go_must (refine step_app1 rfl _ _ 33 rfl 3 (.int .i64 0) 8 Tryz.underlying33 info_int rfl (.slice oa2 6 oc2) (ints ((outBits b 1).take 6)) 6 HOL.out rfl W2 (.int .i64 (bits .and .i64 (b / 2) (IntKind.i64.wrap (IntKind.i64.wrap 2 - 1)))) ⟨rfl, rfl, rfl⟩ HROW2.out rfl rfl (by omega) (by omega) ?_); intro g cap w3 hR3 hU3 hg3 hgs3; rw [show IntKind.i64.wrap (IntKind.i64.wrap 2 - 1) = 1 from by decide, ha] at hR3))
      all_goals
        go_wp2
        refine ⟨?rel, ?measure⟩
        case rel =>
          have hg : w.heap.size ≤ g := by
            rcases hg3 with e | e
            · exact HOWN2.out g e
            · have := HU2.out.size; omega
          refine ⟨7, by omega, by go_num, ?_, ?_, ?_⟩
          · rw [show (outBits b 1).take 7 = (outBits b 1).take 6 ++ [b / 2 % 2] from rfl, ints_app]
            exact hR3
          · intro k hk
            simp [Value.ownBlock] at hk
            rw [← hk]
            exact hg
          · exact HU2.out.trans hU3 (fun k h1 h2 => absurd (HOWN2.out k h2) (by omega))
        case measure => (try simp [intOf]); (try omega)
    · have ha := i64_and1 (b)
      go_upto_region 7 with fail
      go_region_held3 (fun w' => True) (exact trivial) ((go_must (refine step_app1 rfl _ _ 33 rfl 3 (.int .i64 0) 8 Tryz.underlying33 info_int rfl (.slice oa2 7 oc2) (ints ((outBits b 1).take 7)) 7 HOL.out rfl W2 (.int .i64 (bits .and .i64 (b) (IntKind.i64.wrap (IntKind.i64.wrap 2 - 1)))) ⟨rfl, rfl, rfl⟩ HROW2.out rfl rfl (by omega) (by omega) ?_); intro g cap w3 hR3 hU3 hg3 hgs3; rw [show IntKind.i64.wrap (IntKind.i64.wrap 2 - 1) = 1 from by decide, ha] at hR3))
      all_goals
        go_wp2
        refine ⟨?rel, ?measure⟩
        case rel =>
          have hg : w.heap.size ≤ g := by
            rcases hg3 with e | e
            · exact HOWN2.out g e
            · have := HU2.out.size; omega
          refine ⟨8, by omega, by go_num, ?_, ?_, ?_⟩
          · rw [show (outBits b 1).take 8 = (outBits b 1).take 7 ++ [b % 2] from rfl, ints_app]
            exact hR3
          · intro k hk
            simp [Value.ownBlock] at hk
            rw [← hk]
            exact hg
          · exact HU2.out.trans hU3 (fun k h1 h2 => absurd (HOWN2.out k h2) (by omega))
        case measure => (try simp [intOf]); (try omega)
    · go_wp2
      go_ret2
      exact ⟨_, rfl, HROW2.out, HOWN2.out, HU2.out⟩
set_option maxHeartbeats 2000000 in
theorem lane_out4 (w : World) (b : Int) (hb : 0 ≤ b ∧ b < 256) :
    Calls Tryz.prog 199 #[.int .i64 b, .int .i64 4] w fun e w' => ∃ v, e = .returned (.tuple #[v, .int .i64 0]) ∧ Row w' 3 v (ints (outBits b 4)) ∧ (∀ k, v.ownBlock = some k → w.heap.size ≤ k) ∧ Upd none' w w' := by
  have hby := lane_byte b
  rw [show byteB b = true from decide_eq_true hb] at hby
  have hla := lane_lanes 4
  go_enter Tryz.func199, Tryz.ntmps199
  go_wp2_with (first | (go_at_call 176; refine (hla _).mono ?_; rintro e w1 ⟨rfl, rfl⟩) | (go_at_call 175; refine (hby _).mono ?_; rintro e w1 ⟨rfl, rfl⟩))
  clear hby hla
  go_loopw [6, 7] (fun ov jv wr => ∃ j : Nat, j ≤ 2 ∧ jv = .int .i64 (4 - 4 * (j : Int)) ∧ Row wr 3 ov (ints ((outBits b 4).take j)) ∧ (∀ k, ov.ownBlock = some k → w.heap.size ≤ k) ∧ Upd none' w wr) (fun _ jv _ => (intOf jv + 4).toNat)
  case atStart => exact ⟨0, by omega, rfl, by rw [List.take_zero]; exact Row.nil _ _, fun k hk => (by simp [Value.ownBlock] at hk), Upd.refl _ _⟩
  case round =>
    rename World => W2
    obtain ⟨j, hj, rfl, hrow2, hown2, hU2⟩ := hrel
    obtain ⟨oa2, oc2, rfl, -⟩ := hrow2.form
    have hol2 : (ints ((outBits b 4).take j)).length = j := by
      rw [ints_len, List.length_take, show (outBits b 4).length = 2 from rfl, Nat.min_eq_left hj]
    rw [hol2] at hrow2 hown2 ⊢
    have HROW2 := Lib.hid hrow2
    have HOWN2 := Lib.hid hown2
    have HU2 := Lib.hid hU2
    have HOL := Lib.hid hol2
    clear hrow2 hown2 hU2 hol2
    rcases (show j = 0 ∨ j = 1 ∨ j = 2 by omega) with rfl | rfl | rfl
    · have ha := i64_and15 (b / 16)
      go_upto_region 7 with fail
      go_region_held3 (fun w' => True) (exact trivial) ((go_must (refine step_app1 rfl _ _ 33 rfl 3 (.int .i64 0) 8 Tryz.underlying33 info_int rfl (.slice oa2 0 oc2) (ints ((outBits b 4).take 0)) 0 HOL.out rfl W2 (.int .i64 (bits .and .i64 (b / 16) (IntKind.i64.wrap (IntKind.i64.wrap 16 - 1)))) ⟨rfl, rfl, rfl⟩ HROW2.out rfl rfl (by omega) (by omega) ?_); intro g cap w3 hR3 hU3 hg3 hgs3; rw [show IntKind.i64.wrap (IntKind.i64.wrap 16 - 1) = 15 from by decide, ha] at hR3))
      all_goals
        go_wp2
        refine ⟨?rel, ?measure⟩
        case rel =>
          have hg : w.heap.size ≤ g := by
            rcases hg3 with e | e
            · exact HOWN2.out g e
            · have := HU2.out.size; omega
          refine ⟨1, by omega, by go_num, ?_, ?_, ?_⟩
          · rw [show (outBits b 4).take 1 = (outBits b 4).take 0 ++ [b / 16 % 16] from rfl, ints_app]
            exact hR3
          · intro k hk
            simp [Value.ownBlock] at hk
            rw [← hk]
            exact hg
          · exact HU2.out.trans hU3 (fun k h1 h2 => absurd (HOWN2.out k h2) (by omega))
        case measure => (try simp [intOf]); (try omega)
    · have ha := i64_and15 (b)
      go_upto_region 7 with fail
      go_region_held3 (fun w' => True) (exact trivial) ((go_must (refine step_app1 rfl _ _ 33 rfl 3 (.int .i64 0) 8 Tryz.underlying33 info_int rfl (.slice oa2 1 oc2) (ints ((outBits b 4).take 1)) 1 HOL.out rfl W2 (.int .i64 (bits .and .i64 (b) (IntKind.i64.wrap (IntKind.i64.wrap 16 - 1)))) ⟨rfl, rfl, rfl⟩ HROW2.out rfl rfl (by omega) (by omega) ?_); intro g cap w3 hR3 hU3 hg3 hgs3; rw [show IntKind.i64.wrap (IntKind.i64.wrap 16 - 1) = 15 from by decide, ha] at hR3))
      all_goals
        go_wp2
        refine ⟨?rel, ?measure⟩
        case rel =>
          have hg : w.heap.size ≤ g := by
            rcases hg3 with e | e
            · exact HOWN2.out g e
            · have := HU2.out.size; omega
          refine ⟨2, by omega, by go_num, ?_, ?_, ?_⟩
          · rw [show (outBits b 4).take 2 = (outBits b 4).take 1 ++ [b % 16] from rfl, ints_app]
            exact hR3
          · intro k hk
            simp [Value.ownBlock] at hk
            rw [← hk]
            exact hg
          · exact HU2.out.trans hU3 (fun k h1 h2 => absurd (HOWN2.out k h2) (by omega))
        case measure => (try simp [intOf]); (try omega)
    · go_wp2
      go_ret2
      exact ⟨_, rfl, HROW2.out, HOWN2.out, HU2.out⟩
def foldB (m : Int) (xs : List Int) : Int := xs.foldl (fun b x => b * m + x) 0
theorem foldB_snoc (m : Int) (xs : List Int) (x : Int) : foldB m (xs ++ [x]) = foldB m xs * m + x := by unfold foldB; rw [List.foldl_append]; rfl
theorem take_one (xs : List Int) (i : Nat) (h : i < xs.length) : xs.take (i + 1) = xs.take i ++ [xs.getD i 0] := by
  rw [List.take_add_one]
  simp [List.getD_eq_getElem?_getD, List.getElem?_eq_getElem h]
theorem foldB_bd1 (xs : List Int) (hx : ∀ x ∈ xs, 0 ≤ x ∧ x < 2) : ∀ i : Nat, i ≤ xs.length → 0 ≤ foldB 2 (xs.take i) ∧ foldB 2 (xs.take i) < 2 ^ i := by
  intro i
  induction i with
  | zero => intro _; rw [List.take_zero]; exact ⟨by decide, by decide⟩
  | succ i ih =>
    intro h
    have h1 := ih (by omega)
    have h2 := hx (xs.getD i 0) (by rw [List.getD_eq_getElem?_getD, List.getElem?_eq_getElem (show i < xs.length by omega)]; exact List.getElem_mem _)
    rw [take_one xs i (by omega), foldB_snoc, Int.pow_succ]
    omega
set_option maxHeartbeats 2000000 in
theorem lane_in1 (w : World) (v : Value) (xs : List Int) (hr : RS w v (ints xs)) (hl : xs.length = 8) (hx : ∀ x ∈ xs, 0 ≤ x ∧ x < 2) :
    Calls Tryz.prog 200 #[v, .int .i64 1] w fun e w' => e = .returned (.tuple #[.int .i64 (foldB 2 xs), .int .i64 0]) ∧ w = w' := by
  have hla := lane_lanes 1
  have hma := lane_many 1 (by decide)
  rw [show (8 : Int) / 1 = 8 from rfl] at hma
  obtain ⟨h1, a, cap, rfl, h4, h5⟩ := hr
  rw [ints_len, hl] at h1 h4 h5 ⊢
  obtain ⟨bb, oo, rfl, hbb, hcc⟩ := h5 (by intro h; have := congrArg List.length h; rw [ints_len, hl] at this; simp at this)
  have HCC := Lib.hid hcc
  clear hcc h5
  go_enter Tryz.func200, Tryz.ntmps200
  go_wp2_with (first | (go_at_call 176; refine (hla _).mono ?_; rintro e w1 ⟨rfl, rfl⟩) | (go_at_call 92; refine (hma _).mono ?_; rintro e w1 ⟨rfl, rfl⟩))
  clear hla hma
  go_loopw [6, 21] (fun bv iv wr => ∃ i : Nat, i ≤ 8 ∧ iv = .int .i64 (i : Int) ∧ bv = .int .i64 (foldB 2 (xs.take i)) ∧ Hid (w = wr)) (fun _ iv _ => 8 - (intOf iv).toNat)
  case atStart => exact ⟨0, by omega, rfl, rfl, Lib.hid rfl⟩
  case round =>
    rename World => W2
    obtain ⟨i, hi, rfl, rfl, hw⟩ := hrel
    by_cases hlt : i < 8
    · have hbd := foldB_bd1 xs hx i (by omega)
      have htk := take_one xs i (by omega)
      have hxi := hx (xs.getD i 0) (by rw [List.getD_eq_getElem?_getD, List.getElem?_eq_getElem (show i < xs.length by omega)]; exact List.getElem_mem _)
      have hcell : W2.cell? ⟨bb, oo + i, none⟩ = some (.int .i64 (xs.getD i 0)) := by
        rw [← hw.out, HCC.out i hlt, ints_at _ _ (by omega)]
      have hsn := foldB_snoc 2 (xs.take i) (xs.getD i 0)
      rw [← htk] at hsn
      have hpw : (2 : Int) ^ i ≤ 256 := by
        rcases (show i = 0 ∨ i = 1 ∨ i = 2 ∨ i = 3 ∨ i = 4 ∨ i = 5 ∨ i = 6 ∨ i = 7 by omega) with rfl | rfl | rfl | rfl | rfl | rfl | rfl | rfl <;> decide
      obtain ⟨y, hy⟩ : ∃ y, xs.getD i 0 = y := ⟨_, rfl⟩
      obtain ⟨b0, hb0⟩ : ∃ b0, foldB 2 (xs.take i) = b0 := ⟨_, rfl⟩
      rw [hy] at hcell hsn hxi
      rw [hb0] at hbd hsn ⊢
      have ho := i64_or1 (b0 * 2) y (by omega) (by omega) (by omega) hxi.1 hxi.2
      have HSN := Lib.hid hsn
      have hb1 : 0 ≤ b0 ∧ b0 < 256 := by omega
      have hy1 : ¬ y < 0 := by omega
      have hy2 : ¬ 2 ≤ y := by omega
      clear hsn htk hpw hbd hy hb0 hl hx
      go_wp2
      refine ⟨?rel, ?measure⟩
      case rel => exact ⟨i + 1, by omega, by go_num, by rw [HSN.out], hw⟩
      case measure => simp [intOf]; omega
    · have hie : i = 8 := by omega
      subst hie
      have hf : foldB 2 (xs.take 8) = foldB 2 xs := by rw [List.take_of_length_le (by omega)]
      rw [hf]
      go_wp2
      go_ret2
      exact ⟨rfl, hw.out⟩
theorem foldB_bd4 (xs : List Int) (hx : ∀ x ∈ xs, 0 ≤ x ∧ x < 16) : ∀ i : Nat, i ≤ xs.length → 0 ≤ foldB 16 (xs.take i) ∧ foldB 16 (xs.take i) < 16 ^ i := by
  intro i
  induction i with
  | zero => intro _; rw [List.take_zero]; exact ⟨by decide, by decide⟩
  | succ i ih =>
    intro h
    have h1 := ih (by omega)
    have h2 := hx (xs.getD i 0) (by rw [List.getD_eq_getElem?_getD, List.getElem?_eq_getElem (show i < xs.length by omega)]; exact List.getElem_mem _)
    rw [take_one xs i (by omega), foldB_snoc, Int.pow_succ]
    omega
set_option maxHeartbeats 2000000 in
theorem lane_in4 (w : World) (v : Value) (xs : List Int) (hr : RS w v (ints xs)) (hl : xs.length = 2) (hx : ∀ x ∈ xs, 0 ≤ x ∧ x < 16) :
    Calls Tryz.prog 200 #[v, .int .i64 4] w fun e w' => e = .returned (.tuple #[.int .i64 (foldB 16 xs), .int .i64 0]) ∧ w = w' := by
  have hla := lane_lanes 4
  have hma := lane_many 4 (by decide)
  rw [show (8 : Int) / 4 = 2 from rfl] at hma
  obtain ⟨h1, a, cap, rfl, h4, h5⟩ := hr
  rw [ints_len, hl] at h1 h4 h5 ⊢
  obtain ⟨bb, oo, rfl, hbb, hcc⟩ := h5 (by intro h; have := congrArg List.length h; rw [ints_len, hl] at this; simp at this)
  have HCC := Lib.hid hcc
  clear hcc h5
  go_enter Tryz.func200, Tryz.ntmps200
  go_wp2_with (first | (go_at_call 176; refine (hla _).mono ?_; rintro e w1 ⟨rfl, rfl⟩) | (go_at_call 92; refine (hma _).mono ?_; rintro e w1 ⟨rfl, rfl⟩))
  clear hla hma
  go_loopw [6, 21] (fun bv iv wr => ∃ i : Nat, i ≤ 2 ∧ iv = .int .i64 (i : Int) ∧ bv = .int .i64 (foldB 16 (xs.take i)) ∧ Hid (w = wr)) (fun _ iv _ => 2 - (intOf iv).toNat)
  case atStart => exact ⟨0, by omega, rfl, rfl, Lib.hid rfl⟩
  case round =>
    rename World => W2
    obtain ⟨i, hi, rfl, rfl, hw⟩ := hrel
    by_cases hlt : i < 2
    · have hbd := foldB_bd4 xs hx i (by omega)
      have htk := take_one xs i (by omega)
      have hxi := hx (xs.getD i 0) (by rw [List.getD_eq_getElem?_getD, List.getElem?_eq_getElem (show i < xs.length by omega)]; exact List.getElem_mem _)
      have hcell : W2.cell? ⟨bb, oo + i, none⟩ = some (.int .i64 (xs.getD i 0)) := by
        rw [← hw.out, HCC.out i hlt, ints_at _ _ (by omega)]
      have hsn := foldB_snoc 16 (xs.take i) (xs.getD i 0)
      rw [← htk] at hsn
      have hpw : (16 : Int) ^ i ≤ 256 := by
        rcases (show i = 0 ∨ i = 1 by omega) with rfl | rfl <;> decide
      obtain ⟨y, hy⟩ : ∃ y, xs.getD i 0 = y := ⟨_, rfl⟩
      obtain ⟨b0, hb0⟩ : ∃ b0, foldB 16 (xs.take i) = b0 := ⟨_, rfl⟩
      rw [hy] at hcell hsn hxi
      rw [hb0] at hbd hsn ⊢
      have ho := i64_or4 (b0 * 16) y (by omega) (by omega) (by omega) hxi.1 hxi.2
      have HSN := Lib.hid hsn
      have hb1 : 0 ≤ b0 ∧ b0 < 256 := by omega
      have hy1 : ¬ y < 0 := by omega
      have hy2 : ¬ 16 ≤ y := by omega
      clear hsn htk hpw hbd hy hb0 hl hx
      go_wp2
      refine ⟨?rel, ?measure⟩
      case rel => exact ⟨i + 1, by omega, by go_num, by rw [HSN.out], hw⟩
      case measure => simp [intOf]; omega
    · have hie : i = 2 := by omega
      subst hie
      have hf : foldB 16 (xs.take 2) = foldB 16 xs := by rw [List.take_of_length_le (by omega)]
      rw [hf]
      go_wp2
      go_ret2
      exact ⟨rfl, hw.out⟩
end Go.Proofs.YteombggfmeilaaaGreat
