/- CtxW Twins17 Pure PureP -/
import Derived.Test.YteombggfmeilaaaGreatBu05
import Derived.KernelRfl
/- CtxW. -/
namespace Go.Proofs.YteombggfmeilaaaGreat
open Go.RowKit
theorem Ctx.swap {P R Q : Own} {w0 w : World} {rows : List (Value × List Value)} (hR : R.Ok) (hQ : Q.Ok) (h : Ctx P (R.star Q) w0 w rows) : Ctx R (P.star Q) w0 w rows := by
  obtain ⟨S, ⟨A, D, hA, ⟨B, C, hB, hC, d1, e1⟩, d2, e2⟩, h2, h3⟩ := h.all
  refine ⟨hR, h.okP.star hQ, h.upd, S, ⟨B, fun k => A k ∨ C k, hB, ⟨A, C, hA, hC, fun k ha hc => d2 k ha ((e1 k).2 (.inr hc)), fun _ => Iff.rfl⟩, ?_, ?_⟩, h2, h3⟩
  · rintro k hb (ha | hc)
    · exact d2 k ha ((e1 k).2 (.inl hb))
    · exact d1 k hb hc
  · intro k
    rw [e2 k, e1 k]
    constructor
    · rintro (ha | hb | hc)
      · exact .inr (.inl ha)
      · exact .inl hb
      · exact .inr (.inr hc)
    · rintro (hb | ha | hc)
      · exact .inr (.inl hb)
      · exact .inl ha
      · exact .inr (.inr hc)
theorem Ctx.step2 {P R R' Q : Own} {w0 w w' : World} {rows : List (Value × List Value)} (hR : R.Ok) (hQ : Q.Ok) (hC : Ctx P (R.star Q) w0 w rows) (hR' : R'.Ok) (h : ∀ S, R w S → ∃ S', R' w' S' ∧ (∀ k, S' k → S k ∨ w.heap.size ≤ k) ∧ Upd S w w') : Ctx P (R'.star Q) w0 w' rows :=
  ((hC.swap hR hQ).step hR' h).swap hC.okP hQ
theorem Ctx.get2 {P R Q : Own} {w0 w : World} {rows : List (Value × List Value)} (h : Ctx P (R.star Q) w0 w rows) : ∃ S, R w S ∧ ∀ k, S k → w0.heap.size ≤ k := by
  obtain ⟨S, ⟨A, D, hA, ⟨B, C, hB, hC, d1, e1⟩, d2, e2⟩, h2, h3⟩ := h.all
  exact ⟨B, hB, fun k hk => h2 k ((e2 k).2 (.inr ((e1 k).2 (.inl hk))))⟩
theorem Ctx.get1 {P Q : Own} {w0 w : World} {rows : List (Value × List Value)} (h : Ctx P Q w0 w rows) : ∃ S, P w S ∧ ∀ k, S k → w0.heap.size ≤ k := by
  obtain ⟨S, ⟨A, B, hA, hB, d2, e2⟩, h2, h3⟩ := h.all
  exact ⟨A, hA, fun k hk => h2 k ((e2 k).2 (.inl hk))⟩
theorem Ctx.drop2 {P R Q : Own} {w0 w : World} {rows : List (Value × List Value)} (hQ : Q.Ok) (h : Ctx P (R.star Q) w0 w rows) : Ctx P Q w0 w rows := by
  obtain ⟨S, ⟨A, D, hA, ⟨B, C, hB, hC, d1, e1⟩, d2, e2⟩, h2, h3⟩ := h.all
  exact ⟨h.okP, hQ, h.upd, fun k => A k ∨ C k, ⟨A, C, hA, hC, fun k ha hc => d2 k ha ((e1 k).2 (.inr hc)), fun _ => Iff.rfl⟩, fun k hk => h2 k ((e2 k).2 (hk.imp id fun hc => (e1 k).2 (.inr hc))), fun r hr => ⟨(h3 r hr).1, fun k hk => ⟨((h3 r hr).2.1 k hk).1, fun hs => ((h3 r hr).2.1 k hk).2 ((e2 k).2 (hs.imp id fun hc => (e1 k).2 (.inr hc)))⟩, (h3 r hr).2.2⟩⟩
theorem Ctx.add2 {P Q R : Own} {w0 w w' : World} {rows : List (Value × List Value)} (hC : Ctx P Q w0 w rows) (hR : R.Ok) (hu : Upd none' w w') {B : Nat → Prop} (hB : R w' B) (hn : ∀ k, B k → w.heap.size ≤ k) : Ctx P (R.star Q) w0 w' rows := by
  obtain ⟨S, ⟨A, E, hA, hE, hd, hS⟩, h2, h3⟩ := hC.all
  have h0 := hC.upd.size
  have hlt := hC.okP.lt hA
  have hlt2 := hC.okQ.lt hE
  refine ⟨hC.okP, hR.star hC.okQ, hC.upd.trans hu (fun _ _ f => f), fun k => A k ∨ B k ∨ E k, ⟨A, fun k => B k ∨ E k, hC.okP.frame hA hu (fun _ _ f => f), ⟨B, E, hB, hC.okQ.frame hE hu (fun _ _ f => f), fun k hb he => ?_, fun _ => Iff.rfl⟩, fun k ha hb => ?_, fun _ => Iff.rfl⟩, ?_, ?_⟩
  · have := hn k hb; have := hlt2 k he; omega
  · rcases hb with hb | hb
    · have := hlt k ha; have := hn k hb; omega
    · exact hd k ha hb
  · rintro k (h1 | h1 | h1)
    · exact h2 k ((hS k).2 (.inl h1))
    · have := hn k h1; omega
    · exact h2 k ((hS k).2 (.inr h1))
  · intro r hr
    refine (h3 r hr).upd hu (fun _ f => f.elim) ?_
    rintro k (h6 | h6 | h6)
    · exact .inl ((hS k).2 (.inl h6))
    · exact .inr (hn k h6)
    · exact .inl ((hS k).2 (.inr h6))
theorem Ctx.rs_mem {P Q : Own} {w0 w : World} {rows : List (Value × List Value)} (h : Ctx P Q w0 w rows) {v : Value} {vs : List Value} (hm : (v, vs) ∈ rows) : RS w v vs := by
  obtain ⟨S, h1, h2, h3⟩ := h.all
  exact (h3 _ hm).1
theorem Ctx.old {P Q : Own} {w0 w : World} {rows news : List (Value × List Value)} (h : Ctx P Q w0 w rows) (hn : ∀ r ∈ news, RS w0 r.1 r.2 ∧ ∀ k, r.1.ownBlock = some k → k < w0.heap.size) : Ctx P Q w0 w (news ++ rows) := by
  obtain ⟨S, h1, h2, h3⟩ := h.all
  refine ⟨h.okP, h.okQ, h.upd, S, h1, h2, fun r hr => ?_⟩
  rcases List.mem_append.1 hr with hr | hr
  · exact ⟨(hn r hr).1.upd h.upd (fun _ _ _ f => f), fun k hk => ⟨Nat.lt_of_lt_of_le ((hn r hr).2 k hk) h.upd.size, fun hs => by have := h2 k hs; have := (hn r hr).2 k hk; omega⟩, fun k hk h0 => absurd ((hn r hr).2 k hk) (by omega)⟩
  · exact h3 r hr
def phCells (x : Ph × Value) : List Value := [.int .i64 x.1.lanes, x.2, .int .i64 x.1.clocks, .int .i64 x.1.read]
def i64B (n : Int) : Prop := -9223372036854775808 ≤ n ∧ n ≤ 9223372036854775807
def PhsV (rows : List (Value × List Value)) (v : Value) (L : List (Ph × Value)) : Prop :=
  ∃ a cap, v = .slice a L.length cap ∧ L.length ≤ cap ∧ (a = none → cap = 0) ∧ L.length ≤ 4398046511104 ∧ (L = [] ∨ (.slice a (4 * L.length) (4 * L.length), L.flatMap phCells) ∈ rows) ∧ ∀ x ∈ L, (∃ a c, x.2 = .slice a x.1.bytes.length c ∧ x.1.bytes.length ≤ c) ∧ x.1.bytes.length * 8 ≤ 140737488351232 ∧ (x.1.bytes = [] ∨ (x.2, ints x.1.bytes) ∈ rows)
theorem flat4_len (L : List (Ph × Value)) : (L.flatMap phCells).length = 4 * L.length := by
  induction L with
  | nil => rfl
  | cons x L ih => rw [List.flatMap_cons, List.length_append, ih, List.length_cons]; show 4 + _ = _; omega
theorem flat4_at (L : List (Ph × Value)) : ∀ (i j : Nat) (_ : j < 4) (h : i < L.length), (L.flatMap phCells)[4 * i + j]? = (phCells L[i])[j]? := by
  induction L with
  | nil => intro i j _ h; simp at h
  | cons x L ih =>
    intro i j hj h
    rw [List.flatMap_cons]
    cases i with
    | zero => rw [List.getElem?_append_left (show 4 * 0 + j < 4 by omega)]; rw [show 4 * 0 + j = j by omega]; rfl
    | succ i =>
      rw [List.getElem?_append_right (show 4 ≤ 4 * (i + 1) + j by omega)]
      rw [show 4 * (i + 1) + j - (phCells x).length = 4 * i + j from by show 4 * (i + 1) + j - 4 = _; omega, ih i j hj (by rw [List.length_cons] at h; omega)]
      rfl
theorem phs_cells {P Q : Own} {w0 w : World} {rows : List (Value × List Value)} (hC : Ctx P Q w0 w rows) {a : Option Addr} {n cap : Nat} {L : List (Ph × Value)} (h : PhsV rows (.slice a n cap) L) (i : Nat) (hi : i < L.length) :
    n = L.length ∧ n ≤ cap ∧ ∃ g o, a = some ⟨g, o, none⟩ ∧ g < w.heap.size ∧ w.cell? ⟨g, o + i * 4, none⟩ = some (.int .i64 L[i].1.lanes) ∧ w.cell? ⟨g, o + i * 4 + 1, none⟩ = some L[i].2 ∧ w.cell? ⟨g, o + i * 4 + 2, none⟩ = some (.int .i64 L[i].1.clocks) ∧ w.cell? ⟨g, o + i * 4 + 3, none⟩ = some (.int .i64 L[i].1.read) := by
  obtain ⟨a', cap', e, hc, _, _, hm0, _⟩ := h
  simp only [Value.slice.injEq] at e
  obtain ⟨rfl, rfl, rfl⟩ := e
  have hm := hm0.resolve_left (fun e => by rw [e] at hi; simp at hi)
  obtain ⟨g, o, rfl, hg, hcell⟩ := (hC.rs_mem hm).cells (by omega)
  refine ⟨rfl, hc, g, o, rfl, hg, ?_, ?_, ?_, ?_⟩
  · have := hcell (4 * i + 0) (by omega); rw [flat4_at L i 0 (by omega) hi] at this; rw [show o + i * 4 = o + (4 * i + 0) by omega]; exact this
  · have := hcell (4 * i + 1) (by omega); rw [flat4_at L i 1 (by omega) hi] at this; rw [show o + i * 4 + 1 = o + (4 * i + 1) by omega]; exact this
  · have := hcell (4 * i + 2) (by omega); rw [flat4_at L i 2 (by omega) hi] at this; rw [show o + i * 4 + 2 = o + (4 * i + 2) by omega]; exact this
  · have := hcell (4 * i + 3) (by omega); rw [flat4_at L i 3 (by omega) hi] at this; rw [show o + i * 4 + 3 = o + (4 * i + 3) by omega]; exact this
theorem phs_bytes {rows : List (Value × List Value)} {v : Value} {L : List (Ph × Value)} (h : PhsV rows v L) (i : Nat) (hi : i < L.length) :
    ∃ a c, L[i].2 = .slice a L[i].1.bytes.length c ∧ (∀ {P Q : Own} {w0 w : World}, Ctx P Q w0 w rows → RS w (.slice a L[i].1.bytes.length c) (ints L[i].1.bytes)) ∧ L[i].1.bytes.length * 8 ≤ 140737488351232 := by
  obtain ⟨a', cap', e, hc, _, _, hm, h5⟩ := h
  obtain ⟨⟨a, c, e2, hle⟩, h6, h7⟩ := h5 _ (List.getElem_mem hi)
  refine ⟨a, c, e2, fun hC => ?_, h6⟩
  rcases h7 with h7 | h7
  · rw [h7]
    exact ⟨by decide, a, c, rfl, Nat.zero_le _, fun h => absurd rfl h⟩
  · rw [← e2]; exact hC.rs_mem h7
theorem phs_len {rows : List (Value × List Value)} {v : Value} {L : List (Ph × Value)} (h : PhsV rows v L) : L.length ≤ 4398046511104 := by
  obtain ⟨a', cap', e, hc, _, hl, _⟩ := h
  exact hl
theorem PhsV.sub {rows rows' : List (Value × List Value)} {v : Value} {L : List (Ph × Value)} (h : PhsV rows v L) (hs : ∀ r ∈ rows, r ∈ rows') : PhsV rows' v L := by
  obtain ⟨a, cap, h1, h2, h3, h4, h5, h6⟩ := h
  exact ⟨a, cap, h1, h2, h3, h4, h5.imp id (hs _), fun x hx => ⟨(h6 x hx).1, (h6 x hx).2.1, (h6 x hx).2.2.imp id (hs _)⟩⟩
theorem ph_form {P Q : Own} {w0 w : World} {rows : List (Value × List Value)} (hC : Ctx P Q w0 w rows) {x : Ph × Value} (h : (x.2, ints x.1.bytes) ∈ rows) : (∃ a c, x.2 = .slice a x.1.bytes.length c ∧ x.1.bytes.length ≤ c) ∧ x.1.bytes.length * 8 ≤ 140737488351232 := by
  obtain ⟨h1, a, c, h2, h3, _⟩ := hC.rs_mem h
  rw [ints_len] at h1 h2 h3
  exact ⟨⟨a, c, h2, h3⟩, h1⟩
end Go.Proofs.YteombggfmeilaaaGreat
/- Twins17. -/
namespace Go.Proofs.YteombggfmeilaaaGreat
open Go.RowKit
set_option maxRecDepth 100000 in
set_option maxHeartbeats 2000000 in
theorem twins17 (s : ByteArray) (w : World) (hs : s.size ≤ 9223372036854775807) :
    Calls Tryz.prog 65 #[.string s] w fun e w' => ∃ b S r v, e = .returned (.tuple #[.pointer (some ⟨b, 0, none⟩), .pointer (some ⟨r, 0, none⟩)]) ∧ ChipAt w' b (St.new ⟨(freshL s).toArray⟩) S ∧ (∀ k, S k → w.heap.size ≤ k) ∧ RefNew w' r ⟨(freshL s).toArray⟩ v ∧ (w.heap.size ≤ r ∧ ¬ S r) ∧ (∀ k, v.ownBlock = some k → w.heap.size ≤ k ∧ ¬ S k) ∧ Upd none' w w' := by
  have hbk := ref_blank w
  obtain ⟨bl, hbl⟩ : ∃ bl : ByteArray, bl = ⟨blankL.toArray⟩ := ⟨_, rfl⟩
  have hsz : bl.size = 4096 := by rw [hbl]; exact List.length_replicate
  have hdl : bl.data.toList = blankL := by rw [hbl]
  rw [← hbl] at hbk
  have HDL := Lib.hid hdl
  clear hbl hdl
  go_enter Tryz.func65, Tryz.ntmps65
  go_wp2_with (go_at_call 13; refine hbk.mono ?_; rintro e w1 ⟨rfl, hU1⟩; have kc := Lib.run_convert_string_bytes (P := Tryz.prog) w1 9 23 5 bl Tryz.underlying9 Tryz.underlying23 Tryz.underlying5)
  have hBz := Buf.of_bytes w1 5 bl
  have hUz := hU1.trans (upd_bytes w1 5 bl) (fun _ _ f => f)
  have hs1 := hU1.size
  clear kc hbk hU1
  go_loopw [5] (fun iv wr => ∃ (i : Nat) (l : List UInt8), i ≤ 4096 ∧ iv = .int .i64 i ∧ Upd none' w wr ∧ Buf wr w1.heap.size l 5 ∧ (s.size = 0 → i = 0) ∧ Hid (l = ((List.range 4096).map (freshAt s)).take i ++ blankL.drop i)) (fun iv _ => 4096 - (intOf iv).toNat)
  case atStart => exact ⟨0, _, by omega, rfl, hUz, hBz, fun _ => rfl, Lib.hid (by rw [HDL.out, List.take_zero, List.drop_zero, List.nil_append])⟩
  case round =>
    clear hBz hUz
    obtain ⟨i, l, hi, rfl, hU, hB, hs0, hl⟩ := hrel
    have hll : l.length = 4096 := by
      rw [hl.out, List.length_append, List.length_take, List.length_drop, List.length_map, List.length_range, show blankL.length = 4096 from List.length_replicate]
      omega
    by_cases hz : s.size = 0
    · have hi0 := hs0 hz
      subst hi0
      have hse : s = ⟨#[]⟩ := by
        obtain ⟨d⟩ := s
        simp only [ByteArray.size] at hz
        rw [Array.eq_empty_of_size_eq_zero hz]
      have hfin : l = freshL s := by
        rw [hl.out, List.take_zero, List.drop_zero, List.nil_append]
        unfold freshL
        rw [if_pos hz]
      · clear hs0
        subst hse
        have hst := fun cap => run_string_buf hB 23 5 9 Tryz.underlying23 Tryz.underlying5 Tryz.underlying9 4096 cap hll
        have HN := Lib.hid (chip_new ⟨l.toArray⟩ wr (by simpa [ByteArray.size] using hll))
        have HRF := Lib.hid (fun w => ref_new ⟨l.toArray⟩ w (by simpa [ByteArray.size] using hll))
        have hB2 := fun w2 (u : Upd none' wr w2) cap => run_string_buf (hB.upd u (fun f => f)) 23 5 9 Tryz.underlying23 Tryz.underlying5 Tryz.underlying9 4096 cap hll
        have HB2 := Lib.hid hB2
        clear hB2
        have HU := Lib.hid hU
        have HL := Lib.hid hfin
        clear hB hU hfin hl
        go_wp2_with (first | (go_at_call 15; refine (HRF.out _).mono ?_; rintro e w3 ⟨r, v, rfl, hr, hBr, hRv, hv, hU3⟩) | (go_at_call 14; refine HN.out.mono ?_; rintro e w2 ⟨b, S, rfl, hA, hS, hU2⟩; have hst2 := HB2.out _ hU2))
        go_ret2
        have hlt := hA.lt
        have hsz := HU.out.size
        have hsz2 := hU2.size
        refine ⟨b, S, r, v, rfl, by rw [← HL.out]; exact hA.upd hU3 (fun _ _ f => f), fun k hk => ?_, by rw [← HL.out]; exact ⟨hBr, hRv, fun k hk => (hv k hk).2⟩, ⟨by omega, fun hs => ?_⟩, fun k hk => ⟨?_, fun hs => ?_⟩, (HU.out.trans hU2 (fun _ _ f => f)).trans hU3 (fun _ _ f => f)⟩
        · have := hS k hk; omega
        · have := hlt r hs; omega
        · have := (hv k hk).1; omega
        · have := hlt k hs; have := (hv k hk).1; omega
    · have hpos : 0 < s.size := by omega
      have hne := str_nonempty s hpos
      by_cases hlt : i < 4096
      · have hq : i % s.size < s.size := Nat.mod_lt _ hpos
        have hfa : freshAt s i = s[i % s.size] := by unfold freshAt; rw [str_at s _ hq]
        have hc := hB.cell (j := i) (by omega)
        have hf := hB.frozen (j := i) (by omega)
        have HB := Lib.hid (hB.set (j := i) (by omega) (freshAt s i))
        have HU := Lib.hid (hU.setCell ⟨w1.heap.size, i, none⟩ (.int .u8 (freshAt s i).toNat) (fun h => absurd h (by dsimp only; omega)))
        have HFA := Lib.hid hfa
        clear hB hU hfa hs0
        go_wp2
        refine ⟨⟨i + 1, _, by omega, by go_num, ?_, ?_, fun h => absurd h hz, Lib.hid (fresh_step s l i hlt hl.out)⟩, by simp [intOf]; omega⟩
        · have := HU.out
          rw [HFA.out] at this
          exact this
        · have := HB.out
          rw [HFA.out] at this ⊢
          exact this
      · have hieq : i = 4096 := by omega
        subst hieq
        have hfin : l = freshL s := by
          rw [hl.out]
          unfold freshL
          rw [if_neg hz, List.take_of_length_le (by rw [List.length_map, List.length_range]; exact Nat.le_refl _), List.drop_of_length_le (by rw [show blankL.length = 4096 from List.length_replicate]; exact Nat.le_refl _), List.append_nil]
        clear hs0
        have hst := fun cap => run_string_buf hB 23 5 9 Tryz.underlying23 Tryz.underlying5 Tryz.underlying9 4096 cap hll
        have HN := Lib.hid (chip_new ⟨l.toArray⟩ wr (by simpa [ByteArray.size] using hll))
        have HRF := Lib.hid (fun w => ref_new ⟨l.toArray⟩ w (by simpa [ByteArray.size] using hll))
        have hB2 := fun w2 (u : Upd none' wr w2) cap => run_string_buf (hB.upd u (fun f => f)) 23 5 9 Tryz.underlying23 Tryz.underlying5 Tryz.underlying9 4096 cap hll
        have HB2 := Lib.hid hB2
        clear hB2
        have HU := Lib.hid hU
        have HL := Lib.hid hfin
        clear hB hU hfin hl
        go_wp2_with (first | (go_at_call 15; refine (HRF.out _).mono ?_; rintro e w3 ⟨r, v, rfl, hr, hBr, hRv, hv, hU3⟩) | (go_at_call 14; refine HN.out.mono ?_; rintro e w2 ⟨b, S, rfl, hA, hS, hU2⟩; have hst2 := HB2.out _ hU2))
        go_ret2
        have hlt := hA.lt
        have hsz := HU.out.size
        have hsz2 := hU2.size
        refine ⟨b, S, r, v, rfl, by rw [← HL.out]; exact hA.upd hU3 (fun _ _ f => f), fun k hk => ?_, by rw [← HL.out]; exact ⟨hBr, hRv, fun k hk => (hv k hk).2⟩, ⟨by omega, fun hs => ?_⟩, fun k hk => ⟨?_, fun hs => ?_⟩, (HU.out.trans hU2 (fun _ _ f => f)).trans hU3 (fun _ _ f => f)⟩
        · have := hS k hk; omega
        · have := hlt r hs; omega
        · have := (hv k hk).1; omega
        · have := hlt k hs; have := (hv k hk).1; omega
theorem c_twins17 {w0 w : World} (h : Upd none' w0 w) (s : ByteArray) (hs : s.size ≤ 9223372036854775807) (fa : ByteArray) (hfa : (⟨(freshL s).toArray⟩ : ByteArray) = fa) :
    Calls Tryz.prog 65 #[.string s] w fun e w' => ∃ b r, e = .returned (.tuple #[.pointer (some ⟨b, 0, none⟩), .pointer (some ⟨r, 0, none⟩)]) ∧ Ctx (ChipP b (St.new fa) 0) .emp w0 w' [] := by
  refine (twins17 s w hs).mono ?_
  rintro e w' ⟨b, S, r, v, rfl, hA, hS, -, -, -, hU⟩
  rw [hfa] at hA
  have hsz : fa.size = 4096 := by rw [← hfa]; simpa [ByteArray.size] using freshL_len s
  exact ⟨b, r, rfl, chipP_ok _ _ _, Own.emp_ok, h.trans hU (fun _ _ f => f), S, ⟨S, none', ⟨hA, new_inv fa hsz⟩, fun _ f => f, fun _ _ f => f, fun k => ⟨.inl, fun h => h.elim (fun x => x) (fun f => f.elim)⟩⟩, fun k hk => Nat.le_trans h.size (hS k hk), fun r hr => by simp at hr⟩
end Go.Proofs.YteombggfmeilaaaGreat
/- Pure. -/
namespace Go.Proofs.YteombggfmeilaaaGreat
open Go.RowKit
theorem foldC (l : List Int) (p : St × List Int) : l.foldl (fun (p : St × List Int) x => ((p.1.clock x).1, p.2 ++ [(p.1.clock x).2])) p = ((runC p.1 l).1, p.2 ++ (runC p.1 l).2) := by
  induction l generalizing p with
  | nil => simp [runC]
  | cons x l ih =>
    have h1 : runC p.1 (x :: l) = l.foldl (fun (p : St × List Int) x => ((p.1.clock x).1, p.2 ++ [(p.1.clock x).2])) ((p.1.clock x).1, [] ++ [(p.1.clock x).2]) := rfl
    rw [List.foldl_cons, ih, h1, ih]
    simp
theorem runC_app (s : St) (xs ys : List Int) : runC s (xs ++ ys) = ((runC (runC s xs).1 ys).1, (runC s xs).2 ++ (runC (runC s xs).1 ys).2) := by
  have h : runC s (xs ++ ys) = ys.foldl (fun (p : St × List Int) x => ((p.1.clock x).1, p.2 ++ [(p.1.clock x).2])) (runC s xs) := by
    unfold runC
    rw [List.foldl_append]
  rw [h, foldC]
theorem runC_cons (s : St) (x : Int) (xs : List Int) : runC s (x :: xs) = ((runC (s.clock x).1 xs).1, (s.clock x).2 :: (runC (s.clock x).1 xs).2) := by
  have := runC_app s [x] xs
  rw [List.singleton_append] at this
  rw [this]
  rfl
def St.num (s : St) (l g : Int) : St := { s with got := g, left := l }
def bitsOn (g : Int) (xs : List Int) : Int := xs.foldl (fun g x => g * 2 + x % 2) g
theorem bitsOn_app (g : Int) (xs ys : List Int) : bitsOn g (xs ++ ys) = bitsOn (bitsOn g xs) ys := by unfold bitsOn; rw [List.foldl_append]
theorem bitsOn_byte (g b : Int) (hb : 0 ≤ b ∧ b ≤ 255) : bitsOn g (byteBits b) = g * 256 + b := by
  have h1 : ∀ v : Int, (14 + v % 2) % 2 = v % 2 := fun v => by omega
  show (((((((g * 2 + (14 + b / 128 % 2) % 2) * 2 + (14 + b / 64 % 2) % 2) * 2 + (14 + b / 32 % 2) % 2) * 2 + (14 + b / 16 % 2) % 2) * 2 + (14 + b / 8 % 2) % 2) * 2 + (14 + b / 4 % 2) % 2) * 2 + (14 + b / 2 % 2) % 2) * 2 + (14 + b % 2) % 2 = g * 256 + b
  rw [h1, h1, h1, h1, h1, h1, h1, h1]
  have e7 : b / 128 % 2 = b / 128 := by omega
  have e6 : b / 64 = b / 128 * 2 + b / 64 % 2 := by omega
  have e5 : b / 32 = b / 64 * 2 + b / 32 % 2 := by omega
  have e4 : b / 16 = b / 32 * 2 + b / 16 % 2 := by omega
  have e3 : b / 8 = b / 16 * 2 + b / 8 % 2 := by omega
  have e2 : b / 4 = b / 8 * 2 + b / 4 % 2 := by omega
  have e1 : b / 2 = b / 4 * 2 + b / 2 % 2 := by omega
  have e0 : b = b / 2 * 2 + b % 2 := by omega
  generalize b / 128 % 2 = c7 at *
  generalize b / 64 % 2 = c6 at *
  generalize b / 32 % 2 = c5 at *
  generalize b / 16 % 2 = c4 at *
  generalize b / 8 % 2 = c3 at *
  generalize b / 4 % 2 = c2 at *
  generalize b / 2 % 2 = c1 at *
  generalize b % 2 = c0 at *
  omega
end Go.Proofs.YteombggfmeilaaaGreat
namespace Go.Proofs.YteombggfmeilaaaGreat
open Go.RowKit
theorem wordL_app (xs ys : List Int) : wordL (xs ++ ys) = wordL xs ++ wordL ys := by unfold wordL; rw [List.flatMap_append]
theorem wordL_cons (x : Int) (ys : List Int) : wordL (x :: ys) = byteBits x ++ wordL ys := by unfold wordL; rw [List.flatMap_cons]
end Go.Proofs.YteombggfmeilaaaGreat
namespace Go.Proofs.YteombggfmeilaaaGreat
open Go.RowKit
def St.hd (s : St) (c A : Int) : St := { s with sel := true, op := opOf c, stage := 6, left := 0, got := 0, addr := A, mode := 0, moded := false, data := [], told := 0, now := 0, beyond := false }
def addrOf (k : Int) : Int := bitsOn 0 (wordL [0, k / 256, k % 256]) % 4096
theorem addrOf_eq (k : Int) (hk : 0 ≤ k ∧ k < 4096) : addrOf k = k := by
  unfold addrOf
  rw [wordL_cons, wordL_cons, wordL_cons, bitsOn_app, bitsOn_app, bitsOn_app, bitsOn_byte _ (k % 256) (by omega), bitsOn_byte _ (k / 256) (by omega), bitsOn_byte _ 0 (by decide)]
  show (((0 * 256 + 0) * 256 + k / 256) * 256 + k % 256) % 4096 = k
  omega
end Go.Proofs.YteombggfmeilaaaGreat
namespace Go.Proofs.YteombggfmeilaaaGreat
open Go.RowKit
def byteIn (x : Int) : Int := bitsOn 0 (byteBits x)
end Go.Proofs.YteombggfmeilaaaGreat
namespace Go.Proofs.YteombggfmeilaaaGreat
open Go.RowKit
def runI (s : St) : List Int → St × List Int
  | [] => (s, [])
  | x :: xs => ((runI (s.clockIn x).1 xs).1, (s.clockIn x).2 :: (runI (s.clockIn x).1 xs).2)
theorem runI_cons (s : St) (x : Int) (xs : List Int) : runI s (x :: xs) = ((runI (s.clockIn x).1 xs).1, (s.clockIn x).2 :: (runI (s.clockIn x).1 xs).2) := rfl
def Job.tk (j : Job) (n : Int) : Job := { j with left := j.left - n }
def St.tk (s : St) (n : Int) : St := { s with job := s.job.map fun j => j.tk n }
theorem tk_works (s : St) (n : Int) : (s.tk n).works = s.works := by
  unfold St.works St.tk
  cases s.job <;> rfl
theorem tk_susp (s : St) (n : Int) : (s.tk n).susp = s.susp := by
  unfold St.susp St.tk
  cases s.job <;> rfl
theorem tk_takes (s : St) (n b : Int) : (s.tk n).takes b = s.takes b := by
  unfold St.takes
  rw [tk_works]
  have h : (s.tk n).job.isNone = s.job.isNone := by unfold St.tk; cases s.job <;> rfl
  rw [h]
  rfl
theorem tk_known (s : St) (n b : Int) : (s.tk n).known b = s.known b := by
  unfold St.known
  rw [tk_takes]
theorem tk_behind (s : St) (n : Int) : (s.tk n).behind = s.behind.tk n := by
  unfold St.behind
  show (if s.op.mode && !s.moded then _ else if 0 < s.op.dummy ∧ s.stage ≠ 4 then _ else if s.op.data = 0 then _ else if s.op.inn then _ else _) = _
  split
  · rfl
  split
  · rfl
  split
  · rfl
  split <;> rfl
theorem tk_begins (s : St) (n b : Int) : (s.tk n).begins b = (s.begins b).tk n := by
  unfold St.begins
  dsimp only
  rw [tk_known]
  split
  · rfl
  split
  · rfl
  · exact tk_behind { s with op := opOf b } n
theorem tk_first (s : St) (n : Int) : (s.tk n).first = s.first := by
  show Go.Proofs.YteombggfmeilaaaGreat.first (s.tk n).works _ _ = Go.Proofs.YteombggfmeilaaaGreat.first s.works _ _
  rw [tk_works]
  rfl
theorem tk_second (s : St) (n : Int) : (s.tk n).second = s.second := by
  show Go.Proofs.YteombggfmeilaaaGreat.second _ (s.tk n).susp = Go.Proofs.YteombggfmeilaaaGreat.second _ s.susp
  rw [tk_susp]
  rfl
theorem tk_byteAt (s : St) (n i : Int) : (s.tk n).byteAt i = s.byteAt i := by
  unfold St.byteAt
  rw [tk_first, tk_second]
  rfl
theorem tk_says1 (s : St) (n : Int) : (s.tk n).says1 = s.says1.tk n := by
  unfold St.says1
  rw [tk_byteAt]
  show (if s.left = 0 then _ else _) = _
  split <;> rfl
theorem tk_says (s : St) (n : Int) : (s.tk n).says = (s.says.1.tk n, s.says.2) := by
  unfold St.says
  dsimp only
  rw [tk_says1]
  show (if s.op.data = 1 then _ else _) = _
  split <;> rfl
theorem tk_clockIn (s : St) (n x : Int) : (s.tk n).clockIn x = ((s.clockIn x).1.tk n, (s.clockIn x).2) := by
  unfold St.clockIn
  dsimp only
  rw [tk_says]
  show (if s.stage = 0 then _ else if s.stage = 2 then _ else if s.stage = 3 then _ else if s.stage = 4 then _ else if s.stage = 5 then _ else if s.stage = 6 then _ else if s.stage = 7 then _ else _) = _
  split
  · show (if (s.takesIn x 1).left = 0 then ((s.takesIn x 1).tk n).begins (s.takesIn x 1).got else (s.takesIn x 1).tk n, (15 : Int)) = _
    rw [tk_begins]
    split <;> rfl
  split
  · show (if (s.takesIn x s.op.addr).left = 0 then (({ (s.takesIn x s.op.addr) with addr := (s.takesIn x s.op.addr).got % 4096 } : St).tk n).behind else (s.takesIn x s.op.addr).tk n, (15 : Int)) = _
    rw [tk_behind]
    split <;> rfl
  split
  · show (if (s.takesIn x s.op.addr).left = 0 then (({ (s.takesIn x s.op.addr) with mode := (s.takesIn x s.op.addr).got, moded := true } : St).tk n).behind else (s.takesIn x s.op.addr).tk n, (15 : Int)) = _
    rw [tk_behind]
    split <;> rfl
  split
  · show (if s.left - 1 = 0 then (({ s with left := s.left - 1 } : St).tk n).behind else ({ s with left := s.left - 1 } : St).tk n, (15 : Int)) = _
    rw [tk_behind]
    split <;> rfl
  split
  · show (if (s.takesIn x s.op.data).left = 0 then (({ (s.takesIn x s.op.data) with data := (s.takesIn x s.op.data).data ++ [(s.takesIn x s.op.data).got] } : St).tk n).behind else (s.takesIn x s.op.data).tk n, (15 : Int)) = _
    rw [tk_behind]
    split <;> rfl
  split
  · rfl
  split <;> rfl
theorem tk_zero (s : St) : s.tk 0 = s := by
  unfold St.tk
  have h : (s.job.map fun j => j.tk 0) = s.job := by
    cases hj : s.job with
    | none => rfl
    | some j => show some (j.tk 0) = some j; unfold Job.tk; rw [Int.sub_zero]
  rw [h]
theorem tk_tk (s : St) (m n : Int) : (s.tk m).tk n = s.tk (m + n) := by
  unfold St.tk
  have h : ((s.job.map fun j => j.tk m).map fun j => j.tk n) = s.job.map fun j => j.tk (m + n) := by
    cases s.job with
    | none => rfl
    | some j => show some ((j.tk m).tk n) = some (j.tk (m + n)); unfold Job.tk; congr 2; show j.left - m - n = j.left - (m + n); omega
  show ({ s with job := (s.job.map fun j => j.tk m).map fun j => j.tk n } : St) = _
  rw [h]
theorem runI_tk (xs : List Int) : ∀ (s : St) (n : Int), runI (s.tk n) xs = ((runI s xs).1.tk n, (runI s xs).2) := by
  induction xs with
  | nil => intro s n; rfl
  | cons x xs ih =>
    intro s n
    unfold runI
    rw [tk_clockIn, ih]
theorem runI_app (xs ys : List Int) : ∀ s : St, runI s (xs ++ ys) = ((runI (runI s xs).1 ys).1, (runI s xs).2 ++ (runI (runI s xs).1 ys).2) := by
  induction xs with
  | nil => intro s; rfl
  | cons x xs ih => intro s; rw [List.cons_append, runI_cons, ih, runI_cons]; rfl
theorem behind_job (s : St) : s.behind.job = s.job := by
  unfold St.behind
  repeat' split
  all_goals rfl
theorem begins_job (s : St) (c : Int) : (s.begins c).job = s.job := by
  unfold St.begins
  dsimp only
  split
  · rfl
  · split
    · rfl
    · rw [behind_job]
theorem says_job (s : St) : s.says.1.job = s.job := by
  have h1 : s.says1.job = s.job := by
    unfold St.says1
    split <;> rfl
  unfold St.says
  dsimp only
  split <;> exact h1
theorem clockIn_job (s : St) (x : Int) : (s.clockIn x).1.job = s.job := by
  unfold St.clockIn
  dsimp only
  split
  · split
    · rw [begins_job]; rfl
    · rfl
  split
  · split
    · rw [behind_job]; rfl
    · rfl
  split
  · split
    · rw [behind_job]; rfl
    · rfl
  split
  · split
    · rw [behind_job]
    · rfl
  split
  · split
    · rw [behind_job]; rfl
    · rfl
  split
  · exact says_job s
  split <;> rfl
theorem runC_still (xs : List Int) : ∀ s : St, s.works = false → s.sel = true → runC s xs = runI s xs := by
  induction xs with
  | nil => intro s _ _; rfl
  | cons x xs ih =>
    intro s hw hs
    have hp : s.pass = s := by
      unfold St.pass
      unfold St.works at hw
      cases hj : s.job with
      | none => rfl
      | some j => rw [hj] at hw; simp at hw; dsimp only; rw [if_pos hw]
    have hc : s.clock x = s.clockIn x := by unfold St.clock; rw [hp]; dsimp only; rw [if_pos hs]
    rw [runC_cons, hc]
    unfold runI
    rw [ih (s.clockIn x).1 (by unfold St.works; rw [clockIn_job]; exact hw) (by rw [clockIn_sel]; exact hs)]
theorem runC_busy (xs : List Int) : ∀ (s : St) (j : Job), s.job = some j → j.susp = false → (xs.length : Int) < j.left → s.sel = true → runC s xs = ((runI s xs).1.tk xs.length, (runI s xs).2) := by
  induction xs with
  | nil => intro s j _ _ _ _; show (s, []) = (s.tk 0, []); rw [tk_zero]
  | cons x xs ih =>
    intro s j hj hsu hl hs
    rw [List.length_cons] at hl
    have hp : s.pass = s.tk 1 := by
      obtain ⟨sec, page, data, left, susp⟩ := j
      change susp = false at hsu
      subst hsu
      unfold St.pass St.tk
      rw [hj]
      dsimp only at hl ⊢
      rw [if_neg (by decide), if_neg (by omega)]
      rfl
    have hc : s.clock x = ((s.clockIn x).1.tk 1, (s.clockIn x).2) := by
      unfold St.clock
      rw [hp]
      dsimp only
      rw [if_pos (show (s.tk 1).sel = true from hs), tk_clockIn]
    have hjn : ((s.clockIn x).1.tk 1).job = some (j.tk 1) := by
      unfold St.tk
      dsimp only
      rw [clockIn_job, hj]
      rfl
    rw [runC_cons, hc]
    dsimp only
    rw [ih ((s.clockIn x).1.tk 1) (j.tk 1) hjn hsu (by show (xs.length : Int) < j.left - 1; omega) (by show (s.clockIn x).1.sel = true; rw [clockIn_sel]; exact hs), runI_tk, tk_tk, runI_cons, List.length_cons, show ((xs.length + 1 : Nat) : Int) = 1 + (xs.length : Int) by omega]
end Go.Proofs.YteombggfmeilaaaGreat
/- PureP. -/
namespace Go.Proofs.YteombggfmeilaaaGreat
open Go.RowKit
theorem cutA (old d : UInt8) : old &&& ~~~((255 : UInt8) &&& ~~~d) = old &&& d := by
  have h : (255 : UInt8) &&& ~~~d = ~~~d := by
    apply UInt8.toNat_inj.1
    rw [UInt8.toNat_and]
    exact Nat.and_two_pow_sub_one_of_lt_two_pow (n := 8) (by exact (~~~d).toNat_lt) |> fun e => by rw [Nat.and_comm]; exact e
  rw [h, UInt8.not_not]
theorem andA (x : UInt8) : x &&& 255 = x := by
  apply UInt8.toNat_inj.1
  rw [UInt8.toNat_and]
  exact Nat.and_two_pow_sub_one_of_lt_two_pow (n := 8) x.toNat_lt
theorem maskA (i : Nat) : maskAt all255 i = 255 := by
  unfold maskAt
  rw [if_neg (by decide), show all255.size = 1 from rfl, Nat.mod_one]
  rfl
theorem turnedA (a : ByteArray) (lo n j : Nat) (turn : Nat → UInt8 → UInt8) (h : j < a.size) : (turned a lo n turn).data.toList.getD j 0 = if lo ≤ j ∧ j < lo + n then turn (j - lo) (a.data.toList.getD j 0) else a.data.toList.getD j 0 := by
  have hl : j < a.data.toList.length := h
  unfold turned
  simp only [List.getD_eq_getElem?_getD, List.getElem?_mapIdx, List.getElem?_eq_getElem hl, Option.map_some, Option.getD_some]
def St.inn (s : St) (A : Int) (d : List Int) : St := { s with sel := true, op := opOf 2, stage := 5, left := 8, got := 0, addr := A, mode := 0, moded := false, data := d, told := 0, now := 0, beyond := false }
theorem inn_head (s : St) (hg : s.goes = false) (hj : s.job = none) (k : Int) : runI s.select (wordL [2, 0, k / 256, k % 256]) = (s.inn (addrOf k) [], List.replicate 32 15) := by
  obtain ⟨a, prot, quad, wipes, tabled, sel, en, goes, job, busy, op, stage, left, got, addr, mode, moded, data, told, now, beyond⟩ := s
  change goes = false at hg
  change job = none at hj
  subst hg
  subst hj
  kernel_rfl
theorem inn_byte (s : St) (A : Int) (d : List Int) (b : Int) : runI (s.inn A d) (byteBits b) = (s.inn A (d ++ [byteIn b]), List.replicate 8 15) := by
  obtain ⟨a, prot, quad, wipes, tabled, sel, en, goes, job, busy, op, stage, left, got, addr, mode, moded, data, told, now, beyond⟩ := s
  kernel_rfl
theorem byteInA (x : Int) (h : 0 ≤ x ∧ x ≤ 255) : byteIn x = x := by
  unfold byteIn
  rw [bitsOn_byte 0 x h]
  omega
theorem inn_word (s : St) (A : Int) (bs : List Int) : ∀ d : List Int, (∀ x ∈ bs, 0 ≤ x ∧ x ≤ 255) → (runI (s.inn A d) (wordL bs)).1 = s.inn A (d ++ bs) := by
  induction bs with
  | nil => intro d _; rw [List.append_nil]; rfl
  | cons b bs ih =>
    intro d hb
    rw [wordL_cons, runI_app, inn_byte, byteInA b (hb b (List.mem_cons.2 (.inl rfl)))]
    dsimp only
    rw [ih (d ++ [b]) (fun x hx => hb x (List.mem_cons.2 (.inr hx))), List.append_assoc]
    rfl
def wantN (a : ByteArray) (k : Int) (ds : List Int) : List UInt8 := (progCut a (k - k % 32).toNat ⟨(pageOf k ds).toArray⟩ all255).data.toList
theorem wantN_len (a : ByteArray) (k : Int) (ds : List Int) : (wantN a k ds).length = a.size := by
  have := turned_size a (k - k % 32).toNat (⟨(pageOf k ds).toArray⟩ : ByteArray).size fun i old => old &&& ~~~(maskAt all255 i &&& ~~~((⟨(pageOf k ds).toArray⟩ : ByteArray).data.toList.getD i 0))
  exact this
theorem wantN_at (a : ByteArray) (k : Int) (ds : List Int) (j : Nat) (hj : j < a.size) : (wantN a k ds).getD j 0 = if (k - k % 32).toNat ≤ j ∧ j < (k - k % 32).toNat + 32 then a.data.toList.getD j 0 &&& (pageOf k ds).getD (j - (k - k % 32).toNat) 0 else a.data.toList.getD j 0 := by
  have hsz : (⟨(pageOf k ds).toArray⟩ : ByteArray).size = 32 := page_len _ _
  unfold wantN progCut
  rw [turnedA _ _ _ _ _ hj, hsz]
  split
  · rw [maskA, cutA]
  · rfl
theorem ext_getD (xs ys : List UInt8) (hl : xs.length = ys.length) (h : ∀ j, j < xs.length → xs.getD j 0 = ys.getD j 0) : xs = ys := by
  refine List.ext_getElem hl fun j h1 h2 => ?_
  have := h j h1
  simpa [List.getD_eq_getElem?_getD, List.getElem?_eq_getElem h1, List.getElem?_eq_getElem h2] using this
theorem getD_rep (n i : Nat) (v : UInt8) (h : i < n) : (List.replicate n v).getD i 0 = v := by
  rw [List.getD_eq_getElem?_getD, List.getElem?_replicate, if_pos h]
  rfl
theorem getD_set (l : List UInt8) (n i : Nat) (v : UInt8) (hn : n < l.length) : (l.set n v).getD i 0 = if n = i then v else l.getD i 0 := by
  rw [List.getD_eq_getElem?_getD, List.getElem?_set]
  by_cases h : n = i
  · rw [if_pos h, if_pos h, if_pos hn]
    rfl
  · rw [if_neg h, if_neg h, ← List.getD_eq_getElem?_getD]
theorem page_blank (k : Int) (n : Nat) : ∀ (ds : List Int) (m : Nat), ds.length = n → n ≤ m → m < 32 → (pageOf k ds).getD ((k + (m : Int)) % 32).toNat 0 = 255 := by
  induction n with
  | zero =>
    intro ds m h0 _ hm
    obtain rfl : ds = [] := List.eq_nil_of_length_eq_zero h0
    exact getD_rep 32 _ 255 (by omega)
  | succ n ih =>
    intro ds m h0 h1 hm
    have hne : ds ≠ [] := by rintro rfl; simp at h0
    have hcat := List.dropLast_concat_getLast hne
    have hdl : ds.dropLast.length = n := by rw [List.length_dropLast]; omega
    rw [← hcat, page_snoc, getD_set _ _ _ _ (by rw [page_len]; omega), if_neg (by rw [hdl]; omega)]
    exact ih _ m hdl (by omega) hm
end Go.Proofs.YteombggfmeilaaaGreat
