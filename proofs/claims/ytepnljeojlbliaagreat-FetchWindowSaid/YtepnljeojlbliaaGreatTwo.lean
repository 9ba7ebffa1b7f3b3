/- Two controllers side by side, each over a chip of its own. -/
import Derived.Test.YtepnljeojlbliaaGreatReady
namespace Go.Proofs.YtepnljeojlbliaaGreat
open Go.RowKit
theorem Ctx.mapQ {P Q Q' : Own} {w0 w : World} {rows : List (Value × List Value)} (hC : Ctx P Q w0 w rows) (hQ' : Q'.Ok) (h : ∀ S, Q w S → Q' w S) : Ctx P Q' w0 w rows := by
  obtain ⟨S, ⟨A, B, hA, hB, hd, hS⟩, h2, h3⟩ := hC.all
  exact ⟨hC.okP, hQ', hC.upd, S, ⟨A, B, hA, h B hB, hd, hS⟩, h2, h3⟩
theorem Ctx.assoc {P Q R : Own} {w0 w : World} {rows : List (Value × List Value)} (hP : P.Ok) (hQ : Q.Ok) (hC : Ctx (P.star Q) R w0 w rows) : Ctx P (Q.star R) w0 w rows := by
  obtain ⟨S, ⟨A, B, ⟨C, D, hCC, hD, hd2, hS2⟩, hB, hd, hS⟩, h2, h3⟩ := hC.all
  refine ⟨hP, hQ.star hC.okQ, hC.upd, S, ⟨C, fun k => D k ∨ B k, hCC, ⟨D, B, hD, hB, fun k hk hb => hd k ((hS2 k).2 (.inr hk)) hb, fun _ => Iff.rfl⟩, ?_, fun k => ?_⟩, h2, h3⟩
  · rintro k hk (h | h)
    · exact hd2 k hk h
    · exact hd k ((hS2 k).2 (.inl hk)) h
  · rw [hS k, hS2 k, or_assoc]
theorem Ctx.assocR {P Q R : Own} {w0 w : World} {rows : List (Value × List Value)} (hQ : Q.Ok) (hR : R.Ok) (hC : Ctx P (Q.star R) w0 w rows) : Ctx (P.star Q) R w0 w rows := by
  obtain ⟨S, ⟨A, B, hA, ⟨C, D, hCC, hD, hd2, hS2⟩, hd, hS⟩, h2, h3⟩ := hC.all
  refine ⟨hC.okP.star hQ, hR, hC.upd, S, ⟨fun k => A k ∨ C k, D, ⟨A, C, hA, hCC, fun k hk hc => hd k hk ((hS2 k).2 (.inl hc)), fun _ => Iff.rfl⟩, hD, ?_, fun k => ?_⟩, h2, h3⟩
  · rintro k (hk | hk) h
    · exact hd k hk ((hS2 k).2 (.inr h))
    · exact hd2 k hk h
  · rw [hS k, hS2 k, or_assoc]
/-- A controller at rest over a chip that is not selected, as an object. -/
def RdyP (c : Cor) (b k fo fi : Nat) (n q : Int) : Own := fun w S => ∃ (s : St) (N : Int) (K : KS), At c s ∧ ((ChipP b s N).star (CtlC k b fo fi K)) w S ∧ 0 ≤ N ∧ N ≤ n ∧ K.left = -1 ∧ K.lost = false ∧ K.goes = false ∧ K.clocks = q ∧ 0 ≤ q ∧ q ≤ n ∧ n ≤ 1048575
theorem rdyP_ok (c : Cor) (b k fo fi : Nat) (n q : Int) : (RdyP c b k fo fi n q).Ok := by
  refine ⟨?_, ?_⟩
  · rintro w w' S T ⟨s, N, K, h1, h2, h3⟩ hu hT
    exact ⟨s, N, K, h1, ((chipP_ok b s N).star (ctlC_ok k b fo fi K)).frame h2 hu hT, h3⟩
  · rintro w S ⟨s, N, K, h1, h2, h3⟩ j hj
    exact ((chipP_ok b s N).star (ctlC_ok k b fo fi K)).lt h2 j hj
theorem Rdy.asP {Q : Own} {c : Cor} {b k fo fi : Nat} {n q : Int} {w0 w : World} {rows : List (Value × List Value)} (h : Rdy Q c b k fo fi n q w0 w rows) : Ctx (RdyP c b k fo fi n q) Q w0 w rows := by
  obtain ⟨s, N, K, hQ, hA, hC, h4⟩ := h
  have h1 := (hC.assocR (ctlC_ok k b fo fi K) hQ).commQ
  exact (h1.mapQ (rdyP_ok c b k fo fi n q) fun S hS => ⟨s, N, K, hA, hS, h4⟩).commQ
theorem Rdy.ofP {Q : Own} {c : Cor} {b k fo fi : Nat} {n q : Int} {w0 w : World} {rows : List (Value × List Value)} (h : Ctx (RdyP c b k fo fi n q) Q w0 w rows) : Rdy Q c b k fo fi n q w0 w rows := by
  obtain ⟨S, ⟨A, B, ⟨s, N, K, hA, hS, h4⟩, hB, hd, hSS⟩, h2, h3⟩ := h.all
  have hC : Ctx ((ChipP b s N).star (CtlC k b fo fi K)) Q w0 w rows := ⟨(chipP_ok b s N).star (ctlC_ok k b fo fi K), h.okQ, h.upd, S, ⟨A, B, hS, hB, hd, hSS⟩, h2, h3⟩
  exact ⟨s, N, K, h.okQ, hA, hC.assoc (chipP_ok b s N) (ctlC_ok k b fo fi K), h4⟩
/-- The other one's turn. -/
theorem Rdy.swap {c c2 : Cor} {b k fo fi b2 k2 fo2 fi2 : Nat} {n q n2 q2 : Int} {w0 w : World} {rows : List (Value × List Value)} (h : Rdy (RdyP c2 b2 k2 fo2 fi2 n2 q2) c b k fo fi n q w0 w rows) : Rdy (RdyP c b k fo fi n q) c2 b2 k2 fo2 fi2 n2 q2 w0 w rows := Rdy.ofP h.asP.commQ
/-- The first of two chips has its controller; now the second one. -/
theorem rdy_new2 {w0 w : World} {b2 : Nat} {s2 : St} {c2 : Cor} {N2 : Int} {c : Cor} {b k fo fi : Nat} {n q : Int} {rows : List (Value × List Value)} (h : Rdy (ChipP b2 s2 N2) c b k fo fi n q w0 w rows) (hA : At c2 s2) (h0 : 0 ≤ N2) (hN : N2 ≤ 1048575) :
    Calls Tryz.prog 49 #[.pointer (some ⟨b2, 0, none⟩)] w fun e w' => ∃ k2 fo2 fi2, e = .returned (.tuple #[.pointer (some ⟨k2, 0, none⟩), .int .i64 0]) ∧ Rdy (RdyP c b k fo fi n q) c2 b2 k2 fo2 fi2 N2 0 w0 w' rows :=
  rdy_new (rdyP_ok c b k fo fi n q) hA h.asP.commQ h0 hN
/-- A greater bound. -/
theorem Rdy.most {Q : Own} {c : Cor} {b k fo fi : Nat} {n m q : Int} {w0 w : World} {rows : List (Value × List Value)} (h : Rdy Q c b k fo fi n q w0 w rows) (hm : n ≤ m) (hm2 : m ≤ 1048575) : Rdy Q c b k fo fi m q w0 w rows := by
  obtain ⟨s, N, K, hQ, hA, hC, hN0, hN, hl, hlo, hgo, hkc, hq0, hqn, hn⟩ := h
  exact ⟨s, N, K, hQ, hA, hC, hN0, by omega, hl, hlo, hgo, hkc, hq0, by omega, hm2⟩
theorem Ctx.unemp {P Q : Own} {w0 w : World} {rows : List (Value × List Value)} (hQ : Q.Ok) (hC : Ctx P (Q.star .emp) w0 w rows) : Ctx P Q w0 w rows := by
  refine hC.mapQ hQ ?_
  rintro S ⟨A, B, hA, hB, hd, hS⟩
  have : S = A := by
    funext k
    exact propext ((hS _).trans ⟨fun h => h.elim id fun hb => absurd hb (hB _), .inl⟩)
  rw [this]
  exact hA
theorem Ctx.emp0 {P : Own} {w0 w : World} {rows : List (Value × List Value)} (h : Upd none' w0 w) (hP : P.Ok) {S : Nat → Prop} (hS : P w S) (hn : ∀ k, S k → w0.heap.size ≤ k) (hr : ∀ r ∈ rows, RowOk w S r) : Ctx P .emp w0 w rows :=
  ⟨hP, Own.emp_ok, h, S, ⟨S, none', hS, fun _ f => f, fun _ _ f => f, fun _ => ⟨.inl, fun h => h.elim (fun x => x) (fun f => f.elim)⟩⟩, hn, hr⟩
/-- An object that a call has made beside all else. -/
theorem Ctx.beside {P P' Q : Own} {w0 w w' : World} {rows : List (Value × List Value)} (hC : Ctx P Q w0 w rows) (hP' : P'.Ok) (hu : Upd none' w w') {A' : Nat → Prop} (hA' : P' w' A') (hs : ∀ k, A' k → w.heap.size ≤ k) : Ctx P' (P.star Q) w0 w' rows := by
  obtain ⟨S, h1, h2, h3⟩ := hC.all
  have h0 := hC.upd.size
  have hlt := (hC.okP.star hC.okQ).lt h1
  refine ⟨hP', hC.okP.star hC.okQ, hC.upd.trans hu (fun _ _ f => f), fun k => A' k ∨ S k, ⟨A', S, hA', (hC.okP.star hC.okQ).frame h1 hu (fun _ _ f => f), fun k ha hb => ?_, fun _ => Iff.rfl⟩, ?_, ?_⟩
  · have := hs k ha; have := hlt k hb; omega
  · rintro k (h4 | h4)
    · have := hs k h4; omega
    · exact h2 k h4
  · intro r hr
    refine (h3 r hr).upd hu (fun _ f => f.elim) ?_
    rintro k (h6 | h6)
    · exact .inr (hs k h6)
    · exact .inl h6
/-- A number below a bound, from any. -/
theorem uN (x : Int) (n : Nat) (h : 0 < n) (hn : n ≤ 1048576) : ∃ j : Nat, (IntKind.u64.wrap x).tmod (n : Int) = (j : Int) ∧ j < n := by
  rw [IntKind.wrap_u64]
  have h0 : 0 ≤ x % 18446744073709551616 := Int.emod_nonneg _ (by decide)
  rw [Int.tmod_eq_emod_of_nonneg h0]
  have h1 := Int.emod_nonneg (x % 18446744073709551616) (show (n : Int) ≠ 0 by omega)
  have h2 := Int.emod_lt_of_pos (x % 18446744073709551616) (show (0 : Int) < n by omega)
  exact ⟨(x % 18446744073709551616 % n).toNat, by omega, by omega⟩
end Go.Proofs.YtepnljeojlbliaaGreat
