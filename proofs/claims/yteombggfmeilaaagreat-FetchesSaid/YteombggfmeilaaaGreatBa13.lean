/- Ready -/
import Derived.Test.YteombggfmeilaaaGreatBa12
/- Ready. -/
namespace Go.Proofs.YteombggfmeilaaaGreat
open Go.RowKit
def Rdy (Q : Own) (c : Cor) (b k fo fi : Nat) (n q : Int) (w0 w : World) (rows : List (Value × List Value)) : Prop :=
  ∃ (s : St) (N : Int) (K : KS), Q.Ok ∧ At c s ∧ Ctx (ChipP b s N) ((CtlC k b fo fi K).star Q) w0 w rows ∧ 0 ≤ N ∧ N ≤ n ∧ K.left = -1 ∧ K.lost = false ∧ K.goes = false ∧ K.clocks = q ∧ 0 ≤ q ∧ q ≤ n ∧ n ≤ 1048575
theorem Rdy.rowsub {Q : Own} {c : Cor} {b k fo fi : Nat} {n q : Int} {w0 w : World} {rows rows' : List (Value × List Value)} (h : Rdy Q c b k fo fi n q w0 w rows) (hs : ∀ r ∈ rows', r ∈ rows) : Rdy Q c b k fo fi n q w0 w rows' := by
  obtain ⟨s, N, K, h1, h2, h3, h4⟩ := h
  exact ⟨s, N, K, h1, h2, h3.sub hs, h4⟩
theorem Rdy.up {Q : Own} {c : Cor} {b k fo fi : Nat} {n q : Int} {w0 w : World} {rows : List (Value × List Value)} (h : Rdy Q c b k fo fi n q w0 w rows) : Upd none' w0 w := by
  obtain ⟨s, N, K, h1, h2, h3, h4⟩ := h
  exact h3.upd
theorem Rdy.nil {Q : Own} {c : Cor} {b k fo fi : Nat} {n q : Int} {w0 w : World} {rows : List (Value × List Value)} (h : Rdy Q c b k fo fi n q w0 w rows) : Rdy Q c b k fo fi n q w0 w ((.slice none 0 0, ints []) :: rows) := by
  obtain ⟨s, N, K, h1, h2, h3, h4⟩ := h
  exact ⟨s, N, K, h1, h2, h3.nilrow, h4⟩
theorem Rdy.lit {Q : Own} {c : Cor} {b k fo fi : Nat} {n q : Int} {w0 w : World} {rows : List (Value × List Value)} (h : Rdy Q c b k fo fi n q w0 w rows) (vs : List Value) (t : TypeId) (m : Nat) (hm : vs.length = m) (hb : m ≤ 1048576) : Rdy Q c b k fo fi n q w0 (w.alloc (.cells vs.toArray t)) ((.slice (some ⟨w.heap.size, 0, none⟩) m m, vs) :: rows) := by
  obtain ⟨s, N, K, h1, h2, h3, h4⟩ := h
  exact ⟨s, N, K, h1, h2, h3.lit vs t m hm hb, h4⟩
theorem Rdy.rs {Q : Own} {c : Cor} {b k fo fi : Nat} {n q : Int} {w0 w : World} {rows : List (Value × List Value)} (h : Rdy Q c b k fo fi n q w0 w rows) {r : Value × List Value} (hr : r ∈ rows) : RS w r.1 r.2 := by
  obtain ⟨s, N, K, h1, h2, h3, h4⟩ := h
  exact h3.rs_mem hr
theorem rdy_new {w0 w : World} {b : Nat} {s : St} {c : Cor} {N : Int} {Q : Own} (hQ : Q.Ok) {rows : List (Value × List Value)} (hA : At c s) (hC : Ctx (ChipP b s N) Q w0 w rows) (h0 : 0 ≤ N) (hN : N ≤ 1048575) :
    Calls Tryz.prog 49 #[.pointer (some ⟨b, 0, none⟩)] w fun e w' => ∃ k fo fi, e = .returned (.tuple #[.pointer (some ⟨k, 0, none⟩), .int .i64 0]) ∧ Rdy Q c b k fo fi N 0 w0 w' rows := by
  refine (c_ctlnew hC).mono ?_
  rintro e w' ⟨k, fo, fi, rfl, hC2⟩
  exact ⟨k, fo, fi, rfl, s, N, KS.new, hQ, hA, hC2, h0, Int.le_refl _, rfl, rfl, rfl, rfl, Int.le_refl _, h0, hN⟩
theorem rdy_run {Q : Own} {c : Cor} {b k fo fi : Nat} {n q : Int} {w0 w : World} {rows : List (Value × List Value)} (h : Rdy Q c b k fo fi n q w0 w rows) (o : Int) (ho : opIs o = true) (ho2 : o ≠ 235) (at_ : Int) (a : Option Addr) (cp : Nat) (data : List Int) (hdd : (.slice a data.length cp, ints data) ∈ rows) (read : Int) (hmay : cmdMay (opOf o) at_ data read = true)
    (c' : Cor) (out : List Int) (clk : Int) (hclk : phsMany (cmdPhs (opOf o) at_ data read) = clk) (hroom : n + clk + 1 ≤ 1048575) (hd : ∀ t, At c t → ∃ d : Drv, Drv.phases ⟨t.select, [], 0, -1⟩ (cmdPhs (opOf o) at_ data read) = (d, true) ∧ d.clocks = clk ∧ d.out = out ∧ At c' d.s.deselect) :
    Calls Tryz.prog 50 #[.pointer (some ⟨k, 0, none⟩), .int .i64 o, .int .i64 at_, .slice a data.length cp, .int .i64 read] w fun e w' => ∃ oa oc, e = .returned (.tuple #[.slice oa out.length oc, .int .i64 0]) ∧ Rdy Q c' b k fo fi (n + clk + 1) (q + clk) w0 w' ((.slice oa out.length oc, ints out) :: rows) := by
  obtain ⟨s, N, K, hQ, hA, hC, hN0, hN, hl, hlo, hgo, hkc, hq0, hqn, hn⟩ := h
  obtain ⟨d, e1, e2, e3, e4⟩ := hd s hA
  have hk := phases_kept (cmdPhs (opOf o) at_ data read) ⟨s.select, [], 0, K.left⟩ (cmd_all o ho at_ data read hmay)
  rw [hl, e1] at hk
  have hc0 := hk.up
  dsimp only at hc0
  refine (c_run hQ hC hN0 hA.sel (by omega) (by omega) hlo hgo o ho ho2 at_ a cp data hdd read hmay (by omega) d (by rw [hl]; exact e1)).mono ?_
  rintro e w' ⟨oa, oc, rfl, hC2⟩
  rw [e3] at hC2 ⊢
  refine ⟨oa, oc, rfl, d.s.deselect, _, _, hQ, e4, hC2, by omega, by omega, ?_, hlo, hgo, ?_, by omega, by omega, hroom⟩
  · unfold KS.driven
    rw [if_neg (by omega)]
    exact hl
  · unfold KS.driven
    dsimp only
    omega
theorem rdy_en {Q : Own} {c : Cor} {b k fo fi : Nat} {n q : Int} {w0 w : World} {rows : List (Value × List Value)} (h : Rdy Q c b k fo fi n q w0 w rows) (hg : c.goes = false) (hj : c.job = none) (hn : n + 9 ≤ 1048575) :
    Calls Tryz.prog 50 #[.pointer (some ⟨k, 0, none⟩), .int .i64 6, .int .i64 0, .slice none 0 0, .int .i64 0] w fun e w' => ∃ oa oc, e = .returned (.tuple #[.slice oa 0 oc, .int .i64 0]) ∧ Rdy Q { c with en := true } b k fo fi (n + 9) (q + 8) w0 w' rows := by
  refine (rdy_run h.nil 6 (by decide) (by decide) 0 none 0 [] List.mem_cons_self 0 (by kernel_rfl) { c with en := true } [] 8 (by kernel_rfl) (by omega) (fun t ht => en_all ht hg hj)).mono ?_
  rintro e w' ⟨oa, oc, rfl, h2⟩
  refine ⟨oa, oc, rfl, ?_⟩
  rw [show n + 9 = n + 8 + 1 by omega]
  exact h2.rowsub fun r hr => List.mem_cons_of_mem _ (List.mem_cons_of_mem _ hr)
theorem rdy_put {Q : Own} {c : Cor} {b k fo fi : Nat} {n q : Int} {w0 w : World} {rows : List (Value × List Value)} (h : Rdy Q c b k fo fi n q w0 w rows) (hg : c.goes = false) (hj : c.job = none) (he : c.en = true) (hn : n + 25 ≤ 1048575) :
    Calls Tryz.prog 50 #[.pointer (some ⟨k, 0, none⟩), .int .i64 1, .int .i64 0, .slice (some ⟨w.heap.size, 0, none⟩) 2 2, .int .i64 0] (w.alloc (.cells #[.int .i64 0, .int .i64 2] 3)) fun e w' => ∃ oa oc, e = .returned (.tuple #[.slice oa 0 oc, .int .i64 0]) ∧ Rdy Q { c with prot := false, quad := true, en := false } b k fo fi (n + 25) (q + 24) w0 w' rows := by
  refine (rdy_run (h.lit (ints [0, 2]) 3 2 rfl (by decide)) 1 (by decide) (by decide) 0 _ 2 [0, 2] List.mem_cons_self 0 (by kernel_rfl) { c with prot := false, quad := true, en := false } [] 24 (by kernel_rfl) (by omega) (fun t ht => put_all ht hg hj he)).mono ?_
  rintro e w' ⟨oa, oc, rfl, h2⟩
  refine ⟨oa, oc, rfl, ?_⟩
  rw [show n + 25 = n + 24 + 1 by omega]
  exact h2.rowsub fun r hr => List.mem_cons_of_mem _ (List.mem_cons_of_mem _ hr)
def fetched (a : ByteArray) (k : Int) (m : Nat) : List UInt8 := (List.range m).map fun (i : Nat) => a.data.toList.getD ((k + (i : Int)) % 4096).toNat 0
theorem fetched_len (a : ByteArray) (k : Int) (m : Nat) : (fetched a k m).length = m := by
  unfold fetched
  rw [List.length_map, List.length_range]
theorem rdy_fetch {Q : Own} {c : Cor} {b k fo fi : Nat} {n q : Int} {w0 w : World} {rows : List (Value × List Value)} (h : Rdy Q c b k fo fi n q w0 w rows) (hg : c.goes = false) (hj : c.job = none) (hq : c.quad = true) (fa : ByteArray) (ha : c.a = fa) (at_ : Int) (m : Nat) (h0 : 0 ≤ at_) (hm : (m : Int) ≤ 512) (hle : at_ + m ≤ 4096) (hn : n + (41 + 2 * (m : Int)) ≤ 1048575) :
    Calls Tryz.prog 51 #[.pointer (some ⟨k, 0, none⟩), .int .i64 at_, .int .i64 (m : Int)] w fun e w' => e = .returned (.tuple #[.string ⟨(fetched fa at_ m).toArray⟩, .int .i64 0]) ∧ Rdy Q c b k fo fi (n + (41 + 2 * (m : Int))) (q + if m = 0 then 0 else 40 + 2 * (m : Int)) w0 w' rows := by
  subst ha
  have hmay : fmayB at_ (m : Int) = true := decide_eq_true (by omega)
  by_cases hm0 : m = 0
  · subst hm0
    refine (fetch_zero k at_ hmay w).mono ?_
    rintro e w' ⟨rfl, rfl⟩
    obtain ⟨s, N, K, hQ, hA, hC, hN0, hN, hl, hlo, hgo, hkc, hq0, hqn, hn2⟩ := h
    exact ⟨rfl, s, N, K, hQ, hA, hC, hN0, by omega, hl, hlo, hgo, by rw [if_pos rfl]; omega, by rw [if_pos rfl]; omega, by rw [if_pos rfl]; omega, hn⟩
  · obtain ⟨s, N, K, hQ, hA, hC, hN0, hN, hl, hlo, hgo, hkc, hq0, hqn, hn2⟩ := h
    obtain ⟨d, e1, e2, e3, e4, e5⟩ := read4_all hA hg hj hq at_ (by omega) m (by omega)
    have hmany := quad_many at_ m (by omega)
    refine (c_fetch hQ hC hN0 hA.sel (by omega) (by omega) hlo hgo at_ m (by omega) hmay (by omega) d (by rw [hl]; exact e1) (fetched c.a at_ m) ?_ (fetched_len _ _ _)).mono ?_
    · rw [e3]
      unfold intsOf fetched byteOf
      rw [List.map_map]
      rfl
    · rintro e w' ⟨rfl, hC2⟩
      rw [if_neg hm0]
      refine ⟨rfl, d.s.deselect, _, _, hQ, e4, hC2, by omega, by omega, ?_, hlo, hgo, ?_, by omega, by omega, hn⟩
      · unfold KS.driven
        rw [if_neg (by omega)]
        exact hl
      · unfold KS.driven
        dsimp only
        omega
theorem rdy_next {Q : Own} {c : Cor} {b k fo fi : Nat} {n q : Int} {w0 w : World} {rows : List (Value × List Value)} (h : Rdy Q c b k fo fi n q w0 w rows) (x : Int) (hx : 1 ≤ x ∧ x ≤ 400) :
    Calls Tryz.prog 24 #[.pointer (some ⟨b, 0, none⟩), .slice (some ⟨w.heap.size, 0, none⟩) 1 1] (w.alloc (.cells #[.int .i64 x] 3)) fun e w' => e = .returned (.int .i64 0) ∧ Rdy Q { c with busy := [x] } b k fo fi n q w0 w' rows := by
  obtain ⟨s, N, K, hQ, hA, hC, h4⟩ := h
  refine (c_nextl hC [x] 1 rfl (Nat.le_refl _) (by decide) (by simpa using hx)).mono ?_
  rintro e w' ⟨rfl, hC2⟩
  obtain ⟨hcor, hsel⟩ := hA
  refine ⟨rfl, { s with busy := [x] }, N, K, hQ, ⟨?_, hsel⟩, hC2, h4⟩
  rw [← hcor]
  rfl
end Go.Proofs.YteombggfmeilaaaGreat
