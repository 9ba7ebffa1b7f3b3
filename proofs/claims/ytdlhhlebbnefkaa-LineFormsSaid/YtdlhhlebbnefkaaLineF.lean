/- Caches that are none: what the nine ways of LineForms lay. -/
import Derived.Test.YtdlhhlebbnefkaaLineR
import Derived.Test.YtdlhhlebbnefkaaCopy
namespace Go.Proofs.Ytdlhhlebbnefkaa
open Go.RowKit
/-- A cache's two slices, as they are read. -/
structure BR (w : World) (a1 : Option Addr) (n1 c1 : Nat) (a2 : Option Addr) (n2 c2 : Nat) (xs : List Int) (ts : List ByteArray) : Prop where
  r1 : RS w (.slice a1 n1 c1) (ints xs)
  r2 : RS w (.slice a2 n2 c2) (strs ts)
theorem BR.upd {w w' : World} {a1 a2 : Option Addr} {n1 c1 n2 c2 : Nat} {xs : List Int} {ts : List ByteArray} (h : BR w a1 n1 c1 a2 n2 c2 xs ts) (u : Upd none' w w') : BR w' a1 n1 c1 a2 n2 c2 xs ts :=
  ⟨h.r1.upd u (fun _ _ _ f => f), h.r2.upd u (fun _ _ _ f => f)⟩
/-- In ob lies a cache that may not be. -/
def BadC (wx : World) (ob : Nat) : Prop := ∃ a1 n1 c1 a2 n2 c2 nx xs ts, Blk wx ob [.slice a1 n1 c1, .slice a2 n2 c2, .int .i64 nx] 42 ∧ BR wx a1 n1 c1 a2 n2 c2 xs ts ∧ mayB xs ts nx = false
/-- In ob lies a cache with rows of its own in ge, gf. -/
structure BP (W : World) (ob ge gf ne nf : Nat) (xs : List Int) (ts : List ByteArray) (nx : Int) : Prop where
  B : Blk W ob [.slice (some ⟨ge, 0, none⟩) 2 ne, .slice (some ⟨gf, 0, none⟩) 2 nf, .int .i64 nx] 42
  R1 : Row W 3 (.slice (some ⟨ge, 0, none⟩) 2 ne) (ints xs)
  R2 : Row W 9 (.slice (some ⟨gf, 0, none⟩) 2 nf) (strs ts)
  d1 : ge ≠ ob
  d2 : gf ≠ ob
  d3 : ge ≠ gf
  l1 : xs.length = 2
  l2 : ts.length = 2
theorem BP.upd {W W' : World} {ob ge gf ne nf : Nat} {xs : List Int} {ts : List ByteArray} {nx : Int} (h : BP W ob ge gf ne nf xs ts nx) (u : Upd none' W W') : BP W' ob ge gf ne nf xs ts nx :=
  ⟨h.B.upd u (fun f => f), h.R1.upd u (fun _ _ f => f), h.R2.upd u (fun _ _ f => f), h.d1, h.d2, h.d3, h.l1, h.l2⟩
theorem BP.setAt {W : World} {ob ge gf ne nf : Nat} {xs : List Int} {ts : List ByteArray} {nx : Int} (h : BP W ob ge gf ne nf xs ts nx) (i : Nat) (hi : i < 2) (x : Int) : BP (W.setCell ⟨ge, i, none⟩ (.int .i64 x)) ob ge gf ne nf (xs.set i x) ts nx := by
  have u := (Upd.refl (fun k => k = ge) W).setCell ⟨ge, i, none⟩ (.int .i64 x) (fun _ => rfl)
  refine ⟨h.B.upd u (Ne.symm h.d1), ?_, h.R2.upd u (fun k hk e => h.d3 (by rw [← e]; simpa [Value.ownBlock] using hk.symm)), h.d1, h.d2, h.d3, by simp [h.l1], h.l2⟩
  have := h.R1.set ge rfl i (by simp [ints, h.l1, hi]) (.int .i64 x)
  rw [show (ints xs).set i (.int .i64 x) = ints (xs.set i x) by simp [ints, List.map_set]] at this
  exact this
theorem BP.setText {W : World} {ob ge gf ne nf : Nat} {xs : List Int} {ts : List ByteArray} {nx : Int} (h : BP W ob ge gf ne nf xs ts nx) (i : Nat) (hi : i < 2) (x : ByteArray) : BP (W.setCell ⟨gf, i, none⟩ (.string x)) ob ge gf ne nf xs (ts.set i x) nx := by
  have u := (Upd.refl (fun k => k = gf) W).setCell ⟨gf, i, none⟩ (.string x) (fun _ => rfl)
  refine ⟨h.B.upd u (Ne.symm h.d2), h.R1.upd u (fun k hk e => h.d3 (by rw [← e]; simpa [Value.ownBlock] using hk)), ?_, h.d1, h.d2, h.d3, h.l1, by simp [h.l2]⟩
  have := h.R2.set gf rfl i (by simp [strs, h.l2, hi]) (.string x)
  rw [show (strs ts).set i (.string x) = strs (ts.set i x) by simp [strs, List.map_set]] at this
  exact this
theorem BP.bad {W : World} {ob ge gf ne nf : Nat} {xs : List Int} {ts : List ByteArray} {nx : Int} (h : BP W ob ge gf ne nf xs ts nx) (hm : mayB xs ts nx = false) : BadC W ob := by
  have r1 := h.R1.rs (by simp [ints, h.l1])
  have r2 := h.R2.rs (by simp [strs, h.l2])
  exact ⟨_, _, _, _, _, _, _, _, _, h.B, ⟨r1, r2⟩, hm⟩
theorem BP.bad_next {W : World} {ob ge gf ne nf : Nat} {xs : List Int} {ts : List ByteArray} {nx : Int} (h : BP W ob ge gf ne nf xs ts nx) (n : Int) (hm : mayB xs ts n = false) : BadC (W.setCell ⟨ob, 2, none⟩ (.int .i64 n)) ob := by
  have u := (Upd.refl (fun k => k = ob) W).setCell ⟨ob, 2, none⟩ (.int .i64 n) (fun _ => rfl)
  have r1 := (h.R1.upd u (fun k hk e => h.d1 (by rw [← e]; simpa [Value.ownBlock] using hk))).rs (by simp [ints, h.l1])
  have r2 := (h.R2.upd u (fun k hk e => h.d2 (by rw [← e]; simpa [Value.ownBlock] using hk))).rs (by simp [strs, h.l2])
  exact ⟨_, _, _, _, _, _, _, _, _, h.B.set 2 (.int .i64 n), ⟨r1, r2⟩, hm⟩
theorem BP.bad_nil {W : World} {ob ge gf ne nf : Nat} {xs : List Int} {ts : List ByteArray} {nx : Int} (h : BP W ob ge gf ne nf xs ts nx) : BadC (W.setCell ⟨ob, 1, none⟩ (.slice none 0 0)) ob := by
  have u := (Upd.refl (fun k => k = ob) W).setCell ⟨ob, 1, none⟩ (.slice none 0 0) (fun _ => rfl)
  have r1 := (h.R1.upd u (fun k hk e => h.d1 (by rw [← e]; simpa [Value.ownBlock] using hk))).rs (by simp [ints, h.l1])
  exact ⟨_, _, _, _, _, _, _, _, [], h.B.set 1 (.slice none 0 0), ⟨r1, RS.nil _⟩, by simp [mayB]⟩
theorem RS.take1 {w : World} {a : Option Addr} {c : Nat} {x y : Value} (h : RS w (.slice a 2 c) [x, y]) : RS w (.slice a 1 c) [x] := by
  obtain ⟨_, a', cap, e, h4, h5⟩ := h
  simp only [List.length_cons, List.length_nil, Value.slice.injEq] at e h4
  obtain ⟨rfl, _, rfl⟩ := e
  obtain ⟨b, o, h6, h7, h8⟩ := h5 (by simp)
  refine ⟨by simp, a, c, rfl, by simp; omega, fun _ => ⟨b, o, h6, h7, fun j hj => ?_⟩⟩
  simp at hj
  subst hj
  exact h8 0 (by simp)
theorem BP.bad_short {W : World} {ob ge gf ne nf : Nat} {x y : Int} {ts : List ByteArray} {nx : Int} (h : BP W ob ge gf ne nf [x, y] ts nx) : BadC (W.setCell ⟨ob, 0, none⟩ (.slice (some ⟨ge, 0, none⟩) 1 ne)) ob := by
  have u := (Upd.refl (fun k => k = ob) W).setCell ⟨ob, 0, none⟩ (.slice (some ⟨ge, 0, none⟩) 1 ne) (fun _ => rfl)
  have r1 := (h.R1.upd u (fun k hk e => h.d1 (by rw [← e]; simpa [Value.ownBlock] using hk))).rs (by simp [ints])
  have r2 := (h.R2.upd u (fun k hk e => h.d2 (by rw [← e]; simpa [Value.ownBlock] using hk))).rs (by simp [strs, h.l2])
  exact ⟨_, _, _, _, _, _, _, [x], _, h.B.set 0 (.slice (some ⟨ge, 0, none⟩) 1 ne), ⟨r1.take1, r2⟩, by simp [mayB]⟩
theorem no_may {xs : List Int} {ts : List ByteArray} {nx : Int} (h : mayB xs ts nx = true → False) : mayB xs ts nx = false := by
  cases hh : mayB xs ts nx
  · rfl
  · exact (h hh).elim
theorem no_next {xs : List Int} {ts : List ByteArray} {n : Int} (hn : n < 0 ∨ 2 ≤ n) : mayB xs ts n = false := no_may fun h => by
  obtain ⟨_, _, _, _, _, _, h3, h4, _⟩ := may_elim h; omega
theorem no_line0 {x y : Int} {t u : ByteArray} {n : Int} (hx : ¬ L1 x t) : mayB [x, y] [t, u] n = false := no_may fun h => by
  obtain ⟨_, _, _, _, e1, e2, _, _, h5, _⟩ := may_elim h
  simp only [List.cons.injEq, and_true] at e1 e2
  rw [← e1.1, ← e2.1] at h5
  exact hx h5
theorem no_line1 {x y : Int} {t u : ByteArray} {n : Int} (hx : ¬ L1 y u) : mayB [x, y] [t, u] n = false := no_may fun h => by
  obtain ⟨_, _, _, _, e1, e2, _, _, _, h5, _⟩ := may_elim h
  simp only [List.cons.injEq, and_true] at e1 e2
  rw [← e1.2, ← e2.2] at h5
  exact hx h5
theorem no_twice {t u : ByteArray} {n : Int} : mayB [64, 64] [t, u] n = false := no_may fun h => by
  obtain ⟨_, _, _, _, e1, e2, _, _, _, _, h5⟩ := may_elim h
  simp only [List.cons.injEq, and_true] at e1 e2
  have := h5 (by rw [← e1.1, ← e1.2])
  omega
theorem l1_no {x : Int} {t : ByteArray} (h1 : x ≠ -1) (h2 : beginsB x = false) : ¬ L1 x t := by
  rintro (⟨h, _⟩ | ⟨h, _⟩)
  · exact h1 h
  · rw [h2] at h; cases h
theorem l1_short {x : Int} {t : ByteArray} (h1 : x ≠ -1) (h2 : t.size ≠ 16) : ¬ L1 x t := by
  rintro (⟨h, _⟩ | ⟨_, h⟩)
  · exact h1 h
  · exact h2 h
theorem row2 {w : World} {e : TypeId} {a : Option Addr} {n c : Nat} {x y : Value} (h : Row w e (.slice a n c) [x, y]) : ∃ g, a = some ⟨g, 0, none⟩ ∧ n = 2 ∧ 2 ≤ c ∧ (Value.slice a n c).ownBlock = some g ∧ g < w.heap.size ∧ w.cell? ⟨g, 0, none⟩ = some x ∧ w.cell? ⟨g, 1, none⟩ = some y ∧ w.frozen? ⟨g, 0, none⟩ = false ∧ w.frozen? ⟨g, 1, none⟩ = false := by
  obtain ⟨ao, cap, e1, hc, hn, hs⟩ := h.form
  simp only [List.length_cons, List.length_nil, Value.slice.injEq] at e1 hc
  obtain ⟨rfl, rfl, rfl⟩ := e1
  cases a with
  | none => exact absurd (hn rfl).1 (by simp)
  | some ad =>
    obtain ⟨g, rfl, h1, h2, h3, h4⟩ := hs ad rfl
    exact ⟨g, rfl, rfl, by omega, h1, h2, h3 0 (by simp), h3 1 (by simp), h4 0, h4 1⟩
theorem row2k {w : World} {e : TypeId} {g n c : Nat} {x y : Value} (h : Row w e (.slice (some ⟨g, 0, none⟩) n c) [x, y]) : g < w.heap.size ∧ w.cell? ⟨g, 0, none⟩ = some x ∧ w.cell? ⟨g, 1, none⟩ = some y ∧ w.frozen? ⟨g, 0, none⟩ = false ∧ w.frozen? ⟨g, 1, none⟩ = false := by
  obtain ⟨g', e1, _, _, _, h1⟩ := row2 h
  simp only [Option.some.injEq, Addr.mk.injEq, and_true] at e1
  subst e1
  exact h1
theorem nine (wh : Int) : ∃ r : Int, (IntKind.u64.wrap wh).tmod 9 = r ∧ (r = 0 ∨ r = 1 ∨ r = 2 ∨ r = 3 ∨ r = 4 ∨ r = 5 ∨ r = 6 ∨ r = 7 ∨ r = 8) := by
  refine ⟨_, rfl, ?_⟩
  have h : IntKind.u64.wrap wh = wh % 18446744073709551616 := by first | exact IntKind.wrap_u64 wh | rfl
  rw [h, Int.tmod_eq_emod_of_nonneg (by omega)]
  omega
theorem find_bad (w : World) (a1 a2 : Option Addr) (n1 n2 c1 c2 : Nat) (xs : List Int) (ts : List ByteArray) (nx a : Int) (h : BR w a1 n1 c1 a2 n2 c2 xs ts) (hm : mayB xs ts nx = false) (ha : a < 9223372036854775808) :
    Calls Try.prog 22 #[.agg #[.slice a1 n1 c1, .slice a2 n2 c2, .int .i64 nx], .int .i64 a] w fun e w' => e = .returned (.tuple #[.int .i64 0, .bool false]) ∧ Upd none' w w' := by
  have := line_find w _ _ xs ts nx a h.r1 h.r2 ha
  rw [show findV xs ts nx a = (0, false) by unfold findV; rw [if_neg (fun h => by rw [hm] at h; exact absurd h.1 (by decide))]] at this
  exact this
theorem find_neg {xs : List Int} {ts : List ByteArray} {nx a : Int} (h : a < 0) : findV xs ts nx a = (0, false) := by unfold findV; rw [if_neg (fun hh => by omega)]
theorem may_bad (w : World) (a1 a2 : Option Addr) (n1 n2 c1 c2 : Nat) (xs : List Int) (ts : List ByteArray) (nx : Int) (h : BR w a1 n1 c1 a2 n2 c2 xs ts) (hm : mayB xs ts nx = false) :
    Calls Try.prog 25 #[.agg #[.slice a1 n1 c1, .slice a2 n2 c2, .int .i64 nx]] w fun e w' => e = .returned (.bool false) ∧ Upd none' w w' := by
  have := line_may w _ _ xs ts nx h.r1 h.r2
  rw [hm] at this
  exact this
theorem keep_bad {xs : List Int} {ts : List ByteArray} {nx a : Int} {s : ByteArray} (h : mayB xs ts nx = false) : keepB xs ts nx a s = false := by simp [keepB, h]
theorem keep_at {xs : List Int} {ts : List ByteArray} {nx a : Int} {s : ByteArray} (h : beginsB a = false) : keepB xs ts nx a s = false := by simp [keepB, h]
theorem keep_size {xs : List Int} {ts : List ByteArray} {nx a : Int} {s : ByteArray} (h : s.size ≠ 16) : keepB xs ts nx a s = false := by simp [keepB, h]
end Go.Proofs.Ytdlhhlebbnefkaa
