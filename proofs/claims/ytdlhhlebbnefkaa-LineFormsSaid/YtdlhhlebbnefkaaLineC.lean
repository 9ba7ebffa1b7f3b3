/- Caches that are read: 'CR'; contracts of New, Keep, Find, May over them; what 'd, e := line.Keep(..)' leaves. -/
import Derived.Test.YtdlhhlebbnefkaaNew
import Derived.Test.YtdlhhlebbnefkaaLawA
import Derived.Deep.RegionHeld3
namespace Go.Proofs.Ytdlhhlebbnefkaa
open Go.RowKit
theorem Row.rs {w : World} {e : TypeId} {v : Value} {xs : List Value} (h : Row w e v xs) (hl : xs.length ≤ 4096) : RS w v xs := by
  obtain ⟨ao, cap, rfl, hc, hn, hs⟩ := h.form
  refine ⟨by omega, ao, cap, rfl, hc, fun hne => ?_⟩
  cases ao with
  | none => exact absurd (hn rfl).1 hne
  | some ad =>
    obtain ⟨g, rfl, _, hg, hcell, _⟩ := hs ad rfl
    exact ⟨g, 0, rfl, hg, fun j hj => by rw [Nat.zero_add]; exact hcell j hj⟩
/-- Two slices that read as a cache's. -/
structure CR (w : World) (a1 : Option Addr) (c1 : Nat) (a2 : Option Addr) (c2 : Nat) (xs : List Int) (ts : List ByteArray) : Prop where
  l1 : xs.length = 2
  l2 : ts.length = 2
  r1 : RS w (.slice a1 2 c1) (ints xs)
  r2 : RS w (.slice a2 2 c2) (strs ts)
theorem CR.upd {w w' : World} {a1 a2 : Option Addr} {c1 c2 : Nat} {xs : List Int} {ts : List ByteArray} (h : CR w a1 c1 a2 c2 xs ts) (u : Upd none' w w') : CR w' a1 c1 a2 c2 xs ts :=
  ⟨h.l1, h.l2, h.r1.upd u (fun _ _ _ f => f), h.r2.upd u (fun _ _ _ f => f)⟩
theorem CR.of {w : World} {v u : Value} {xs : List Int} {ts : List ByteArray} (l1 : xs.length = 2) (l2 : ts.length = 2) (h1 : Row w 3 v (ints xs)) (h2 : Row w 9 u (strs ts)) :
    ∃ a1 c1 a2 c2, v = .slice a1 2 c1 ∧ u = .slice a2 2 c2 ∧ CR w a1 c1 a2 c2 xs ts := by
  have e1 : (ints xs).length = 2 := by simp [ints, l1]
  have e2 : (strs ts).length = 2 := by simp [strs, l2]
  obtain ⟨a1, c1, rfl, _⟩ := h1.form
  obtain ⟨a2, c2, rfl, _⟩ := h2.form
  have r1 := h1.rs (by omega)
  have r2 := h2.rs (by omega)
  rw [e1] at r1 ⊢
  rw [e2] at r2 ⊢
  exact ⟨a1, c1, a2, c2, rfl, rfl, l1, l2, r1, r2⟩
theorem new_cr (w : World) : Calls Try.prog 27 #[] w fun e w' => ∃ a1 c1 a2 c2, e = .returned (.agg #[.slice a1 2 c1, .slice a2 2 c2, .int .i64 0]) ∧ CR w' a1 c1 a2 c2 [-1, -1] [⟨#[]⟩, ⟨#[]⟩] ∧ Upd none' w w' := by
  refine (line_new w).mono ?_
  rintro e w' ⟨v, u, rfl, h1, h2, _, _, hU⟩
  obtain ⟨a1, c1, a2, c2, rfl, rfl, h⟩ := CR.of rfl rfl h1 h2
  exact ⟨a1, c1, a2, c2, rfl, h, hU⟩
def nextOf (xs : List Int) (nx a : Int) : Int := if idx xs a < 0 then (nx + 1) % 2 else nx
theorem keep_cr (w : World) (a1 a2 : Option Addr) (c1 c2 : Nat) (xs : List Int) (ts : List ByteArray) (nx a : Int) (s : ByteArray) (h : CR w a1 c1 a2 c2 xs ts) (hm : mayB xs ts nx = true) (hb : beginsB a = true) (hs : s.size = 16) :
    Calls Try.prog 20 #[.agg #[.slice a1 2 c1, .slice a2 2 c2, .int .i64 nx], .int .i64 a, .string s] w fun e w' =>
      ∃ b1 d1 b2 d2, e = .returned (.tuple #[.agg #[.slice b1 2 d1, .slice b2 2 d2, .int .i64 (nextOf xs nx a)], .int .i64 0]) ∧ CR w' b1 d1 b2 d2 (xs.set (keepAt xs nx a) a) (ts.set (keepAt xs nx a) s) ∧ (∀ k, (Value.slice b1 2 d1).ownBlock = some k → w.heap.size ≤ k) ∧ (∀ k, (Value.slice b2 2 d2).ownBlock = some k → w.heap.size ≤ k) ∧ Upd none' w w' := by
  refine (keep_yes w _ _ xs ts nx a s h.r1 h.r2 hm hb hs).mono ?_
  rintro e w' ⟨v, u, rfl, h1, h2, hf, hf', hU⟩
  obtain ⟨b1, d1, b2, d2, rfl, rfl, h⟩ := CR.of (by simp [h.l1]) (by simp [h.l2]) h1 h2
  exact ⟨b1, d1, b2, d2, rfl, h, hf, fun k hk => (hf' k hk).1, hU⟩
/-- What 'd, e := line.Keep(c, a, text(b))' leaves: d's block, e. -/
def Kept (w wx : World) (s2 s3 : Value) (xs : List Int) (ts : List ByteArray) (nx : Int) : Prop :=
  ∃ o b1 d1 b2 d2, s2 = .pointer (some ⟨o, 0, none⟩) ∧ s3 = .int .i64 0 ∧ Blk wx o [.slice b1 2 d1, .slice b2 2 d2, .int .i64 nx] 42 ∧ CR wx b1 d1 b2 d2 xs ts ∧ (∀ k, (Value.slice b1 2 d1).ownBlock = some k → w.heap.size ≤ k) ∧ (∀ k, (Value.slice b2 2 d2).ownBlock = some k → w.heap.size ≤ k) ∧ w.heap.size ≤ o ∧ Upd none' w wx
theorem kept_alloc (W w33 w34 : World) (b1 b2 : Option Addr) (d1 d2 : Nat) (xs : List Int) (ts : List ByteArray) (nx : Int) (hC : CR w34 b1 d1 b2 d2 xs ts) (U1 : Upd none' W w33) (U2 : Upd none' w33 w34) (f1 : ∀ k, (Value.slice b1 2 d1).ownBlock = some k → W.heap.size ≤ k) (f2 : ∀ k, (Value.slice b2 2 d2).ownBlock = some k → W.heap.size ≤ k) :
    Kept W (w34.alloc (.cells #[.slice b1 2 d1, .slice b2 2 d2, .int .i64 nx] 42)) (.pointer (some ⟨w34.heap.size, 0, none⟩)) (.int .i64 0) xs ts nx := by
  have hU := U1.trans U2 (fun _ _ f => f)
  exact ⟨w34.heap.size, b1, d1, b2, d2, rfl, rfl, Blk.new w34 _ _, hC.upd ((Upd.refl none' w34).alloc _), f1, f2, hU.size, hU.alloc _⟩
theorem CR.updS {S : Nat → Prop} {w w' : World} {a1 a2 : Option Addr} {c1 c2 : Nat} {xs : List Int} {ts : List ByteArray} (h : CR w a1 c1 a2 c2 xs ts) (u : Upd S w w') (h1 : ∀ k, (Value.slice a1 2 c1).ownBlock = some k → ¬ S k) (h2 : ∀ k, (Value.slice a2 2 c2).ownBlock = some k → ¬ S k) : CR w' a1 c1 a2 c2 xs ts :=
  ⟨h.l1, h.l2, h.r1.upd u (fun k _ hk => h1 k hk), h.r2.upd u (fun k _ hk => h2 k hk)⟩
theorem kept_set (W w33 w34 : World) (o : Nat) (b1 b2 : Option Addr) (d1 d2 : Nat) (x0 x1 x2 : Value) (xs : List Int) (ts : List ByteArray) (nx : Int) (hC : CR w34 b1 d1 b2 d2 xs ts) (U1 : Upd none' W w33) (U2 : Upd none' w33 w34)
    (hz : Blk w34 o [x0, x1, x2] 42) (f1 : ∀ k, (Value.slice b1 2 d1).ownBlock = some k → o < k) (f2 : ∀ k, (Value.slice b2 2 d2).ownBlock = some k → o < k) (ho : W.heap.size ≤ o) :
    ∀ wf, wf = ((w34.setCell ⟨o, 0, none⟩ (.slice b1 2 d1)).setCell ⟨o, 1, none⟩ (.slice b2 2 d2)).setCell ⟨o, 2, none⟩ (.int .i64 nx) → Kept W wf (.pointer (some ⟨o, 0, none⟩)) (.int .i64 0) xs ts nx := by
  rintro wf rfl
  have hu : Upd (fun k => k = o) w34 (((w34.setCell ⟨o, 0, none⟩ (.slice b1 2 d1)).setCell ⟨o, 1, none⟩ (.slice b2 2 d2)).setCell ⟨o, 2, none⟩ (.int .i64 nx)) :=
    (((Upd.refl (fun k => k = o) w34).setCell ⟨o, 0, none⟩ _ (fun _ => rfl)).setCell ⟨o, 1, none⟩ _ (fun _ => rfl)).setCell ⟨o, 2, none⟩ _ (fun _ => rfl)
  have hU := U1.trans U2 (fun _ _ f => f)
  exact ⟨o, b1, d1, b2, d2, rfl, rfl, ((hz.set 0 _).set 1 _).set 2 _, hC.updS hu (fun k hk e => by have := f1 k hk; omega) (fun k hk e => by have := f2 k hk; omega), fun k hk => by have := f1 k hk; omega, fun k hk => by have := f2 k hk; omega, ho, hU.trans hu (fun k h1 h2 => by omega)⟩
/-- What it leaves where nothing is kept. -/
def KeptNo (w wx : World) (s2 s3 : Value) : Prop := ∃ o, s2 = .pointer (some ⟨o, 0, none⟩) ∧ s3 = .int .i64 1200 ∧ w.heap.size ≤ o ∧ Upd none' w wx
theorem kept_no_alloc (W w33 w34 : World) (U1 : Upd none' W w33) (U2 : Upd none' w33 w34) :
    KeptNo W (w34.alloc (.cells #[.slice none 0 0, .slice none 0 0, .int .i64 0] 42)) (.pointer (some ⟨w34.heap.size, 0, none⟩)) (.int .i64 1200) := by
  have hU := U1.trans U2 (fun _ _ f => f)
  exact ⟨w34.heap.size, rfl, rfl, hU.size, hU.alloc _⟩
theorem kept_no_set (W w33 w34 : World) (o : Nat) (U1 : Upd none' W w33) (U2 : Upd none' w33 w34) (ho : W.heap.size ≤ o) :
    ∀ wf, wf = ((w34.setCell ⟨o, 0, none⟩ (.slice none 0 0)).setCell ⟨o, 1, none⟩ (.slice none 0 0)).setCell ⟨o, 2, none⟩ (.int .i64 0) → KeptNo W wf (.pointer (some ⟨o, 0, none⟩)) (.int .i64 1200) := by
  rintro wf rfl
  have hu : Upd (fun k => k = o) w34 (((w34.setCell ⟨o, 0, none⟩ (.slice none 0 0)).setCell ⟨o, 1, none⟩ (.slice none 0 0)).setCell ⟨o, 2, none⟩ (.int .i64 0)) :=
    (((Upd.refl (fun k => k = o) w34).setCell ⟨o, 0, none⟩ _ (fun _ => rfl)).setCell ⟨o, 1, none⟩ _ (fun _ => rfl)).setCell ⟨o, 2, none⟩ _ (fun _ => rfl)
  exact ⟨o, rfl, rfl, ho, (U1.trans U2 (fun _ _ f => f)).trans hu (fun k h1 h2 => by omega)⟩
theorem find_cr (w : World) (a1 a2 : Option Addr) (c1 c2 : Nat) (xs : List Int) (ts : List ByteArray) (nx a : Int) (x : Int) (is : Bool) (h : CR w a1 c1 a2 c2 xs ts) (ha : a < 9223372036854775808) (hf : findV xs ts nx a = (x, is)) :
    Calls Try.prog 22 #[.agg #[.slice a1 2 c1, .slice a2 2 c2, .int .i64 nx], .int .i64 a] w fun e w' => e = .returned (.tuple #[.int .i64 x, .bool is]) ∧ Upd none' w w' := by
  have := line_find w _ _ xs ts nx a h.r1 h.r2 ha
  rw [hf] at this
  exact this
theorem may_cr (w : World) (a1 a2 : Option Addr) (c1 c2 : Nat) (xs : List Int) (ts : List ByteArray) (nx : Int) (b : Bool) (h : CR w a1 c1 a2 c2 xs ts) (hf : mayB xs ts nx = b) :
    Calls Try.prog 25 #[.agg #[.slice a1 2 c1, .slice a2 2 c2, .int .i64 nx]] w fun e w' => e = .returned (.bool b) ∧ Upd none' w w' := by
  have := line_may w _ _ xs ts nx h.r1 h.r2
  rw [hf] at this
  exact this
theorem RS.nil (w : World) : RS w (.slice none 0 0) [] := ⟨by decide, none, 0, rfl, Nat.le_refl _, fun h => absurd rfl h⟩
theorem may_nil (w : World) : Calls Try.prog 25 #[.agg #[.slice none 0 0, .slice none 0 0, .int .i64 0]] w fun e w' => e = .returned (.bool false) ∧ Upd none' w w' :=
  line_may w (.slice none 0 0) (.slice none 0 0) [] [] 0 (RS.nil w) (RS.nil w)
theorem keep_nil (w : World) (a : Int) (s : ByteArray) : Calls Try.prog 20 #[.agg #[.slice none 0 0, .slice none 0 0, .int .i64 0], .int .i64 a, .string s] w fun e w' => e = .returned (.tuple #[.agg #[.slice none 0 0, .slice none 0 0, .int .i64 0], .int .i64 1200]) ∧ Upd none' w w' :=
  keep_no w (.slice none 0 0) (.slice none 0 0) [] [] 0 a s (RS.nil w) (RS.nil w) rfl
theorem text_size (c : UInt8) : (textS c).size = 16 := by simp [textS, textL, ByteArray.size]
end Go.Proofs.Ytdlhhlebbnefkaa
