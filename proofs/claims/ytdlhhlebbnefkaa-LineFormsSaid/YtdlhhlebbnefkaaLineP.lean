/- The plain laws of a cache of two lines. -/
import Derived.Test.YtdlhhlebbnefkaaLineC
namespace Go.Proofs.Ytdlhhlebbnefkaa
open Go.RowKit
theorem idx2 (x y a : Int) : idx [x, y] a = if x = a then 0 else if y = a then 1 else -1 := by
  unfold idx
  by_cases h : x = a
  · simp [List.findIdx?_cons, h]
  · by_cases h2 : y = a
    · simp [List.findIdx?_cons, h, h2]
    · simp [List.findIdx?_cons, h, h2]
theorem begins_ne {x : Int} (h : beginsB x = true) : x ≠ -1 ∧ 0 ≤ x ∧ x % 16 = 0 ∧ x < 4096 := by
  have := of_decide_eq_true h; omega
theorem may1 {x : Int} {t : ByteArray} (hx : beginsB x = true) (ht : t.size = 16) : mayB [x, -1] [t, ⟨#[]⟩] 1 = true := by
  refine decide_eq_true ⟨rfl, rfl, by decide, by decide, ?_, ?_⟩
  · unfold lineOk
    rw [show ([x, -1] : List Int).getD 0 0 = x from rfl, if_neg (begins_ne hx).1]
    exact ⟨hx, ht, by rw [idx2, if_pos rfl]; rfl⟩
  · unfold lineOk
    rw [show ([x, -1] : List Int).getD 1 0 = -1 from rfl, if_pos rfl]
    rfl
theorem may2 {x y nx : Int} {t u : ByteArray} (hx : beginsB x = true) (hy : beginsB y = true) (hxy : x ≠ y) (ht : t.size = 16) (hu : u.size = 16) (h0 : 0 ≤ nx) (h1 : nx < 2) : mayB [x, y] [t, u] nx = true := by
  refine decide_eq_true ⟨rfl, rfl, h0, h1, ?_, ?_⟩
  · unfold lineOk
    rw [show ([x, y] : List Int).getD 0 0 = x from rfl, if_neg (begins_ne hx).1]
    exact ⟨hx, ht, by rw [idx2, if_pos rfl]; rfl⟩
  · unfold lineOk
    rw [show ([x, y] : List Int).getD 1 0 = y from rfl, if_neg (begins_ne hy).1]
    exact ⟨hy, hu, by rw [idx2, if_neg hxy, if_pos rfl]; rfl⟩
theorem find2 {x y nx a : Int} {t u : ByteArray} (hm : mayB [x, y] [t, u] nx = true) (h0 : 0 ≤ a) :
    findV [x, y] [t, u] nx a = if x = a - a % 16 then (((t.data.toList.getD (a % 16).toNat 0).toNat : Int), true) else if y = a - a % 16 then (((u.data.toList.getD (a % 16).toNat 0).toNat : Int), true) else (0, false) := by
  unfold findV
  rw [if_pos ⟨hm, h0⟩, idx2]
  split
  · rfl
  · split
    · rfl
    · rfl
theorem text_byte (c : UInt8) (j : Nat) (h : j < 16) : (textS c).data.toList.getD j 0 = c + UInt8.ofNat j := by
  simp [textS, textL, List.getD_eq_getElem?_getD, h]
/-- What 'c, e := line.Keep(..)' leaves in c's own block. -/
def KeptIn (w wx : World) (o : Nat) (s3 : Value) (xs : List Int) (ts : List ByteArray) (nx : Int) : Prop :=
  ∃ b1 d1 b2 d2, s3 = .int .i64 0 ∧ Blk wx o [.slice b1 2 d1, .slice b2 2 d2, .int .i64 nx] 42 ∧ CR wx b1 d1 b2 d2 xs ts ∧ Upd (fun k => k = o) w wx
theorem kept_in (W w33 w34 : World) (o : Nat) (b1 b2 : Option Addr) (d1 d2 : Nat) (x0 x1 x2 : Value) (xs : List Int) (ts : List ByteArray) (nx : Int) (hC : CR w34 b1 d1 b2 d2 xs ts) (U1 : Upd none' W w33) (U2 : Upd none' w33 w34)
    (hz : Blk w34 o [x0, x1, x2] 42) (f1 : ∀ k, (Value.slice b1 2 d1).ownBlock = some k → o < k) (f2 : ∀ k, (Value.slice b2 2 d2).ownBlock = some k → o < k) :
    ∀ wf, wf = ((w34.setCell ⟨o, 0, none⟩ (.slice b1 2 d1)).setCell ⟨o, 1, none⟩ (.slice b2 2 d2)).setCell ⟨o, 2, none⟩ (.int .i64 nx) → KeptIn W wf o (.int .i64 0) xs ts nx := by
  rintro wf rfl
  have hu : Upd (fun k => k = o) w34 (((w34.setCell ⟨o, 0, none⟩ (.slice b1 2 d1)).setCell ⟨o, 1, none⟩ (.slice b2 2 d2)).setCell ⟨o, 2, none⟩ (.int .i64 nx)) :=
    (((Upd.refl (fun k => k = o) w34).setCell ⟨o, 0, none⟩ _ (fun _ => rfl)).setCell ⟨o, 1, none⟩ _ (fun _ => rfl)).setCell ⟨o, 2, none⟩ _ (fun _ => rfl)
  have hU := U1.trans U2 (fun _ _ f => f)
  exact ⟨b1, d1, b2, d2, rfl, ((hz.set 0 _).set 1 _).set 2 _, hC.updS hu (fun k hk e => by have := f1 k hk; omega) (fun k hk e => by have := f2 k hk; omega), (hU.mono (fun _ _ f => f.elim)).trans hu (fun _ _ k => k)⟩
theorem keep_cr2 (w : World) (a1 a2 : Option Addr) (c1 c2 : Nat) (xs : List Int) (ts : List ByteArray) (nx a : Int) (s : ByteArray) (XS : List Int) (TS : List ByteArray) (NX : Int) (hE : xs.set (keepAt xs nx a) a = XS ∧ ts.set (keepAt xs nx a) s = TS ∧ nextOf xs nx a = NX)
    (h : CR w a1 c1 a2 c2 xs ts) (hm : mayB xs ts nx = true) (hb : beginsB a = true) (hs : s.size = 16) :
    Calls Try.prog 20 #[.agg #[.slice a1 2 c1, .slice a2 2 c2, .int .i64 nx], .int .i64 a, .string s] w fun e w' =>
      ∃ b1 d1 b2 d2, e = .returned (.tuple #[.agg #[.slice b1 2 d1, .slice b2 2 d2, .int .i64 NX], .int .i64 0]) ∧ CR w' b1 d1 b2 d2 XS TS ∧ (∀ k, (Value.slice b1 2 d1).ownBlock = some k → w.heap.size ≤ k) ∧ (∀ k, (Value.slice b2 2 d2).ownBlock = some k → w.heap.size ≤ k) ∧ Upd none' w w' := by
  obtain ⟨rfl, rfl, rfl⟩ := hE
  exact keep_cr w a1 a2 c1 c2 xs ts nx a s h hm hb hs
theorem keep_first {x : Int} (hx : x ≠ -1) (s t u : ByteArray) : ([-1, -1] : List Int).set (keepAt [-1, -1] 0 x) x = [x, -1] ∧ ([t, u] : List ByteArray).set (keepAt [-1, -1] 0 x) s = [s, u] ∧ nextOf [-1, -1] 0 x = 1 := by
  have : idx [-1, -1] x = -1 := by rw [idx2, if_neg (Ne.symm hx), if_neg (Ne.symm hx)]
  unfold keepAt nextOf
  rw [this]
  exact ⟨rfl, rfl, rfl⟩
theorem keep_new0 {x y a : Int} (h1 : x ≠ a) (h2 : y ≠ a) (s t u : ByteArray) : ([x, y] : List Int).set (keepAt [x, y] 0 a) a = [a, y] ∧ ([t, u] : List ByteArray).set (keepAt [x, y] 0 a) s = [s, u] ∧ nextOf [x, y] 0 a = 1 := by
  have : idx [x, y] a = -1 := by rw [idx2, if_neg h1, if_neg h2]
  unfold keepAt nextOf
  rw [this]
  exact ⟨rfl, rfl, rfl⟩
theorem keep_new1 {x y a : Int} (h1 : x ≠ a) (h2 : y ≠ a) (s t u : ByteArray) : ([x, y] : List Int).set (keepAt [x, y] 1 a) a = [x, a] ∧ ([t, u] : List ByteArray).set (keepAt [x, y] 1 a) s = [t, s] ∧ nextOf [x, y] 1 a = 0 := by
  have : idx [x, y] a = -1 := by rw [idx2, if_neg h1, if_neg h2]
  unfold keepAt nextOf
  rw [this]
  exact ⟨rfl, rfl, rfl⟩
theorem keep_old0 {y a nx : Int} (s t u : ByteArray) : ([a, y] : List Int).set (keepAt [a, y] nx a) a = [a, y] ∧ ([t, u] : List ByteArray).set (keepAt [a, y] nx a) s = [s, u] ∧ nextOf [a, y] nx a = nx := by
  have : idx [a, y] a = 0 := by rw [idx2, if_pos rfl]
  unfold keepAt nextOf
  rw [this]
  exact ⟨rfl, rfl, rfl⟩
theorem keep_old1 {x a nx : Int} (h : x ≠ a) (s t u : ByteArray) : ([x, a] : List Int).set (keepAt [x, a] nx a) a = [x, a] ∧ ([t, u] : List ByteArray).set (keepAt [x, a] nx a) s = [t, s] ∧ nextOf [x, a] nx a = nx := by
  have : idx [x, a] a = 1 := by rw [idx2, if_neg h, if_pos rfl]
  unfold keepAt nextOf
  rw [this]
  exact ⟨rfl, rfl, rfl⟩
end Go.Proofs.Ytdlhhlebbnefkaa
