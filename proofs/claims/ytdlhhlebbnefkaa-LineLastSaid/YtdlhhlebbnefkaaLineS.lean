/- What a cache holds beside what was wanted of each line: the plain law of LineLast. -/
import Derived.Test.YtdlhhlebbnefkaaLineR
namespace Go.Proofs.Ytdlhhlebbnefkaa
open Go.RowKit
def want0 : List Int := List.replicate 256 0
/-- A line of the cache is none, or the text of the number that is wanted there. -/
def Lk (wl : List Int) (x : Int) (t : ByteArray) : Prop := x = -1 ∨ ∃ (k : Nat) (b : UInt8), k < 256 ∧ x = (k : Int) * 16 ∧ t = textS b ∧ wl.getD k 0 = (b.toNat : Int) ∧ b.toNat < 40
def LK (wl xs : List Int) (ts : List ByteArray) : Prop := ∃ x y t u, xs = [x, y] ∧ ts = [t, u] ∧ Lk wl x t ∧ Lk wl y u
theorem lk_new {wl : List Int} {c : Nat} {b : UInt8} (hw : wl.length = 256) (hc : c < 256) (hb : b.toNat < 40) : Lk (wl.set c (b.toNat : Int)) ((c : Int) * 16) (textS b) :=
  .inr ⟨c, b, hc, rfl, rfl, by simp [List.getD_eq_getElem?_getD, hw, hc], hb⟩
theorem lk_old {wl : List Int} {c : Nat} {v x : Int} {t : ByteArray} (h : Lk wl x t) (hx : x ≠ (c : Int) * 16) : Lk (wl.set c v) x t := by
  rcases h with h | ⟨k, b, h1, h2, h3, h4, h5⟩
  · exact .inl h
  · refine .inr ⟨k, b, h1, h2, h3, ?_, h5⟩
    have : c ≠ k := fun e => hx (by rw [h2, e])
    rw [← h4]
    simp [List.getD_eq_getElem?_getD, this]
theorem last_step {wl xs : List Int} {ts : List ByteArray} {nx : Int} {c : Nat} {b : UInt8} (hm : mayB xs ts nx = true) (h : LK wl xs ts) (hw : wl.length = 256) (hc : c < 256) (hb : b.toNat < 40) :
    LK (wl.set c (b.toNat : Int)) (xs.set (keepAt xs nx ((c : Int) * 16)) ((c : Int) * 16)) (ts.set (keepAt xs nx ((c : Int) * 16)) (textS b)) := by
  obtain ⟨x, y, t, u, rfl, rfl, hx, hy⟩ := h
  obtain ⟨_, _, _, _, e1, e2, h3, h4, _, _, h7⟩ := may_elim hm
  simp only [List.cons.injEq, and_true] at e1 e2
  obtain ⟨rfl, rfl⟩ := e1
  obtain ⟨rfl, rfl⟩ := e2
  generalize ha : (c : Int) * 16 = a at *
  have hn : Lk (wl.set c (b.toNat : Int)) a (textS b) := ha ▸ lk_new hw hc hb
  have hne : a ≠ -1 := by omega
  by_cases h1 : x = a
  · subst h1
    obtain ⟨e1, e2, _⟩ := keep_old0 (y := y) (a := x) (nx := nx) (textS b) t u
    rw [e1, e2]
    exact ⟨_, _, _, _, rfl, rfl, hn, lk_old hy (fun e => hne (h7 (by rw [e, ha])))⟩
  · by_cases h2 : y = a
    · subst h2
      obtain ⟨e1, e2, _⟩ := keep_old1 (nx := nx) h1 (textS b) t u
      rw [e1, e2]
      exact ⟨_, _, _, _, rfl, rfl, lk_old hx (fun e => h1 (by rw [e, ha])), hn⟩
    · rcases (show nx = 0 ∨ nx = 1 by omega) with rfl | rfl
      · obtain ⟨e1, e2, _⟩ := keep_new0 h1 h2 (textS b) t u
        rw [e1, e2]
        exact ⟨_, _, _, _, rfl, rfl, hn, lk_old hy (fun e => h2 (by rw [e, ha]))⟩
      · obtain ⟨e1, e2, _⟩ := keep_new1 h1 h2 (textS b) t u
        rw [e1, e2]
        exact ⟨_, _, _, _, rfl, rfl, lk_old hx (fun e => h1 (by rw [e, ha])), hn⟩
theorem text_val {b : UInt8} {lo : Nat} (hb : b.toNat < 40) (hl : lo < 16) : (((textS b).data.toList.getD lo 0).toNat : Int) = (b.toNat : Int) + lo := by
  rw [text_byte b lo hl, UInt8.toNat_add, UInt8.toNat_ofNat']
  omega
theorem last_find {wl xs : List Int} {ts : List ByteArray} {nx : Int} {c j lo : Nat} (hm : mayB xs ts nx = true) (h : LK wl xs ts) (hc : (c : Int) * 16 ∈ xs) (_ : j < 256) (hl : lo < 16) :
    (findV xs ts nx ((j : Int) * 16 + lo) = (wl.getD j 0 + lo, true) ∧ 0 ≤ wl.getD j 0 ∧ wl.getD j 0 < 40) ∨ (findV xs ts nx ((j : Int) * 16 + lo) = (0, false) ∧ j ≠ c) := by
  obtain ⟨x, y, t, u, rfl, rfl, hx, hy⟩ := h
  rw [find2 hm (by omega), show (j : Int) * 16 + lo - ((j : Int) * 16 + lo) % 16 = (j : Int) * 16 by omega, show (((j : Int) * 16 + lo) % 16).toNat = lo by omega]
  by_cases h1 : x = (j : Int) * 16
  · left
    rw [if_pos h1]
    rcases hx with h | ⟨k, b, hk, e1, e2, e3, e4⟩
    · omega
    · have : k = j := by omega
      subst this
      rw [e2, text_val e4 hl, e3]
      exact ⟨rfl, by omega, by omega⟩
  · rw [if_neg h1]
    by_cases h2 : y = (j : Int) * 16
    · left
      rw [if_pos h2]
      rcases hy with h | ⟨k, b, hk, e1, e2, e3, e4⟩
      · omega
      · have : k = j := by omega
        subst this
        rw [e2, text_val e4 hl, e3]
        exact ⟨rfl, by omega, by omega⟩
    · right
      rw [if_neg h2]
      refine ⟨rfl, fun e => ?_⟩
      subst e
      simp only [List.mem_cons, List.not_mem_nil, or_false] at hc
      rcases hc with h | h
      · exact h1 h.symm
      · exact h2 h.symm
theorem lk_new0 : LK want0 [-1, -1] [⟨#[]⟩, ⟨#[]⟩] := ⟨_, _, _, _, rfl, rfl, .inl rfl, .inl rfl⟩
theorem ints_set (l : List Int) (i : Nat) (x : Int) : (ints l).set i (.int .i64 x) = ints (l.set i x) := by simp [ints, List.map_set]
theorem ints_at (l : List Int) (i : Nat) (h : i < l.length) : (ints l)[i]? = some (.int .i64 (l.getD i 0)) := by simp [ints, List.getD_eq_getElem?_getD, List.getElem?_eq_getElem h]
theorem byte_small (i : Nat) (h : i < 40) : ∃ b : UInt8, IntKind.u8.wrap (i : Int) = (b.toNat : Int) ∧ (b.toNat : Int) = (i : Int) ∧ b.toNat < 40 := by
  have e : (UInt8.ofNat i).toNat = i := by rw [UInt8.toNat_ofNat']; omega
  refine ⟨UInt8.ofNat i, ?_, by rw [e], by omega⟩
  rw [show ((i : Nat) : Int) = ((UInt8.ofNat i).toNat : Int) by rw [e]]
  exact u8_wrap_byte _
theorem wrap_small {z : Int} (h0 : 0 ≤ z) (h1 : z < 256) : IntKind.u8.wrap z = z := by
  have h : IntKind.u8.wrap z = z % 256 := by first | exact IntKind.wrap_u8 _ | rfl
  rw [h]; omega
theorem low_byte {c : UInt8} {a : Int} (h : IntKind.i64.wrap ((c.toNat : Int) * 16) = a) : a = (c.toNat : Int) * 16 := by
  rw [← h]; exact IntWalk.i64_in _ (by have := c.toNat_lt; omega)
end Go.Proofs.Ytdlhhlebbnefkaa
