/- Plain laws: what is kept may be; keeping it anew turns nothing. -/
import Derived.Test.YtdlhhlebbnefkaaLineP
namespace Go.Proofs.Ytdlhhlebbnefkaa
open Go.RowKit
/-- One line of a cache. -/
def L1 (x : Int) (t : ByteArray) : Prop := x = -1 ∧ t = ⟨#[]⟩ ∨ beginsB x = true ∧ t.size = 16
theorem may_elim {xs : List Int} {ts : List ByteArray} {nx : Int} (h : mayB xs ts nx = true) : ∃ x y t u, xs = [x, y] ∧ ts = [t, u] ∧ 0 ≤ nx ∧ nx < 2 ∧ L1 x t ∧ L1 y u ∧ (x = y → x = -1) := by
  obtain ⟨h1, h2, h3, h4, h5, h6⟩ := of_decide_eq_true h
  match xs, ts, h1, h2 with
  | [x, y], [t, u], _, _ =>
    refine ⟨x, y, t, u, rfl, rfl, h3, h4, ?_, ?_, ?_⟩
    · unfold lineOk at h5
      rw [show ([x, y] : List Int).getD 0 0 = x from rfl, show ([t, u] : List ByteArray).getD 0 ⟨#[]⟩ = t from rfl] at h5
      split at h5
      · exact .inl ⟨by assumption, h5⟩
      · exact .inr ⟨h5.1, h5.2.1⟩
    · unfold lineOk at h6
      rw [show ([x, y] : List Int).getD 1 0 = y from rfl, show ([t, u] : List ByteArray).getD 1 ⟨#[]⟩ = u from rfl] at h6
      split at h6
      · exact .inl ⟨by assumption, h6⟩
      · exact .inr ⟨h6.1, h6.2.1⟩
    · intro e
      unfold lineOk at h6
      rw [show ([x, y] : List Int).getD 1 0 = y from rfl] at h6
      split at h6
      · omega
      · have := h6.2.2
        rw [idx2, if_pos e] at this
        exact absurd this (by decide)
theorem may_intro {x y nx : Int} {t u : ByteArray} (h3 : 0 ≤ nx) (h4 : nx < 2) (h5 : L1 x t) (h6 : L1 y u) (h7 : x = y → x = -1) : mayB [x, y] [t, u] nx = true := by
  refine decide_eq_true ⟨rfl, rfl, h3, h4, ?_, ?_⟩
  · unfold lineOk
    rw [show ([x, y] : List Int).getD 0 0 = x from rfl, show ([t, u] : List ByteArray).getD 0 ⟨#[]⟩ = t from rfl]
    split
    · rcases h5 with ⟨_, h⟩ | ⟨h, _⟩
      · exact h
      · exact absurd (by assumption) (begins_ne h).1
    · rcases h5 with ⟨h, _⟩ | ⟨h, h'⟩
      · exact absurd h (by assumption)
      · exact ⟨h, h', by rw [idx2, if_pos rfl]; rfl⟩
  · unfold lineOk
    rw [show ([x, y] : List Int).getD 1 0 = y from rfl, show ([t, u] : List ByteArray).getD 1 ⟨#[]⟩ = u from rfl]
    split
    · rcases h6 with ⟨_, h⟩ | ⟨h, _⟩
      · exact h
      · exact absurd (by assumption) (begins_ne h).1
    · rcases h6 with ⟨h, _⟩ | ⟨h, h'⟩
      · exact absurd h (by assumption)
      · exact ⟨h, h', by rw [idx2, if_neg (fun e => by have := h7 e; omega), if_pos rfl]; rfl⟩
/-- What is kept may be, and keeping it anew turns nothing. -/
theorem keep_law {xs : List Int} {ts : List ByteArray} {nx a : Int} {s : ByteArray} (h : mayB xs ts nx = true) (hb : beginsB a = true) (hs : s.size = 16) :
    mayB (xs.set (keepAt xs nx a) a) (ts.set (keepAt xs nx a) s) (nextOf xs nx a) = true ∧
      (let xs' := xs.set (keepAt xs nx a) a; let ts' := ts.set (keepAt xs nx a) s; let nx' := nextOf xs nx a
       xs'.set (keepAt xs' nx' a) a = xs' ∧ ts'.set (keepAt xs' nx' a) s = ts' ∧ nextOf xs' nx' a = nx') ∧ a ∈ xs.set (keepAt xs nx a) a := by
  obtain ⟨x, y, t, u, rfl, rfl, h3, h4, h5, h6, h7⟩ := may_elim h
  have ha := begins_ne hb
  have hl : L1 a s := .inr ⟨hb, hs⟩
  by_cases hx : x = a
  · subst hx
    obtain ⟨e1, e2, e3⟩ := keep_old0 (y := y) (a := x) (nx := nx) s t u
    rw [e1, e2, e3]
    refine ⟨may_intro h3 h4 hl h6 h7, keep_old0 s s u, by simp⟩
  · by_cases hy : y = a
    · subst hy
      obtain ⟨e1, e2, e3⟩ := keep_old1 (nx := nx) hx s t u
      rw [e1, e2, e3]
      refine ⟨may_intro h3 h4 h5 hl h7, keep_old1 hx s t s, by simp⟩
    · rcases (show nx = 0 ∨ nx = 1 by omega) with rfl | rfl
      · obtain ⟨e1, e2, e3⟩ := keep_new0 hx hy s t u
        rw [e1, e2, e3]
        refine ⟨may_intro (by decide) (by decide) hl h6 (fun e => absurd e.symm hy), keep_old0 s s u, by simp⟩
      · obtain ⟨e1, e2, e3⟩ := keep_new1 hx hy s t u
        rw [e1, e2, e3]
        refine ⟨may_intro (by decide) (by decide) h5 hl (fun e => absurd e hx), keep_old1 hx s t s, by simp⟩
theorem byte_of (z : Int) : ∃ (c : UInt8) (a : Int), (IntKind.u64.wrap z).tmod 256 = (c.toNat : Int) ∧ wrap64 (c.toNat : Int) = (c.toNat : Int) ∧ (c.toNat : Int) % 256 = (c.toNat : Int) ∧ IntKind.i64.wrap ((c.toNat : Int) * 16) = a ∧ beginsB a = true := by
  have hz : 0 ≤ z % 256 ∧ z % 256 < 256 := by omega
  have hc : ((UInt8.ofNat (z % 256).toNat).toNat : Int) = z % 256 := by
    rw [UInt8.toNat_ofNat']
    generalize z % 256 = n at *
    omega
  refine ⟨UInt8.ofNat (z % 256).toNat, (z % 256) * 16, ?_, wrap64_byte _, ?_, ?_, ?_⟩
  · rw [hc]
    have h : IntKind.u64.wrap z = z % 18446744073709551616 := by first | exact IntKind.wrap_u64 z | rfl
    rw [h, Int.tmod_eq_emod_of_nonneg (Int.emod_nonneg _ (by decide))]
    exact Int.emod_emod_of_dvd z (by decide)
  · rw [hc]
    generalize z % 256 = n at *
    omega
  · rw [hc]
    exact IntWalk.i64_in _ (by omega)
  · generalize z % 256 = n at *
    exact decide_eq_true (by omega)
end Go.Proofs.Ytdlhhlebbnefkaa
