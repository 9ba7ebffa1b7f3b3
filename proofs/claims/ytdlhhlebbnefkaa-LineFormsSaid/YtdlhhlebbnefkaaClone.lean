/- slices.Clone of numbers and of texts. -/
import Derived.Test.YtdlhhlebbnefkaaSl
import Derived.Test.YtdlhhlebbnefkaaBuf
import Derived.Laws.CopyOwn
import Derived.Lib.SliceRun
namespace Go.Proofs.Ytdlhhlebbnefkaa
open Go.RowKit
def strs (xs : List ByteArray) : List Value := xs.map Value.string
theorem strs_one (xs : List ByteArray) : ∀ u ∈ strs xs, u.oneCell' = true := by
  intro u hu; simp [strs] at hu; obtain ⟨s, _, rfl⟩ := hu; rfl
theorem info_str : (Try.prog.info? 9).map (fun i => (i.zero, i.size, i.bytes)) = some (some (.string ⟨#[]⟩), 1, 16) := by kernel_rfl
theorem cells_add {w : World} {b o n : Nat} {vs : List Value} (hb : b < w.heap.size) (ob : Obj) (hn : vs.length = n) (hc : ∀ j, j < n → w.cell? ⟨b, o + j, none⟩ = vs[j]?) : ∀ j u, vs[j]? = some u → (w.alloc ob).cell? ((⟨b, o, none⟩ : Addr).add j) = some u := by
  intro j u hu
  have hj : j < n := by rw [← hn]; exact (List.getElem?_eq_some_iff.1 hu).1
  have ea : (⟨b, o, none⟩ : Addr).add j = ⟨b, o + j, none⟩ := by unfold Addr.add; split <;> simp_all
  rw [ea, World.cell?_alloc_lt _ _ _ hb, hc j hj]
  exact hu
theorem clone_ints (w : World) (v : Value) (xs : List Int) (h : RS w v (ints xs)) (hn : xs ≠ []) (hl : xs.length ≤ 4096) :
    Calls Try.prog 33 #[v] w fun e w' => ∃ v', e = .returned v' ∧ Row w' 3 v' (ints xs) ∧ (∀ k, v'.ownBlock = some k → w.heap.size ≤ k) ∧ Upd none' w w' := by
  obtain ⟨h1, a, cap, rfl, h4, h5⟩ := h
  have hlen : (ints xs).length = xs.length := by simp [ints]
  obtain ⟨b, o, rfl, hb, hc⟩ := h5 (by simpa [ints] using hn)
  rw [hlen] at h1 h4 hc ⊢
  have HC := Lib.hid (cells_add hb (.cells #[] 3) hlen hc)
  clear h5 hc
  have hnil : ∀ W, (binOp .eql 22 (.slice (some ⟨b, o, none⟩) xs.length cap) (.slice none 0 0)).run Try.prog W = .ok (.bool false) W := fun W => Lib.run_eql_slice_nil W _ _ _ _ _ _ _ Try.underlying22
  go_enter Try.func33, Try.ntmps33
  go_wp2_with (at_builtin; go_must (refine wpList_appS rfl _ _ 22 rfl 3 (.int .i64 0) 8 Try.underlying22 info_int rfl w.heap.size (.slice (some ⟨w.heap.size, 0, none⟩) 0 0) 0 [] rfl (own_empty w 3) _ ⟨b, o, none⟩ xs.length _ (ints xs) rfl rfl (by simp [ints]) HC.out (ints_one xs) (by omega) (by omega) (by simp) ?_); intro v' w1 hO1 hU1)
  have hU1' : Upd none' w w1 := ((Upd.refl none' w).alloc _).trans hU1 (fun k h1 h2 => by simp [Value.ownBlock] at h2; omega)
  obtain ⟨hR1, hbase⟩ := Row.of_own hO1
  go_ret
  exact ⟨_, rfl, hR1, hbase, hU1'⟩
theorem clone_strs (w : World) (v : Value) (xs : List ByteArray) (h : RS w v (strs xs)) (hn : xs ≠ []) (hl : xs.length ≤ 4096) :
    Calls Try.prog 34 #[v] w fun e w' => ∃ v', e = .returned v' ∧ Row w' 9 v' (strs xs) ∧ (∀ k, v'.ownBlock = some k → w.heap.size ≤ k) ∧ Upd none' w w' := by
  obtain ⟨h1, a, cap, rfl, h4, h5⟩ := h
  have hlen : (strs xs).length = xs.length := by simp [strs]
  obtain ⟨b, o, rfl, hb, hc⟩ := h5 (by simpa [strs] using hn)
  rw [hlen] at h1 h4 hc ⊢
  have HC := Lib.hid (cells_add hb (.cells #[] 9) hlen hc)
  clear h5 hc
  have hnil : ∀ W, (binOp .eql 40 (.slice (some ⟨b, o, none⟩) xs.length cap) (.slice none 0 0)).run Try.prog W = .ok (.bool false) W := fun W => Lib.run_eql_slice_nil W _ _ _ _ _ _ _ Try.underlying40
  go_enter Try.func34, Try.ntmps34
  go_wp2_with (at_builtin; go_must (refine wpList_appS rfl _ _ 40 rfl 9 (.string ⟨#[]⟩) 16 Try.underlying40 info_str rfl w.heap.size (.slice (some ⟨w.heap.size, 0, none⟩) 0 0) 0 [] rfl (own_empty w 9) _ ⟨b, o, none⟩ xs.length _ (strs xs) rfl rfl (by simp [strs]) HC.out (strs_one xs) (by omega) (by omega) (by simp) ?_); intro v' w1 hO1 hU1)
  have hU1' : Upd none' w w1 := ((Upd.refl none' w).alloc _).trans hU1 (fun k h1 h2 => by simp [Value.ownBlock] at h2; omega)
  obtain ⟨hR1, hbase⟩ := Row.of_own hO1
  go_ret
  exact ⟨_, rfl, hR1, hbase, hU1'⟩
end Go.Proofs.Ytdlhhlebbnefkaa
