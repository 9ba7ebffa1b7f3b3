/- slices.Repeat (at one number, twice), line.New. -/
import Derived.Test.YtdlhhlebbnefkaaText
namespace Go.Proofs.Ytdlhhlebbnefkaa
open Go.RowKit
theorem mul64_12 (w : World) :
    Calls Try.prog 45 #[.int .u64 1, .int .u64 2] w fun e w' => e = .returned (.tuple #[.int .u64 0, .int .u64 2]) ∧ w = w' := by
  go_enter Try.func45, Try.ntmps45
  go_wp2
  go_ret2
  exact ⟨rfl, rfl⟩
theorem mul_12 (w : World) :
    Calls Try.prog 43 #[.int .u64 1, .int .u64 2] w fun e w' => e = .returned (.tuple #[.int .u64 0, .int .u64 2]) ∧ w = w' := by
  go_enter Try.func43, Try.ntmps43
  go_wp2_with (go_at_call 45; refine (mul64_12 _).mono ?_; rintro e w' ⟨rfl, rfl⟩)
  go_ret2
  exact ⟨rfl, rfl⟩
theorem set_alloc (w : World) (cs : Array Value) (t : TypeId) (off : Nat) (v : Value) : (w.alloc (.cells cs t)).setCell ⟨w.heap.size, off, none⟩ v = w.alloc (.cells (cs.setIfInBounds off v) t) :=
  World.setCell_alloc_at cs t _ off v rfl
theorem copy_one (u : World) (g off b o dl dc sl sc : Nat) (v y : Value) (hn : Nat.min sl dl = 1) (hs : u.cell? ⟨b, o, none⟩ = some v) (hc : u.cell? ⟨g, off, none⟩ = some y) (hf : u.frozen? ⟨g, off, none⟩ = false) (h1 : v.oneCell' = true) :
    (Builtin.copy_ #[22, 22] 3 #[.slice (some ⟨g, off, none⟩) dl dc, .slice (some ⟨b, o, none⟩) sl sc]).run Try.prog u = .ok (.int .i64 1) (u.setCell ⟨g, off, none⟩ v) := by
  have := run_copy_cells (P := Try.prog) u 22 22 3 3 g off dl dc ⟨b, o, none⟩ sl sc [v] Try.underlying22 (by kernel_rfl) hn.symm
    (fun j x hj => by
      match j, hj with
      | 0, hj => simp at hj; subst hj; simpa [Addr.add] using hs
      | j + 1, hj => simp at hj)
    (fun j hj => by
      obtain rfl : j = 0 := by simpa using hj
      simp [hc])
    (fun j hj => by
      obtain rfl : j = 0 := by simpa using hj
      exact hf) (fun x hx => by simp at hx; subst hx; exact h1)
  rw [this]
  rfl
theorem repeat_walk (w : World) (b : Nat) (cap : Nat) (hb : w.cell? ⟨b, 0, none⟩ = some (.int .i64 (-1))) :
    Calls Try.prog 40 #[.slice (some ⟨b, 0, none⟩) 1 cap, .int .i64 2] w fun e w' =>
      e = .returned (.slice (some ⟨w.heap.size, 0, none⟩) 2 2) ∧ Row w' 3 (.slice (some ⟨w.heap.size, 0, none⟩) 2 2) (ints [-1, -1]) ∧ Upd none' w w' := by
  have hmk : ∀ u : World, _ := make_ints2
  simp only [ints, List.map_cons, List.map_nil] at hmk
  have hbl := World.block_lt_of_cell? w _ hb
  have hB := Blk.new w [.int .i64 0, .int .i64 0] 3
  have hB2 := Blk.new w [.int .i64 (-1), .int .i64 0] 3
  have hcp1 := copy_one (w.alloc (.cells #[.int .i64 0, .int .i64 0] 3)) w.heap.size 0 b 0 2 2 1 cap (.int .i64 (-1)) _ rfl (by rw [World.cell?_alloc_lt _ _ _ hbl]; exact hb) (hB.cell 0) (hB.frozen 0) rfl
  rw [set_alloc] at hcp1
  have hcp2 := copy_one (w.alloc (.cells #[.int .i64 (-1), .int .i64 0] 3)).drew w.heap.size 1 w.heap.size 0 1 1 1 2 (.int .i64 (-1)) _ rfl (hB2.cell 0) (hB2.cell 1) (hB2.frozen 1) rfl
  have hset : (w.alloc (.cells #[.int .i64 (-1), .int .i64 0] 3)).drew.setCell ⟨w.heap.size, 1, none⟩ (.int .i64 (-1)) = (w.alloc (.cells #[.int .i64 (-1), .int .i64 (-1)] 3)).drew := congrArg World.drew (set_alloc w #[.int .i64 (-1), .int .i64 0] 3 1 (.int .i64 (-1)))
  rw [hset] at hcp2
  clear hB hB2 hset
  go_enter Try.func40, Try.ntmps40
  go_wp2_with (go_at_call 43; refine (mul_12 _).mono ?_; rintro e w' ⟨rfl, rfl⟩)
  have hbd : (Try.prog.follows .mixedOrders) = true := by kernel_rfl
  clear hbd
  go_loopw [8] (fun iv wr => (iv = .int .i64 1 ∧ wr = w.alloc (.cells #[.int .i64 (-1), .int .i64 0] 3)) ∨ (iv = .int .i64 2 ∧ wr = (w.alloc (.cells #[.int .i64 (-1), .int .i64 (-1)] 3)).drew)) (fun iv _ => 2 - (intOf iv).toNat)
  case atStart => exact .inl ⟨rfl, rfl⟩
  case round =>
    rcases hrel with ⟨rfl, rfl⟩ | ⟨rfl, rfl⟩
    · go_wp2_with fail
      go_region
      all_goals go_wp2
      all_goals exact ⟨.inr ⟨rfl, trivial⟩, by decide⟩
    · go_wp2
      go_ret
      refine ⟨rfl, ?_, ((Upd.refl none' w).alloc _).drew⟩
      exact ⟨rfl, .inr ⟨w.heap.size, 2, #[.int .i64 (-1), .int .i64 (-1)], rfl, Nat.zero_le _, heap_alloc_new w _, by decide, by unfold maxLen; decide, rfl, rfl⟩⟩
/-- What New gives. -/
def NewPost (w w' : World) (e : Ending) : Prop :=
  ∃ v' u', e = .returned (cacheV v' u' 0) ∧ Row w' 3 v' (ints [-1, -1]) ∧ Row w' 9 u' (strs [⟨#[]⟩, ⟨#[]⟩]) ∧
    (∀ k, v'.ownBlock = some k → w.heap.size ≤ k) ∧ (∀ k, u'.ownBlock = some k → w.heap.size ≤ k ∧ v'.ownBlock ≠ some k) ∧ Upd none' w w'
theorem size_set (w : World) (a : Addr) (v : Value) : (w.setCell a v).heap.size = w.heap.size := by simp [World.setCell]
theorem row_new (W : World) (vs : List Value) (t : TypeId) (n m : Nat) (hm : m = W.heap.size) (hn : vs.length = n) (hl : n ≤ 4096) : Row (W.alloc (.cells vs.toArray t)) t (.slice (some ⟨m, 0, none⟩) n n) vs := by
  subst hn hm
  exact ⟨by simp, .inr ⟨W.heap.size, vs.length, vs.toArray, rfl, Nat.zero_le _, heap_alloc_new W _, Nat.le_refl _, by unfold maxLen; omega, by simp, by simp⟩⟩
theorem new_close (w W : World) (g gt : Nat) (x0 x1 x2 : Value) (hz : Blk W w.heap.size [x0, x1, x2] 42) (hR : Row W 3 (.slice (some ⟨g, 0, none⟩) 2 2) (ints [-1, -1])) (hR' : Row W 9 (.slice (some ⟨gt, 0, none⟩) 2 2) (strs [⟨#[]⟩, ⟨#[]⟩]))
    (hg : w.heap.size < g) (hgt : w.heap.size < gt) (hne : g ≠ gt) (hU : Upd none' w W) :
    ∀ wf, wf = ((W.setCell ⟨w.heap.size, 0, none⟩ (.slice (some ⟨g, 0, none⟩) 2 2)).setCell ⟨w.heap.size, 1, none⟩ (.slice (some ⟨gt, 0, none⟩) 2 2)).setCell ⟨w.heap.size, 2, none⟩ (.int .i64 0) →
      Blk wf w.heap.size [.slice (some ⟨g, 0, none⟩) 2 2, .slice (some ⟨gt, 0, none⟩) 2 2, .int .i64 0] 42 ∧ NewPost w wf (.returned (cacheV (.slice (some ⟨g, 0, none⟩) 2 2) (.slice (some ⟨gt, 0, none⟩) 2 2) 0)) := by
  rintro wf rfl
  have hu : Upd (fun k => k = w.heap.size) W (((W.setCell ⟨w.heap.size, 0, none⟩ (.slice (some ⟨g, 0, none⟩) 2 2)).setCell ⟨w.heap.size, 1, none⟩ (.slice (some ⟨gt, 0, none⟩) 2 2)).setCell ⟨w.heap.size, 2, none⟩ (.int .i64 0)) :=
    (((Upd.refl (fun k => k = w.heap.size) W).setCell ⟨w.heap.size, 0, none⟩ _ (fun _ => rfl)).setCell ⟨w.heap.size, 1, none⟩ _ (fun _ => rfl)).setCell ⟨w.heap.size, 2, none⟩ _ (fun _ => rfl)
  refine ⟨((hz.set 0 _).set 1 _).set 2 _, _, _, rfl, hR.upd hu ?_, hR'.upd hu ?_, ?_, ?_, hU.trans hu (fun k h1 h2 => by omega)⟩
  · intro k hk; simp only [Value.ownBlock, Option.some.injEq] at hk; omega
  · intro k hk; simp only [Value.ownBlock, Option.some.injEq] at hk; omega
  · intro k hk; simp only [Value.ownBlock, Option.some.injEq] at hk; omega
  · intro k hk
    simp only [Value.ownBlock, Option.some.injEq] at hk
    exact ⟨by omega, fun h => by simp only [Value.ownBlock, Option.some.injEq] at h; omega⟩
theorem line_new (w : World) : Calls Try.prog 27 #[] w fun e w' => NewPost w w' e := by
  have hmk : ∀ u : World, _ := make_texts2
  simp only [strs, List.map_cons, List.map_nil] at hmk
  go_enter Try.func27, Try.ntmps27
  go_wp2_with fail
  go_region_with (go_at_call 40; refine (repeat_walk _ _ 1 ?_).mono ?_; (first | exact (Blk.new _ [.int .i64 (-1)] _).cell 0 | go_simp); rintro e w2 ⟨rfl, hR2, hU2⟩; have zz : Hid (Blk w2 w.heap.size [.slice none 0 0, .slice none 0 0, .int .i64 0] 42) := (by first | exact ((Blk.new w [.slice none 0 0, .slice none 0 0, .int .i64 0] 42).alloc _).drew.upd (S := none') hU2 (fun f => f) | exact (((Blk.new w [.slice none 0 0, .slice none 0 0, .int .i64 0] 42).alloc _).alloc _).drew.upd (S := none') hU2 (fun f => f)); have q0 := zz.out.cell 0; have q1 := zz.out.cell 1; have q2 := zz.out.cell 2; have r0 := zz.out.frozen 0; have r1 := zz.out.frozen 1; have r2 := zz.out.frozen 2; have szz := zz.out.lt; simp only [List.getElem?_cons_zero, List.getElem?_cons_succ] at q0 q1 q2)
  all_goals
    have hsz2 := hU2.size
    simp only [heap_drew, World.size_alloc] at hsz2 hR2
    have hl2 := hR2.lt _ rfl
    dsimp only at hl2
  · have hUW : Upd none' w (w2.alloc (.cells #[.string ⟨#[]⟩, .string ⟨#[]⟩] 9)) := ((((Upd.refl none' w).alloc _).alloc _).drew.trans hU2 (fun _ _ f => f)).alloc _
    obtain ⟨wf, hwf⟩ : ∃ wf, wf = (((w2.setCell ⟨w.heap.size, 0, none⟩ (.slice (some ⟨w.heap.size + 1 + 1, 0, none⟩) 2 2)).setCell ⟨w.heap.size, 1, none⟩ (.slice (some ⟨w2.heap.size, 0, none⟩) 2 2)).setCell ⟨w.heap.size, 2, none⟩ (.int .i64 0)).alloc (.cells #[.string ⟨#[]⟩, .string ⟨#[]⟩] 9) := ⟨_, rfl⟩
    rw [← hwf]
    have hc := new_close w (w2.alloc (.cells #[.string ⟨#[]⟩, .string ⟨#[]⟩] 9)) (w.heap.size + 1 + 1) (w2.heap.size) _ _ _ (zz.out.alloc _) (hR2.upd ((Upd.refl none' w2).alloc _) (fun _ _ f => f)) (row_new w2 (strs [⟨#[]⟩, ⟨#[]⟩]) _ 2 _ (by simp) rfl (by decide)) (by omega) (by omega) (by omega) hUW wf (hwf.trans (by simp only [World.setCell_alloc_past, size_set, szz]))
    clear hwf hUW
    obtain ⟨z1, z2⟩ := hc
    have x0 := z1.cell 0
    have x1 := z1.cell 1
    have x2 := z1.cell 2
    simp only [List.getElem?_cons_zero, List.getElem?_cons_succ] at x0 x1 x2
    go_wp2_with fail
    exact bodyPost_ret (v := .agg #[.slice (some ⟨w.heap.size + 1 + 1, 0, none⟩) 2 2, .slice (some ⟨w2.heap.size, 0, none⟩) 2 2, .int .i64 0]) (by simp [results, Try.results27, go_sem, x0, x1, x2]) rfl z2
  · have hUW : Upd none' w (w2) := ((((Upd.refl none' w).alloc _).alloc _).alloc _).drew.trans hU2 (fun _ _ f => f)
    obtain ⟨wf, hwf⟩ : ∃ wf, wf = ((w2.setCell ⟨w.heap.size, 0, none⟩ (.slice (some ⟨w.heap.size + 1 + 1 + 1, 0, none⟩) 2 2)).setCell ⟨w.heap.size, 1, none⟩ (.slice (some ⟨w.heap.size + 1 + 1, 0, none⟩) 2 2)).setCell ⟨w.heap.size, 2, none⟩ (.int .i64 0) := ⟨_, rfl⟩
    rw [← hwf]
    have hc := new_close w (w2) (w.heap.size + 1 + 1 + 1) (w.heap.size + 1 + 1) _ _ _ zz.out hR2 (((row_new ((w.alloc (.cells #[.slice none 0 0, .slice none 0 0, .int .i64 0] 42)).alloc (.cells #[.int .i64 (-1)] 3)) (strs [⟨#[]⟩, ⟨#[]⟩]) _ 2 _ (by simp) rfl (by decide)).upd (S := none') (Upd.refl none' _).drew (fun _ _ f => f)).upd hU2 (fun _ _ f => f)) (by omega) (by omega) (by omega) hUW wf (hwf.trans rfl)
    clear hwf hUW
    obtain ⟨z1, z2⟩ := hc
    have x0 := z1.cell 0
    have x1 := z1.cell 1
    have x2 := z1.cell 2
    simp only [List.getElem?_cons_zero, List.getElem?_cons_succ] at x0 x1 x2
    go_wp2_with fail
    exact bodyPost_ret (v := .agg #[.slice (some ⟨w.heap.size + 1 + 1 + 1, 0, none⟩) 2 2, .slice (some ⟨w.heap.size + 1 + 1, 0, none⟩) 2 2, .int .i64 0]) (by simp [results, Try.results27, go_sem, x0, x1, x2]) rfl z2
  · have hUW : Upd none' w (w2) := ((((Upd.refl none' w).alloc _).alloc _).alloc _).drew.trans hU2 (fun _ _ f => f)
    obtain ⟨wf, hwf⟩ : ∃ wf, wf = ((w2.setCell ⟨w.heap.size, 0, none⟩ (.slice (some ⟨w.heap.size + 1 + 1 + 1, 0, none⟩) 2 2)).setCell ⟨w.heap.size, 1, none⟩ (.slice (some ⟨w.heap.size + 1, 0, none⟩) 2 2)).setCell ⟨w.heap.size, 2, none⟩ (.int .i64 0) := ⟨_, rfl⟩
    rw [← hwf]
    have hc := new_close w (w2) (w.heap.size + 1 + 1 + 1) (w.heap.size + 1) _ _ _ zz.out hR2 (((row_new _ (strs [⟨#[]⟩, ⟨#[]⟩]) _ 2 _ (by simp) rfl (by decide)).upd ((Upd.refl none' _).alloc _).drew (fun _ _ f => f)).upd hU2 (fun _ _ f => f)) (by omega) (by omega) (by omega) hUW wf (hwf.trans rfl)
    clear hwf hUW
    obtain ⟨z1, z2⟩ := hc
    have x0 := z1.cell 0
    have x1 := z1.cell 1
    have x2 := z1.cell 2
    simp only [List.getElem?_cons_zero, List.getElem?_cons_succ] at x0 x1 x2
    go_wp2_with fail
    exact bodyPost_ret (v := .agg #[.slice (some ⟨w.heap.size + 1 + 1 + 1, 0, none⟩) 2 2, .slice (some ⟨w.heap.size + 1, 0, none⟩) 2 2, .int .i64 0]) (by simp [results, Try.results27, go_sem, x0, x1, x2]) rfl z2
end Go.Proofs.Ytdlhhlebbnefkaa
