/- The law Fifos: the ring against the document's queue. -/
import Derived.Test.YtdlhhlebbnefkaaLawA
import Derived.Test.YtdlhhlebbnefkaaRefFifo
import Derived.Deep.DeepCutAuto
namespace Go.Proofs.Ytdlhhlebbnefkaa
open Go.RowKit
theorem RefFifoAt.upd {T : Nat → Prop} {w w' : World} {r : Nat} {S : Nat → Prop} {xs : List Int} (h : RefFifoAt w r S xs) (u : Upd T w w') (hd : ∀ k, S k → ¬ T k) : RefFifoAt w' r S xs := by
  obtain ⟨v, h1, h2, h3, rfl⟩ := h
  exact ⟨v, h1.upd u (hd r (.inl rfl)), h2.upd u (fun k hk => hd k (.inr hk)), h3, rfl⟩
theorem RefFifoAt.lt {w : World} {r : Nat} {S : Nat → Prop} {xs : List Int} (h : RefFifoAt w r S xs) : ∀ k, S k → k < w.heap.size := by
  obtain ⟨v, h1, h2, h3, rfl⟩ := h
  rintro k (rfl | hk)
  · exact h1.lt
  · exact h2.lt k hk
/-- The law's two queues, side by side, in the world W (w: where the law began). -/
def Both (w : World) (b r : Nat) (W : World) (S : Nat → Prop) (xs ys : List Int) : Prop :=
  FifoAt W b xs ∧ RefFifoAt W r S ys ∧ ¬ S b ∧ (∀ k, S k → w.heap.size ≤ k) ∧ w.heap.size ≤ b ∧ Upd none' w W
theorem Both.drew {w : World} {b r : Nat} {W : World} {S : Nat → Prop} {xs ys : List Int} (h : Both w b r W S xs ys) : Both w b r W.drew S xs ys := by
  obtain ⟨h1, h2, h3, h4, h5, h6⟩ := h
  have u : Upd none' W W.drew := (Upd.refl none' W).drew
  exact ⟨h1.upd u (fun f => f), h2.upd u (fun _ _ f => f), h3, h4, h5, h6.drew⟩
theorem Both.fifo {w : World} {b r : Nat} {W W' : World} {S : Nat → Prop} {xs xs' ys : List Int} (h : Both w b r W S xs ys) (u : Upd (fun k => k = b) W W') (f : FifoAt W' b xs') : Both w b r W' S xs' ys := by
  obtain ⟨h1, h2, h3, h4, h5, h6⟩ := h
  exact ⟨f, h2.upd u (fun k hk e => h3 (e ▸ hk)), h3, h4, h5, h6.trans u (fun k hk e => by omega)⟩
theorem Both.ref {w : World} {b r : Nat} {W W' : World} {S S' : Nat → Prop} {xs ys ys' : List Int} (h : Both w b r W S xs ys) (u : Upd S W W') (f : RefFifoAt W' r S' ys') (hS : ∀ k, S' k → S k ∨ W.heap.size ≤ k) : Both w b r W' S' xs ys' := by
  obtain ⟨h1, h2, h3, h4, h5, h6⟩ := h
  refine ⟨h1.upd u h3, f, fun k => ?_, fun k hk => ?_, h5, h6.trans u (fun k hk e => by have := h4 k e; omega)⟩
  · rcases hS b k with k | k
    · exact h3 k
    · have := h1.lt; omega
  · rcases hS k hk with k | k
    · exact h4 _ k
    · have := h6.size; omega
theorem Both.drewN {w : World} {b r : Nat} {W : World} {S : Nat → Prop} {xs ys : List Int} (n : Nat) (h : Both w b r W S xs ys) : Both w b r (W.drewN n) S xs ys := by
  obtain ⟨h1, h2, h3, h4, h5, h6⟩ := h
  have u : Upd none' W (W.drewN n) := (Upd.refl none' W).drewN n
  exact ⟨h1.upd u (fun f => f), h2.upd u (fun _ _ f => f), h3, h4, h5, h6.drewN n⟩
theorem Both.old {w : World} {b r : Nat} {W : World} {S : Nat → Prop} {xs ys : List Int} (h : Both w b r W S xs ys) {p : Addr} (hp : p.block < w.heap.size) : W.cell? p = w.cell? p :=
  h.2.2.2.2.2.cell hp (fun f => f)
theorem both_push (w : World) (b r : Nat) (W : World) (S : Nat → Prop) (xs ys : List Int) (v : Int) (h : Both w b r W S xs ys) (hl : xs.length < 16) :
    Calls Try.prog 15 #[.pointer (some ⟨b, 0, none⟩), .int .i64 v] W fun e w' => e = .returned (.int .i64 0) ∧ Both w b r w' S (xs ++ [v]) ys := by
  refine (fifo_push_ok b v xs W h.1 hl).mono ?_
  rintro e w' ⟨he, hF, hU⟩
  exact ⟨he, h.fifo hU hF⟩
theorem both_push_no (w : World) (b r : Nat) (W : World) (S : Nat → Prop) (xs ys : List Int) (v : Int) (h : Both w b r W S xs ys) (hl : 16 ≤ xs.length) :
    Calls Try.prog 15 #[.pointer (some ⟨b, 0, none⟩), .int .i64 v] W fun e w' => e = .returned (.int .i64 801) ∧ Both w b r w' S xs ys := by
  refine (fifo_push_no b v xs W h.1 hl).mono ?_
  rintro e w' ⟨he, hF, hU⟩
  exact ⟨he, h.fifo hU hF⟩
theorem both_rpush (w : World) (b r : Nat) (W : World) (S : Nat → Prop) (xs ys : List Int) (v : Int) (h : Both w b r W S xs ys) (hl : ys.length < 16) :
    Calls Try.prog 16 #[.pointer (some ⟨r, 0, none⟩), .int .i64 v] W fun e w' => e = .returned (.int .i64 0) ∧ ∃ S', Both w b r w' S' xs (ys ++ [v]) := by
  refine (ref_push_ok r S v ys W h.2.1 hl).mono ?_
  rintro e w' ⟨he, hU, S', hF, hS⟩
  exact ⟨he, S', h.ref hU hF hS⟩
theorem both_rpush_no (w : World) (b r : Nat) (W : World) (S : Nat → Prop) (xs ys : List Int) (v : Int) (h : Both w b r W S xs ys) (hl : 16 ≤ ys.length) :
    Calls Try.prog 16 #[.pointer (some ⟨r, 0, none⟩), .int .i64 v] W fun e w' => e = .returned (.int .i64 801) ∧ W = w' :=
  ref_push_no r S v ys W h.2.1 hl
theorem RefFifoAt.cell {w : World} {r : Nat} {S : Nat → Prop} {xs : List Int} (h : RefFifoAt w r S xs) : ∃ ao cap, w.cell? ⟨r, 0, none⟩ = some (.slice ao xs.length cap) := by
  obtain ⟨v, h1, h2, h3, rfl⟩ := h
  obtain ⟨ao, cap, rfl, _⟩ := h2.form
  have := h1.cell 0
  simp only [List.getElem?_cons_zero, ints, List.length_map] at this
  exact ⟨ao, cap, this⟩
theorem fifo_len_same (b : Nat) (xs : List Int) (w : World) (h : FifoAt w b xs) :
    Calls Try.prog 17 #[.pointer (some ⟨b, 0, none⟩)] w fun e w' => e = .returned (.int .i64 xs.length) ∧ w' = w := by
  obtain ⟨h2, ring, fr, h3, h4, hB, h9⟩ := h
  obtain ⟨h5, h6, h7, h8⟩ := fifo_ring h4 hB
  clear h5 h6 h8 h9 h2 h3 h4 hB
  go_enter Try.func17, Try.ntmps17
  go_wp2
  go_ret
  exact ⟨rfl, rfl⟩
set_option maxRecDepth 100000 in
set_option maxHeartbeats 4000000 in
theorem lawFifos (w : World) (v0 : Value) (xs : List Int) (h0 : IntsR w v0 xs) :
    Calls Try.prog 3 #[v0] w fun e w' => e = .returned (.bool true) ∧ Upd none' w w' := by
  obtain ⟨h1, _, a, cap, rfl, h4, h5⟩ := h0
  go_enter Try.func3, Try.ntmps3
  go_wp2_with fail
  refine (fifo_new_ok w).mono ?_
  rintro e w1 ⟨b, rfl, hb, hF, hU1⟩
  go_wp2_with fail
  have hbs := hF.lt
  have hU2 : Upd none' w (w1.alloc (.cells #[.slice none 0 0] 27)) := hU1.alloc _
  have hF2 := hF.upd ((Upd.refl none' w1).alloc (.cells #[.slice none 0 0] 27)) (fun f => f)
  have hRf : RefFifoAt (w1.alloc (.cells #[.slice none 0 0] 27)) w1.heap.size (fun k => k = w1.heap.size ∨ (Value.slice none 0 0).ownBlock = some k) [] :=
    ⟨_, Blk.new w1 [.slice none 0 0] _, Row.nil _ _, by simp [Value.ownBlock], rfl⟩
  go_loopw [5] (fun iv wr => ∃ (i : Nat) (qs : List Int) (S : Nat → Prop), i ≤ 100 ∧ qs.length ≤ 16 ∧ iv = .int .i64 i ∧ Both w b w1.heap.size wr S qs qs) (fun iv _ => 100 - (intOf iv).toNat)
  case atStart =>
    refine ⟨0, [], _, by omega, by simp, rfl, hF2, hRf, ?_, ?_, hb, hU2⟩
    · rintro (h | h)
      · omega
      · simp [Value.ownBlock] at h
    · rintro k (h | h)
      · have := hU1.size; omega
      · simp [Value.ownBlock] at h
  case round =>
    obtain ⟨i, qs, S, hi, hq, rfl, hB0⟩ := hrel
    clear hF hF2 hRf hU2
    by_cases hlt : i < xs.length ∧ i < 100
    · obtain ⟨hlt1, hlt2⟩ := hlt
      obtain ⟨bb, oo, rfl, hbb, hcc⟩ := h5 (by intro h; simp [h] at hlt1)
      have hcell : wr.cell? ⟨bb, oo + i, none⟩ = some (.int .i64 (xs.getD i 0)) := by
        rw [hB0.2.2.2.2.2.cell (p := ⟨bb, oo + i, none⟩) hbb (fun f => f)]; exact hcc i hlt1
      have HC := Lib.hid (hcc i hlt1)
      clear hcc
      by_cases hodd : (bits BinOp.and IntKind.i64 xs[i] 1 == 1) = true
      · cases qs with
        | nil =>
          go_wp2_with fail
          refine (fifo_pop_no b _ hB0.1).mono ?_
          rintro e w3 ⟨rfl, hF3, hU3⟩
          have hB3 := hB0.fifo hU3 hF3
          go_wp2_with fail
          refine (ref_pop_no _ _ _ hB3.2.1).mono ?_
          rintro e w4 ⟨rfl, rfl⟩
          go_wp2_with (go_at_call 14; refine (num_any _ _).mono ?_; rintro e w' ⟨rfl, rfl⟩)
          obtain ⟨ao, cp, hrc⟩ := hB3.2.1.cell
          have hFd := hB3.drew.1
          go_quiet ((go_at_call 17; exact Calls.quiet_of_same (fifo_len_same b [] _ (FifoAt.upd hB3.1 ((Upd.refl none' _).drewN _) (fun f => f)))))
          go_wp2
          go_roundw
          case rel => exact ⟨i + 1, [], _, by omega, (by first | omega | (simp; done) | (simp; omega)), by go_num, Both.drewN _ hB3⟩
          case measure => simp [intOf]; omega
        | cons q qs =>
          simp only [List.length_cons] at hq
          go_wp2_with fail
          refine (fifo_pop_ok b q qs _ hB0.1).mono ?_
          rintro e w3 ⟨rfl, hF3, hU3⟩
          have hB3 := hB0.fifo hU3 hF3
          go_wp2_with fail
          refine (ref_pop_ok _ _ q qs _ hB3.2.1 (by omega)).mono ?_
          rintro e w4 ⟨rfl, hU4, S4, hF4, hS4⟩
          have hB4 := hB3.ref hU4 hF4 hS4
          go_wp2_with (go_at_call 14; refine (num_any _ _).mono ?_; rintro e w' ⟨rfl, rfl⟩)
          obtain ⟨ao, cp, hrc⟩ := hB4.2.1.cell
          have hFd := hB4.drew.1
          go_quiet ((go_at_call 17; exact Calls.quiet_of_same (fifo_len_same b qs _ (FifoAt.upd hB4.1 ((Upd.refl none' _).drewN _) (fun f => f)))))
          go_wp2
          go_roundw
          case rel => exact ⟨i + 1, qs, _, by omega, (by first | omega | (simp; done) | (simp; omega)), by go_num, Both.drewN _ hB4⟩
          case measure => simp [intOf]; omega
      · have hodd' : (bits BinOp.and IntKind.i64 xs[i] 1 == 1) = false := by simpa using hodd
        clear hodd
        by_cases hroom : qs.length < 16
        · go_upto_region 13 with (fail)
          have hBd := hB0.drew
          go_cut [63] (fun t wx => t = .bool false ∧ ∃ S', Both w b w1.heap.size wx S' (qs ++ [xs[i]]) (qs ++ [xs[i]]))
          case first =>
            go_region_with (first
              | (go_at_call 14; refine (num_any _ _).mono ?_; rintro e w' ⟨rfl, rfl⟩)
              | (go_at_call 15; refine (both_push w b _ _ _ _ _ _ (by assumption) hroom).mono ?_; rintro e w' ⟨rfl, hBa⟩; have hca := (hBa.old (p := ⟨bb, oo + i, none⟩) hbb).trans HC.out)
              | (go_at_call 16; refine (both_rpush w b _ _ _ _ _ _ (by assumption) hroom).mono ?_; rintro e w' ⟨rfl, S', hBb⟩; have hcb := (hBb.old (p := ⟨bb, oo + i, none⟩) hbb).trans HC.out))
            all_goals (go_wp2_with fail; go_meet; exact ⟨rfl, _, by assumption⟩)
          case rest =>
            obtain ⟨rfl, S', hB3⟩ := hcut
            go_wp2_with fail
            obtain ⟨ao, cp, hrc⟩ := hB3.2.1.cell
            have hFd := hB3.drew.1
            go_quiet ((go_at_call 17; exact Calls.quiet_of_same (fifo_len_same b (qs ++ [xs[i]]) _ (FifoAt.upd hB3.1 ((Upd.refl none' _).drewN _) (fun f => f)))))
            go_wp2
            go_roundw
            case rel => exact ⟨i + 1, (qs ++ [xs[i]]), _, by omega, (by first | omega | (simp; done) | (simp; omega)), by go_num, Both.drewN _ hB3⟩
            case measure => simp [intOf]; omega
        · go_upto_region 13 with (fail)
          have hBd := hB0.drew
          go_cut [63] (fun t wx => t = .bool false ∧ Both w b w1.heap.size wx S qs qs)
          case first =>
            go_region_with (first
              | (go_at_call 14; refine (num_any _ _).mono ?_; rintro e w' ⟨rfl, rfl⟩)
              | (go_at_call 15; refine (both_push_no w b _ _ _ _ _ _ (by assumption) (by omega)).mono ?_; rintro e w' ⟨rfl, hBa⟩; have hca := (hBa.old (p := ⟨bb, oo + i, none⟩) hbb).trans HC.out)
              | (go_at_call 16; refine (both_rpush_no w b _ _ _ _ _ _ (by assumption) (by omega)).mono ?_; rintro e w' ⟨rfl, rfl⟩))
            all_goals (go_wp2_with fail; go_meet; exact ⟨rfl, by assumption⟩)
          case rest =>
            obtain ⟨rfl, hB3⟩ := hcut
            go_wp2_with fail
            obtain ⟨ao, cp, hrc⟩ := hB3.2.1.cell
            have hFd := hB3.drew.1
            go_quiet ((go_at_call 17; exact Calls.quiet_of_same (fifo_len_same b qs _ (FifoAt.upd hB3.1 ((Upd.refl none' _).drewN _) (fun f => f)))))
            go_wp2
            go_roundw
            case rel => exact ⟨i + 1, qs, _, by omega, (by first | omega | (simp; done) | (simp; omega)), by go_num, Both.drewN _ hB3⟩
            case measure => simp [intOf]; omega
    · by_cases hlt1 : i < xs.length
      · have hlt2 : ¬ (i : Int) < 100 := by omega
        go_wp2_with fail
        refine (awake8 wr).mono ?_
        rintro e w9 ⟨rfl, hU9⟩
        go_wp2
        go_ret
        exact ⟨rfl, hB0.2.2.2.2.2.trans hU9 (fun _ _ f => f)⟩
      · go_wp2_with fail
        refine (awake8 wr).mono ?_
        rintro e w9 ⟨rfl, hU9⟩
        go_wp2
        go_ret
        exact ⟨rfl, hB0.2.2.2.2.2.trans hU9 (fun _ _ f => f)⟩
end Go.Proofs.Ytdlhhlebbnefkaa
