/- The walk over lichenlaw16.twins. -/
import Derived.Test.YtepnljeojlbliaaGreatRefNew
import Derived.Test.YtepnljeojlbliaaGreatCtxW
namespace Go.Proofs.YtepnljeojlbliaaGreat
open Go.RowKit
set_option maxRecDepth 100000 in
set_option maxHeartbeats 2000000 in
theorem twins16 (s : ByteArray) (w : World) (hs : s.size ≤ 9223372036854775807) :
    Calls Tryz.prog 48 #[.string s] w fun e w' => ∃ b S r v, e = .returned (.tuple #[.pointer (some ⟨b, 0, none⟩), .pointer (some ⟨r, 0, none⟩)]) ∧ ChipAt w' b (St.new ⟨(freshL s).toArray⟩) S ∧ (∀ k, S k → w.heap.size ≤ k) ∧ RefNew w' r ⟨(freshL s).toArray⟩ v ∧ (w.heap.size ≤ r ∧ ¬ S r) ∧ (∀ k, v.ownBlock = some k → w.heap.size ≤ k ∧ ¬ S k) ∧ Upd none' w w' := by
  have hbk := ref_blank w
  obtain ⟨bl, hbl⟩ : ∃ bl : ByteArray, bl = ⟨blankL.toArray⟩ := ⟨_, rfl⟩
  have hsz : bl.size = 4096 := by rw [hbl]; exact List.length_replicate
  have hdl : bl.data.toList = blankL := by rw [hbl]
  rw [← hbl] at hbk
  have HDL := Lib.hid hdl
  clear hbl hdl
  go_enter Tryz.func48, Tryz.ntmps48
  go_wp2_with (go_at_call 13; refine hbk.mono ?_; rintro e w1 ⟨rfl, hU1⟩; have kc := Lib.run_convert_string_bytes (P := Tryz.prog) w1 9 23 5 bl Tryz.underlying9 Tryz.underlying23 Tryz.underlying5)
  have hBz := Buf.of_bytes w1 5 bl
  have hUz := hU1.trans (upd_bytes w1 5 bl) (fun _ _ f => f)
  have hs1 := hU1.size
  clear kc hbk hU1
  go_loopw [5] (fun iv wr => ∃ (i : Nat) (l : List UInt8), i ≤ 4096 ∧ iv = .int .i64 i ∧ Upd none' w wr ∧ Buf wr w1.heap.size l 5 ∧ (s.size = 0 → i = 0) ∧ Hid (l = ((List.range 4096).map (freshAt s)).take i ++ blankL.drop i)) (fun iv _ => 4096 - (intOf iv).toNat)
  case atStart => exact ⟨0, _, by omega, rfl, hUz, hBz, fun _ => rfl, Lib.hid (by rw [HDL.out, List.take_zero, List.drop_zero, List.nil_append])⟩
  case round =>
    clear hBz hUz
    obtain ⟨i, l, hi, rfl, hU, hB, hs0, hl⟩ := hrel
    have hll : l.length = 4096 := by
      rw [hl.out, List.length_append, List.length_take, List.length_drop, List.length_map, List.length_range, show blankL.length = 4096 from List.length_replicate]
      omega
    by_cases hz : s.size = 0
    · have hi0 := hs0 hz
      subst hi0
      have hse : s = ⟨#[]⟩ := by
        obtain ⟨d⟩ := s
        simp only [ByteArray.size] at hz
        rw [Array.eq_empty_of_size_eq_zero hz]
      have hfin : l = freshL s := by
        rw [hl.out, List.take_zero, List.drop_zero, List.nil_append]
        unfold freshL
        rw [if_pos hz]
      · clear hs0
        subst hse
        have hst := fun cap => run_string_buf hB 23 5 9 Tryz.underlying23 Tryz.underlying5 Tryz.underlying9 4096 cap hll
        have HN := Lib.hid (chip_new ⟨l.toArray⟩ wr (by simpa [ByteArray.size] using hll))
        have HRF := Lib.hid (fun w => ref_new ⟨l.toArray⟩ w (by simpa [ByteArray.size] using hll))
        have hB2 := fun w2 (u : Upd none' wr w2) cap => run_string_buf (hB.upd u (fun f => f)) 23 5 9 Tryz.underlying23 Tryz.underlying5 Tryz.underlying9 4096 cap hll
        have HB2 := Lib.hid hB2
        clear hB2
        have HU := Lib.hid hU
        have HL := Lib.hid hfin
        clear hB hU hfin hl
        go_wp2_with (first | (go_at_call 15; refine (HRF.out _).mono ?_; rintro e w3 ⟨r, v, rfl, hr, hBr, hRv, hv, hU3⟩) | (go_at_call 14; refine HN.out.mono ?_; rintro e w2 ⟨b, S, rfl, hA, hS, hU2⟩; have hst2 := HB2.out _ hU2))
        go_ret2
        have hlt := hA.lt
        have hsz := HU.out.size
        have hsz2 := hU2.size
        refine ⟨b, S, r, v, rfl, by rw [← HL.out]; exact hA.upd hU3 (fun _ _ f => f), fun k hk => ?_, by rw [← HL.out]; exact ⟨hBr, hRv, fun k hk => (hv k hk).2⟩, ⟨by omega, fun hs => ?_⟩, fun k hk => ⟨?_, fun hs => ?_⟩, (HU.out.trans hU2 (fun _ _ f => f)).trans hU3 (fun _ _ f => f)⟩
        · have := hS k hk; omega
        · have := hlt r hs; omega
        · have := (hv k hk).1; omega
        · have := hlt k hs; have := (hv k hk).1; omega
    · have hpos : 0 < s.size := by omega
      have hne := str_nonempty s hpos
      by_cases hlt : i < 4096
      · have hq : i % s.size < s.size := Nat.mod_lt _ hpos
        have hfa : freshAt s i = s[i % s.size] := by unfold freshAt; rw [str_at s _ hq]
        have hc := hB.cell (j := i) (by omega)
        have hf := hB.frozen (j := i) (by omega)
        have HB := Lib.hid (hB.set (j := i) (by omega) (freshAt s i))
        have HU := Lib.hid (hU.setCell ⟨w1.heap.size, i, none⟩ (.int .u8 (freshAt s i).toNat) (fun h => absurd h (by dsimp only; omega)))
        have HFA := Lib.hid hfa
        clear hB hU hfa hs0
        go_wp2
        refine ⟨⟨i + 1, _, by omega, by go_num, ?_, ?_, fun h => absurd h hz, Lib.hid (fresh_step s l i hlt hl.out)⟩, by simp [intOf]; omega⟩
        · have := HU.out
          rw [HFA.out] at this
          exact this
        · have := HB.out
          rw [HFA.out] at this ⊢
          exact this
      · have hieq : i = 4096 := by omega
        subst hieq
        have hfin : l = freshL s := by
          rw [hl.out]
          unfold freshL
          rw [if_neg hz, List.take_of_length_le (by rw [List.length_map, List.length_range]; exact Nat.le_refl _), List.drop_of_length_le (by rw [show blankL.length = 4096 from List.length_replicate]; exact Nat.le_refl _), List.append_nil]
        clear hs0
        have hst := fun cap => run_string_buf hB 23 5 9 Tryz.underlying23 Tryz.underlying5 Tryz.underlying9 4096 cap hll
        have HN := Lib.hid (chip_new ⟨l.toArray⟩ wr (by simpa [ByteArray.size] using hll))
        have HRF := Lib.hid (fun w => ref_new ⟨l.toArray⟩ w (by simpa [ByteArray.size] using hll))
        have hB2 := fun w2 (u : Upd none' wr w2) cap => run_string_buf (hB.upd u (fun f => f)) 23 5 9 Tryz.underlying23 Tryz.underlying5 Tryz.underlying9 4096 cap hll
        have HB2 := Lib.hid hB2
        clear hB2
        have HU := Lib.hid hU
        have HL := Lib.hid hfin
        clear hB hU hfin hl
        go_wp2_with (first | (go_at_call 15; refine (HRF.out _).mono ?_; rintro e w3 ⟨r, v, rfl, hr, hBr, hRv, hv, hU3⟩) | (go_at_call 14; refine HN.out.mono ?_; rintro e w2 ⟨b, S, rfl, hA, hS, hU2⟩; have hst2 := HB2.out _ hU2))
        go_ret2
        have hlt := hA.lt
        have hsz := HU.out.size
        have hsz2 := hU2.size
        refine ⟨b, S, r, v, rfl, by rw [← HL.out]; exact hA.upd hU3 (fun _ _ f => f), fun k hk => ?_, by rw [← HL.out]; exact ⟨hBr, hRv, fun k hk => (hv k hk).2⟩, ⟨by omega, fun hs => ?_⟩, fun k hk => ⟨?_, fun hs => ?_⟩, (HU.out.trans hU2 (fun _ _ f => f)).trans hU3 (fun _ _ f => f)⟩
        · have := hS k hk; omega
        · have := hlt r hs; omega
        · have := (hv k hk).1; omega
        · have := hlt k hs; have := (hv k hk).1; omega
theorem c_twins16 {w0 w : World} (h : Upd none' w0 w) (s : ByteArray) (hs : s.size ≤ 9223372036854775807) (fa : ByteArray) (hfa : (⟨(freshL s).toArray⟩ : ByteArray) = fa) :
    Calls Tryz.prog 48 #[.string s] w fun e w' => ∃ b r, e = .returned (.tuple #[.pointer (some ⟨b, 0, none⟩), .pointer (some ⟨r, 0, none⟩)]) ∧ Ctx (ChipP b (St.new fa) 0) .emp w0 w' [] := by
  refine (twins16 s w hs).mono ?_
  rintro e w' ⟨b, S, r, v, rfl, hA, hS, -, -, -, hU⟩
  rw [hfa] at hA
  have hsz : fa.size = 4096 := by rw [← hfa]; simpa [ByteArray.size] using freshL_len s
  exact ⟨b, r, rfl, chipP_ok _ _ _, Own.emp_ok, h.trans hU (fun _ _ f => f), S, ⟨S, none', ⟨hA, new_inv fa hsz⟩, fun _ f => f, fun _ _ f => f, fun k => ⟨.inl, fun h => h.elim (fun x => x) (fun f => f.elim)⟩⟩, fun k hk => Nat.le_trans h.size (hS k hk), fun r hr => by simp at hr⟩
end Go.Proofs.YtepnljeojlbliaaGreat
