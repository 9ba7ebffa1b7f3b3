/- lichenlaw15.ProbeTells. -/
import Derived.Test.YtkjdhkpkcepilaaGreatAwake15
namespace Go.Proofs.YtkjdhkpkcepilaaGreat
open Go.RowKit
/-- A read on one lane. -/
theorem rdy_read3 {Q : Own} {c : Cor} {b k fo fi : Nat} {n q : Int} {w0 w : World} {rows : List (Value × List Value)} (h : Rdy Q c b k fo fi n q w0 w rows) (hg : c.goes = false) (hj : c.job = none) (at_ : Int) (hk : 0 ≤ at_ ∧ at_ < 4096) (m : Nat) (hm : m ≤ 512) (hn : n + (33 + 8 * (m : Int)) ≤ 1048575) :
    Calls Tryz.prog 36 #[.pointer (some ⟨k, 0, none⟩), .int .i64 3, .int .i64 at_, .slice none 0 0, .int .i64 (m : Int)] w fun e w' => ∃ oa oc, e = .returned (.tuple #[.slice oa m oc, .int .i64 0]) ∧ Rdy Q c b k fo fi (n + (33 + 8 * (m : Int))) (q + (32 + 8 * (m : Int))) w0 w' ((.slice oa m oc, ints (intsOf (fetched c.a at_ m))) :: rows) := by
  have e1 : opOf 3 = ⟨3, 1, false, 0, 1, false⟩ := by kernel_rfl
  have hmany : phsMany (cmdPhs (opOf 3) at_ [] (m : Int)) = 32 + 8 * (m : Int) := by
    have e : cmdPhs (opOf 3) at_ [] m = [⟨1, [3], 0, 0⟩, ⟨1, [at_ / 65536, at_ / 256 % 256, at_ % 256], 0, 0⟩] ++ if 0 < (m : Int) then [⟨1, [], 0, (m : Int)⟩] else [] := by
      rw [e1]
      unfold cmdPhs
      dsimp only
      rw [if_pos (by decide), if_neg (by decide), if_neg (by decide), if_neg (by simp)]
      rfl
    rw [e]
    by_cases h0 : 0 < (m : Int)
    · rw [if_pos h0]
      show 0 + ((0 : Int) + ((1 : Int) + 0) * 8) + ((0 : Int) + ((3 : Int) + 0) * 8) + ((0 : Int) + ((0 : Int) + m) * 8) = _
      omega
    · rw [if_neg h0, show m = 0 by omega]
      rfl
  have hmay : cmdMay (opOf 3) at_ [] (m : Int) = true := by
    rw [e1]
    unfold cmdMay fitsB
    simp
    omega
  have hr := rdy_run h.nil 3 (by decide) (by decide) at_ none 0 [] List.mem_cons_self (m : Int) hmay c (intsOf (fetched c.a at_ m)) (32 + 8 * (m : Int)) hmany (by omega) (fun t ht => by
    obtain ⟨d, h1, h2, h3, h4⟩ := rd3_all ht hg hj at_ hk m
    refine ⟨d, h1, h2, ?_, h4⟩
    rw [h3]
    unfold intsOf fetched byteOf
    rw [List.map_map]
    rfl)
  rw [show (intsOf (fetched c.a at_ m)).length = m from by unfold intsOf; rw [List.length_map, fetched_len]] at hr
  refine hr.mono ?_
  rintro e w' ⟨oa, oc, rfl, h2⟩
  refine ⟨oa, oc, rfl, ?_⟩
  rw [show n + (33 + 8 * (m : Int)) = n + (32 + 8 * (m : Int)) + 1 by omega]
  refine h2.rowsub fun r hr => ?_
  rcases List.mem_cons.1 hr with h | h
  · exact List.mem_cons.2 (.inl h)
  · exact List.mem_cons.2 (.inr (List.mem_cons_of_mem _ h))
set_option maxRecDepth 100000 in
set_option maxHeartbeats 8000000 in
theorem lawProbeTells (w : World) (s : ByteArray) (hs : s.size ≤ 9223372036854775807) (v0 : Value) (zs : List Int) (h0 : IntsR w v0 zs) :
    Calls Tryz.prog 9 #[.string s, v0] w fun e w' => e = .returned (.bool true) ∧ Upd none' w w' := by
  obtain ⟨fa, hfa⟩ : ∃ fa : ByteArray, (⟨(freshL s).toArray⟩ : ByteArray) = fa := ⟨_, rfl⟩
  have HFA := Lib.hid hfa
  obtain ⟨k1, k2, a0, cap0, rfl, k4, k5⟩ := h0
  obtain ⟨M, hM⟩ : ∃ M, zs.length = M := ⟨_, rfl⟩
  rw [hM] at k4 k5 ⊢
  have HK := Lib.hid k5
  have HM := Lib.hid hM
  clear hfa k2 k5 hM k1
  go_enter Tryz.func9, Tryz.ntmps9
  go_upto_region 4 with (first | (go_at_call 34; refine (awake15 _).mono ?_; rintro e w0 ⟨rfl, hU1⟩) | (go_at_call 35; refine (c_twins15 hU1 _ hs fa HFA.out).mono ?_; rintro e w1 ⟨b, r, rfl, hC1⟩))
  have HN := Lib.hid (rdy_new Own.emp_ok (at_new fa) hC1 (Int.le_refl 0) (by decide))
  clear hC1
  go_upto_region 8 with (first | (go_at_call 28; refine HN.out.mono ?_; rintro e w2 ⟨kk, fo, fi, rfl, hR2⟩) | (go_at_call 25; refine (num_any _ _).mono ?_; rintro e w' ⟨rfl, rfl⟩))
  have HR2 := Lib.hid hR2
  clear hR2 HN
  go_loopw [9] (fun iv wr => ∃ (i : Nat) (q : Int), i ≤ M ∧ i ≤ 5 ∧ iv = .int .i64 (i : Int) ∧ Hid (Rdy .emp (Cor.new fa) b kk fo fi (0 + 500 * (i : Int)) q w wr [])) (fun iv _ => 5 - (intOf iv).toNat)
  case atStart => exact ⟨0, 0, Nat.zero_le _, Nat.zero_le _, rfl, HR2⟩
  case round =>
    clear HR2
    rename World => W2
    obtain ⟨i, q, hi1, hi2, rfl, hR⟩ := hrel
    by_cases hlt : i < M ∧ i < 5
    · obtain ⟨hl1, hl2⟩ := hlt
      obtain ⟨bb, oo, rfl, hbb, hcc⟩ := HK.out (by intro h; have := HM.out; rw [h] at this; simp at this; omega)
      obtain ⟨x, hx⟩ : ∃ x, zs.getD i 0 = x := ⟨_, rfl⟩
      have hcell : W2.cell? ⟨bb, oo + i, none⟩ = some (.int .i64 x) := by
        rw [hR.out.up.cell (p := ⟨bb, oo + i, none⟩) hbb (fun f => f), hcc i hl1, hx]
      have ha1 := i64_and4095 x
      have ha2 := i64_and15 x
      obtain ⟨m, hm⟩ : ∃ m : Nat, x % 16 = (m : Int) := ⟨(x % 16).toNat, by omega⟩
      rw [hm] at ha2
      have hrd := rdy_read3 (hR.out.fr (Upd.refl _ _).drew) rfl rfl (x % 4096) (by omega) m (by omega) (by omega)
      have HRD := Lib.hid hrd
      have HMB := Lib.hid (show m ≤ 15 by omega)
      have HCELL : Hid (∀ w', Upd none' w w' → w'.cell? ⟨bb, oo + i, none⟩ = some (.int .i64 x)) := Lib.hid (fun w' u => by rw [u.cell (p := ⟨bb, oo + i, none⟩) hbb (fun f => f), hcc i hl1, hx])
      clear hrd hR hcc hx hm hbb
      go_upto_region 10 with fail
      go_region_held3 (fun w' => w'.cell? ⟨bb, oo + i, none⟩ = some (.int .i64 x)) (first | exact hcell | exact HCELL.out _ hR3.up) (first | (go_at_call 36; refine HRD.out.mono ?_; rintro e w3 ⟨oa, oc, rfl, hR3⟩))
      have HP := Lib.hid (rdy_probe hR3 rfl rfl (by have := HMB.out; omega))
      clear hR3 HRD HCELL hcell ha1 ha2
      go_wp2_with (first | (go_at_call 37; refine HP.out.mono ?_; rintro e w4 ⟨rfl, hR4⟩) | (go_at_call 25; refine (num_any _ _).mono ?_; rintro e w' ⟨rfl, rfl⟩))
      refine ⟨?rel, ?measure⟩
      case rel => exact ⟨i + 1, _, by omega, by omega, by go_num, Lib.hid ((hR4.most (by have := HMB.out; omega) (by omega)).rowsub fun r hr => (by cases hr))⟩
      case measure => simp [intOf]; omega
    · have HU := Lib.hid hR.out.up
      have hor : M ≤ i ∨ i < M ∧ i = 5 := by omega
      clear hR hlt
      rcases hor with h | ⟨h, rfl⟩
      all_goals
        go_wp2
        go_ret
        exact ⟨rfl, HU.out⟩
end Go.Proofs.YtkjdhkpkcepilaaGreat
