/- probe.Probe, Quad, Protect, of a controller at rest; sfdp.Get of what the chip tells. -/
import Derived.Test.YtkjdhkpkcepilaaGreatReads
import Derived.Test.YtkjdhkpkcepilaaGreatTwo
import Derived.Test.YtkjdhkpkcepilaaGreatWaitP
import Derived.BigQuiet
namespace Go.Proofs.YtkjdhkpkcepilaaGreat
open Go.RowKit
theorem getD_got (a : ByteArray) (j : Nat) (h : j < a.size) : a[j]'h = a.data.toList.getD j 0 := by
  rw [List.getD_eq_getElem?_getD, List.getElem?_eq_getElem (show j < a.data.toList.length from h)]
  rfl
set_option maxRecDepth 100000 in
set_option maxHeartbeats 4000000 in
theorem sfdp_number (s : ByteArray) (hs : 4 ≤ s.size) (x p1 p2 : Int) (b0 b1 : UInt8) (h0 : s.data.toList.getD 0 0 = b0) (h1 : s.data.toList.getD 1 0 = b1) (h2 : s.data.toList.getD 2 0 = 0) (h3 : s.data.toList.getD 3 0 = 0)
    (hx : x = 4096 ∧ b0 = 0 ∧ b1 = 16 ∧ p1 = 0 ∧ p2 = 4096 ∨ x = 512 ∧ b0 = 0 ∧ b1 = 2 ∧ p1 = 0 ∧ p2 = 512 ∨ x = 32 ∧ b0 = 32 ∧ b1 = 0 ∧ p1 = 32 ∧ p2 = 32) (w : World) :
    Calls Tryz.prog 104 #[.string s] w fun e w' => e = .returned (.int .i64 x) ∧ w = w' := by
  have g0 := getD_got s 0 (by omega)
  have g1 := getD_got s 1 (by omega)
  have g2 := getD_got s 2 (by omega)
  have g3 := getD_got s 3 (by omega)
  rw [h0] at g0
  rw [h1] at g1
  rw [h2] at g2
  rw [h3] at g3
  have hs0 : 0 < s.size := by omega
  have hs1 : 1 < s.size := by omega
  have hs2 : 2 < s.size := by omega
  have hs3 : 3 < s.size := by omega
  clear h0 h1 h2 h3
  rcases hx with ⟨rfl, rfl, rfl, rfl, rfl⟩ | ⟨rfl, rfl, rfl, rfl, rfl⟩ | ⟨rfl, rfl, rfl, rfl, rfl⟩
  all_goals
    go_enter Tryz.func104, Tryz.ntmps104
    go_wp2
  · go_loopw [3, 5] (fun xv iv wr => w = wr ∧ (iv = .int .i64 0 ∧ xv = .int .i64 0 ∨ iv = .int .i64 1 ∧ xv = .int .i64 0 ∨ iv = .int .i64 2 ∧ xv = .int .i64 4096 ∨ iv = .int .i64 3 ∧ xv = .int .i64 4096 ∨ iv = .int .i64 4 ∧ xv = .int .i64 4096)) (fun _ iv _ => 4 - (intOf iv).toNat)
    case atStart => exact ⟨rfl, .inl ⟨rfl, rfl⟩⟩
    case round =>
      obtain ⟨rfl, hh⟩ := hrel
      rcases hh with ⟨rfl, rfl⟩ | ⟨rfl, rfl⟩ | ⟨rfl, rfl⟩ | ⟨rfl, rfl⟩ | ⟨rfl, rfl⟩
      all_goals go_wp2
      all_goals first
        | (go_ret; exact ⟨rfl, rfl⟩)
        | exact ⟨by first | (simp; done) | (simp; decide), by simp [intOf]⟩
  · go_loopw [3, 5] (fun xv iv wr => w = wr ∧ (iv = .int .i64 0 ∧ xv = .int .i64 0 ∨ iv = .int .i64 1 ∧ xv = .int .i64 0 ∨ iv = .int .i64 2 ∧ xv = .int .i64 512 ∨ iv = .int .i64 3 ∧ xv = .int .i64 512 ∨ iv = .int .i64 4 ∧ xv = .int .i64 512)) (fun _ iv _ => 4 - (intOf iv).toNat)
    case atStart => exact ⟨rfl, .inl ⟨rfl, rfl⟩⟩
    case round =>
      obtain ⟨rfl, hh⟩ := hrel
      rcases hh with ⟨rfl, rfl⟩ | ⟨rfl, rfl⟩ | ⟨rfl, rfl⟩ | ⟨rfl, rfl⟩ | ⟨rfl, rfl⟩
      all_goals go_wp2
      all_goals first
        | (go_ret; exact ⟨rfl, rfl⟩)
        | exact ⟨by first | (simp; done) | (simp; decide), by simp [intOf]⟩
  · go_loopw [3, 5] (fun xv iv wr => w = wr ∧ (iv = .int .i64 0 ∧ xv = .int .i64 0 ∨ iv = .int .i64 1 ∧ xv = .int .i64 32 ∨ iv = .int .i64 2 ∧ xv = .int .i64 32 ∨ iv = .int .i64 3 ∧ xv = .int .i64 32 ∨ iv = .int .i64 4 ∧ xv = .int .i64 32)) (fun _ iv _ => 4 - (intOf iv).toNat)
    case atStart => exact ⟨rfl, .inl ⟨rfl, rfl⟩⟩
    case round =>
      obtain ⟨rfl, hh⟩ := hrel
      rcases hh with ⟨rfl, rfl⟩ | ⟨rfl, rfl⟩ | ⟨rfl, rfl⟩ | ⟨rfl, rfl⟩ | ⟨rfl, rfl⟩
      all_goals go_wp2
      all_goals first
        | (go_ret; exact ⟨rfl, rfl⟩)
        | exact ⟨by first | (simp; done) | (simp; decide), by simp [intOf]⟩
set_option maxRecDepth 100000 in
set_option maxHeartbeats 4000000 in
theorem sfdp_get (w : World) :
    Calls Tryz.prog 70 #[.string sfdpTab] w fun e w' => e = .returned (.tuple #[.int .i64 4096, .int .i64 512, .int .i64 32, .int .i64 0]) ∧ Upd none' w w' := by
  have hp := sfdp_put
  obtain ⟨T, hT⟩ : ∃ T, sfdpTab = T := ⟨_, rfl⟩
  have hsz : T.size = 32 := by rw [← hT]; rfl
  obtain ⟨R, hR⟩ : ∃ R, T.extract 8 32 = R := ⟨_, rfl⟩
  have hrs : R.size = 24 := by rw [← hR, ← hT]; rfl
  obtain ⟨R2, hR2⟩ : ∃ R2, R.extract 4 24 = R2 := ⟨_, rfl⟩
  obtain ⟨R3, hR3⟩ : ∃ R3, R.extract 8 24 = R3 := ⟨_, rfl⟩
  have e1 : R.data.toList = [0, 16, 0, 0, 0, 2, 0, 0, 32, 0, 0, 0, 255, 255, 255, 255, 255, 255, 255, 255, 255, 255, 255, 255] := by rw [← hR, ← hT]; rfl
  have e2 : R2.data.toList = [0, 2, 0, 0, 32, 0, 0, 0, 255, 255, 255, 255, 255, 255, 255, 255, 255, 255, 255, 255] := by rw [← hR2, ← hR, ← hT]; rfl
  have e3 : R3.data.toList = [32, 0, 0, 0, 255, 255, 255, 255, 255, 255, 255, 255, 255, 255, 255, 255] := by rw [← hR3, ← hR, ← hT]; rfl
  have n1 := fun w => sfdp_number R (by omega) 4096 0 4096 0 16 (by rw [e1]; rfl) (by rw [e1]; rfl) (by rw [e1]; rfl) (by rw [e1]; rfl) (.inl ⟨rfl, rfl, rfl, rfl, rfl⟩) w
  have n2 := fun w => sfdp_number R2 (by show 4 ≤ R2.data.toList.length; rw [e2]; decide) 512 0 512 0 2 (by rw [e2]; rfl) (by rw [e2]; rfl) (by rw [e2]; rfl) (by rw [e2]; rfl) (.inr (.inl ⟨rfl, rfl, rfl, rfl, rfl⟩)) w
  have n3 := fun w => sfdp_number R3 (by show 4 ≤ R3.data.toList.length; rw [e3]; decide) 32 32 32 32 0 (by rw [e3]; rfl) (by rw [e3]; rfl) (by rw [e3]; rfl) (by rw [e3]; rfl) (.inr (.inr ⟨rfl, rfl, rfl, rfl, rfl⟩)) w
  rw [hT] at hp ⊢
  have HP := Lib.hid hp
  have N1 := Lib.hid n1
  have N2 := Lib.hid n2
  have N3 := Lib.hid n3
  clear hp n1 n2 n3 e1 e2 e3 hT
  go_enter Tryz.func70, Tryz.ntmps70
  go_upto_region 4 with fail
  refine wp_region_upd_lit w (Upd.refl none' w) (by kernel_rfl) (by kernel_rfl) ?_
  repeat (go_big_quiet_step ((go_at_call 104; first | (with_reducible exact quiet_eq (N1.out _)) | (with_reducible exact quiet_eq (N2.out _)) | (with_reducible exact quiet_eq (N3.out _)))))
  refine wpQuiet_nil ?_
  rintro _ ⟨⟨w2, hU2⟩, rfl⟩
  go_wp2_with (go_at_call 105; refine (HP.out _).mono ?_; rintro e w3 ⟨rfl, hU3⟩)
  refine bodyPost_ret (results_tmp4 rfl _ _ _) rfl ?_
  exact ⟨rfl, hU2.trans hU3 (fun _ _ f => f)⟩
set_option maxHeartbeats 1000000 in
/-- Two rows that are alike. -/
theorem slices_equal (w : World) (v u : Value) (xs : List Int) (hx0 : xs ≠ []) (hv : RS w v (ints xs)) (hu : RS w u (ints xs)) :
    Calls Tryz.prog 69 #[v, u] w fun e w' => e = .returned (.bool true) ∧ Upd none' w w' := by
  obtain ⟨h1, a, cap, rfl, h4, h5⟩ := hv
  obtain ⟨h1', a', cap', rfl, h4', h5'⟩ := hu
  obtain ⟨m, hm⟩ : ∃ m, (ints xs).length = m := ⟨_, rfl⟩
  have hl : (ints xs).length = xs.length := ints_len xs
  have hne : ints xs ≠ [] := by intro h; rw [h] at hl; exact hx0 (List.length_eq_zero_iff.1 hl.symm)
  obtain ⟨b1, o1, rfl, hb1, hc1⟩ := h5 hne
  obtain ⟨b2, o2, rfl, hb2, hc2⟩ := h5' hne
  rw [hm] at h1 h4 hc1 h1' h4' hc2 ⊢
  have hxm : xs.length = m := by rw [← hl, hm]
  have HC := Lib.hid (And.intro hc1 (And.intro hc2 hxm))
  clear hc1 hc2 h5 h5' hm hl hne hx0 hxm
  go_enter Tryz.func69, Tryz.ntmps69
  go_wp2
  go_loopw [13] (fun iv wr => ∃ i : Nat, i ≤ m ∧ iv = .int .i64 (i : Int) ∧ Upd none' w wr) (fun iv _ => m - (intOf iv).toNat)
  case atStart => exact ⟨0, Nat.zero_le _, rfl, Upd.refl _ _⟩
  case round =>
    obtain ⟨i, hi, rfl, hU⟩ := hrel
    rename World => W2
    by_cases hlt : i < m
    · have c1 := HC.out.1 i hlt
      have c2 := HC.out.2.1 i hlt
      rw [ints_at _ _ (by rw [HC.out.2.2]; exact hlt)] at c1 c2
      obtain ⟨x, hx⟩ : ∃ x, xs.getD i 0 = x := ⟨_, rfl⟩
      rw [hx] at c1 c2
      have q1 : W2.cell? ⟨b1, o1 + i, none⟩ = some (.int .i64 x) := (hU.cell (p := ⟨b1, o1 + i, none⟩) hb1 (fun f => f)).trans c1
      have q2 : W2.cell? ⟨b2, o2 + i, none⟩ = some (.int .i64 x) := (hU.cell (p := ⟨b2, o2 + i, none⟩) hb2 (fun f => f)).trans c2
      have HU := Lib.hid hU
      clear hx c1 c2 hU
      go_upto_region 6 with fail
      go_region
      all_goals
        go_wp2
        refine ⟨?rel, ?measure⟩
        case rel => exact ⟨i + 1, by omega, by go_num, HU.out.drew⟩
        case measure => simp [intOf]; omega
    · obtain rfl : i = m := by omega
      go_wp2
      go_ret
      exact ⟨rfl, hU⟩
theorem probe_id (w : World) :
    Calls Tryz.prog 68 #[] w fun e w' => e = .returned (.slice (some ⟨w.heap.size, 0, none⟩) 3 3) ∧ RS w' (.slice (some ⟨w.heap.size, 0, none⟩) 3 3) (ints [239, 64, 12]) ∧ Upd none' w w' := by
  go_enter Tryz.func68, Tryz.ntmps68
  go_wp2
  go_ret
  exact ⟨rfl, rs_new w (ints [239, 64, 12]) 3 3 rfl (by decide), (Upd.refl _ _).alloc _⟩
set_option maxRecDepth 100000 in
set_option maxHeartbeats 4000000 in
/-- The bytes of numbers, as a text. -/
theorem probe_text (w : World) (a : Option Addr) (m cap : Nat) (bs : List UInt8) (hm : bs.length = m) (h0 : 0 < m) (hmm : m ≤ 1048576) (h : RS w (.slice a m cap) (ints (intsOf bs))) :
    Calls Tryz.prog 71 #[.slice a m cap] w fun e w' => e = .returned (.string ⟨bs.toArray⟩) ∧ Upd none' w w' := by
  have hmk := make_bytesN m hmm
  have hbi : (intsOf bs).length = m := by unfold intsOf; rw [List.length_map, hm]
  obtain ⟨gx, ox, rfl, hgx, hcc⟩ := h.cells h0
  have HC := Lib.hid hcc
  have HM := Lib.hid (And.intro hm hbi)
  clear h hcc hm hbi
  go_enter Tryz.func71, Tryz.ntmps71
  go_wp2
  clear hmk
  have hBz : Buf (w.alloc (.cells (bytesV (List.replicate m 0)).toArray 5)) w.heap.size (List.replicate m 0) 5 := ⟨[], (0, 0), by rw [List.append_nil]; exact heap_alloc_new w _, .inl rfl⟩
  have hUz := (Upd.refl none' w).alloc (.cells (bytesV (List.replicate m 0)).toArray 5)
  go_loopw [11] (fun iv wr => ∃ (i : Nat) (l : List UInt8), i ≤ m ∧ iv = .int .i64 (i : Int) ∧ Upd none' w wr ∧ Buf wr w.heap.size l 5 ∧ Hid (l = bs.take i ++ List.replicate (m - i) 0)) (fun iv _ => m - (intOf iv).toNat)
  case atStart => exact ⟨0, List.replicate m 0, by omega, rfl, hUz, hBz, Lib.hid (by rw [List.take_zero, List.nil_append, Nat.sub_zero])⟩
  case round =>
    clear hBz hUz
    rename World => W2
    obtain ⟨i, l, hi, rfl, hU, hB, hl⟩ := hrel
    have hll : l.length = m := by rw [hl.out, List.length_append, List.length_take, List.length_replicate, HM.out.1]; omega
    by_cases hlt : i < m
    · obtain ⟨c, hcv⟩ : ∃ c, bs.getD i 0 = c := ⟨_, rfl⟩
      have hcell : W2.cell? ⟨gx, ox + i, none⟩ = some (.int .i64 ((c.toNat : Nat) : Int)) := by
        rw [hU.cell (p := ⟨gx, ox + i, none⟩) hgx (fun f => f), HC.out i hlt, ints_at _ _ (by rw [HM.out.2]; exact hlt)]
        unfold intsOf
        rw [List.getD_eq_getElem?_getD, List.getElem?_map, List.getElem?_eq_getElem (show i < bs.length by rw [HM.out.1]; exact hlt), ← hcv]
        simp [List.getD_eq_getElem?_getD, List.getElem?_eq_getElem (show i < bs.length by rw [HM.out.1]; exact hlt)]
      have hcb := c.toNat_lt
      have hw8 : IntKind.u8.wrap ((c.toNat : Nat) : Int) = ((c.toNat : Nat) : Int) := by rw [IntKind.wrap_u8]; omega
      have hbc := hB.cell (j := i) (by omega)
      have hbf := hB.frozen (j := i) (by omega)
      have hset := hB.set (j := i) (by omega) c
      have hst := fetch_step bs l i m HM.out.1 hlt hl.out
      rw [hcv] at hst
      rw [hst] at hset
      have HSET := Lib.hid hset
      have HU := Lib.hid (hU.setCell ⟨w.heap.size, i, none⟩ (.int .u8 c.toNat) (fun h => absurd h (Nat.lt_irrefl _)))
      clear hset hst hB hU hcv
      go_wp2
      refine ⟨?rel, ?measure⟩
      case rel => exact ⟨i + 1, _, by omega, by go_num, HU.out, HSET.out, Lib.hid rfl⟩
      case measure => simp [intOf]; omega
    · obtain rfl : i = m := by omega
      have hle : l = bs := by rw [hl.out, Nat.sub_self, List.replicate_zero, List.append_nil, List.take_of_length_le (by rw [HM.out.1]; exact Nat.le_refl _)]
      subst hle
      have hst := fun cap => run_string_buf (P := Tryz.prog) hB 53 5 9 Tryz.underlying53 Tryz.underlying5 Tryz.underlying9 i cap hll
      have HU := Lib.hid hU
      clear hB hU
      go_wp2
      go_ret
      exact ⟨rfl, HU.out⟩
end Go.Proofs.YtkjdhkpkcepilaaGreat
