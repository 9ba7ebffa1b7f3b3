/- lichenlaw10.WireRows. -/
import Derived.Test.YtbflnpkgbpckfaaGreatAwake10
import Derived.Test.YtbflnpkgbpckfaaGreatWireR
import Derived.Test.YtbflnpkgbpckfaaGreatCtxV
import Derived.Test.YtbflnpkgbpckfaaGreatNums
namespace Go.Proofs.YtbflnpkgbpckfaaGreat
open Go.RowKit
theorem readPh_may (k : Int) (hk : 0 ≤ k ∧ k < 4096) (m : Nat) (h1 : 1 ≤ m) (h2 : m ≤ 512) : (readPh k m).all Ph.may = true := by
  have a1 : Ph.may ⟨1, [3, 0, k / 256, k % 256], 0, 0⟩ = true := by
    unfold Ph.may
    rw [if_pos (by simp)]
    simp [lanesB, byteB]
    omega
  have a2 : Ph.may ⟨1, [], 0, m⟩ = true := by
    unfold Ph.may
    rw [if_neg (by simp), if_pos (by dsimp only; omega)]
    simp [lanesB]
    omega
  unfold readPh
  rw [List.all_cons, List.all_cons, a1, a2]
  rfl
theorem readPh_many (k : Int) (m : Nat) : phsMany (readPh k m) = 32 + 8 * (m : Int) := by
  unfold readPh
  rw [phsMany_cons, phsMany_cons, many1, many1]
  show ((4 : Int) + 0) * 8 + (((0 : Int) + m) * 8 + 0) = _
  omega
def readL (k : Int) (m : Nat) (v : Value) : List (Ph × Value) := [(⟨1, [3, 0, k / 256, k % 256], 0, 0⟩, v), (⟨1, [], 0, m⟩, .slice none 0 0)]
theorem readL_fst (k : Int) (m : Nat) (v : Value) : (readL k m v).map Prod.fst = readPh k m := rfl
theorem readL_may (k : Int) (hk : 0 ≤ k ∧ k < 4096) (m : Nat) (h1 : 1 ≤ m) (h2 : m ≤ 512) (v : Value) : (readL k m v).all (fun x => x.1.may) = true := by rw [← map_all]; exact readPh_may k hk m h1 h2
set_option maxRecDepth 100000 in
set_option maxHeartbeats 8000000 in
theorem lawWireRows (w : World) (s : ByteArray) (hs : s.size ≤ 9223372036854775807) (at_ : Int) (_ : (Lit.int .i64 at_).wf = true) (many : Int) (_ : (Lit.int .i64 many).wf = true) :
    Calls Tryz.prog 6 #[.string s, .int .i64 at_, .int .i64 many] w fun e w' => e = .returned (.bool true) ∧ Upd none' w w' := by
  obtain ⟨k, hkat, hk⟩ := at_4095 at_
  obtain ⟨m, hm1, hm16, hmand, hmw⟩ := many_15 many
  obtain ⟨fa, hfa⟩ : ∃ fa : ByteArray, (⟨(freshL s).toArray⟩ : ByteArray) = fa := ⟨_, rfl⟩
  have hsz : fa.size = 4096 := by rw [← hfa]; simpa [ByteArray.size] using freshL_len s
  have HFA := Lib.hid hfa
  have hkand := i64_and255 (k : Int)
  have HKI : Hid (0 ≤ (k : Int) ∧ (k : Int) < 4096) := Lib.hid ⟨by omega, by omega⟩
  clear hfa
  go_enter Tryz.func6, Tryz.ntmps6
  go_upto_region 10 with (first | (go_at_call 15; refine (awake10 _).mono ?_; rintro e w1 ⟨rfl, hU1⟩) | (go_at_call 16; refine (c_twins10 hU1 s hs fa HFA.out).mono ?_; rintro e w2 ⟨b, r, rfl, hC2⟩) | (go_at_call 20; refine (c_cells hC2 fa rfl).mono ?_; rintro e w3 ⟨rfl, rfl⟩))
  have hC3 := (hC2.nilrow.lit (ints [3, 0, (k : Int) / 256, (k : Int) % 256]) 3 4 rfl (by decide))
  have hs3 : (w2.alloc (.cells (ints [3, 0, (k : Int) / 256, (k : Int) % 256]).toArray 3)).heap.size = w2.heap.size + 1 := by simp
  obtain ⟨hC4, hP4⟩ := phs_lit hC3 (readL k m (.slice (some ⟨w2.heap.size, 0, none⟩) 4 4)) 2 rfl (by decide) (by
    intro x hx
    simp only [readL, List.mem_cons, List.not_mem_nil, or_false] at hx
    rcases hx with rfl | rfl
    · exact List.mem_cons_self
    · exact List.mem_cons_of_mem _ List.mem_cons_self)
  rw [hs3] at hC4 hP4
  obtain ⟨R, hC5, hP5⟩ : ∃ R, Ctx (ChipP b (St.new fa) 0) .emp w ((w2.alloc (.cells (ints [3, 0, (k : Int) / 256, (k : Int) % 256]).toArray 3)).alloc (.cells ((readL k m (.slice (some ⟨w2.heap.size, 0, none⟩) 4 4)).flatMap phCells).toArray 37)) R ∧ PhsV R (.slice (some ⟨w2.heap.size + 1, 0, none⟩) 2 2) (readL k m (.slice (some ⟨w2.heap.size, 0, none⟩) 4 4)) := ⟨_, hC4, hP4⟩
  have HC5 := Lib.hid hC5
  have HP5 := Lib.hid hP5
  clear hC2 hC3 hC4 hP4 hs3 hC5 hP5
  go_upto_region 12 with fail
  clear hkat hmand hkand hs HFA hU1
  obtain ⟨m1, hmm⟩ : ∃ m1, m1 + 1 = m := ⟨m - 1, by omega⟩
  obtain ⟨q, hq⟩ : ∃ q, (k + m1) % 4096 = q := ⟨_, rfl⟩
  have hq4 : q < 4096 := by omega
  have hwa : IntKind.i64.wrap ((k : Int) + (m : Int)) = (k : Int) + (m : Int) := IntWalk.i64_in _ (by omega)
  have hwb : IntKind.i64.wrap ((k : Int) + (m : Int) - 1) = (k : Int) + (m1 : Int) := by rw [IntWalk.i64_in _ (by omega)]; omega
  have hwc : ((k : Int) + (m1 : Int)).tmod 4096 = (q : Int) := by rw [Int.tmod_eq_emod_of_nonneg (by omega)]; omega
  have hwd : IntKind.i64.wrap ((m : Int) - 1) = (m1 : Int) := by rw [IntWalk.i64_in _ (by omega)]; omega
  have hks : k < fa.size := by omega
  have hki : (k : Int) < 4096 := by omega
  have hqi : (q : Int) < 4096 := by omega
  have hqs : q < fa.size := by omega
  go_loopw [13] (fun iv wr => ∃ (i : Nat) (t : St), i ≤ 3 ∧ iv = .int .i64 (i : Int) ∧ Hid (At (Cor.new fa) t) ∧ Ctx (ChipP b t (200 * (i : Int))) .emp w wr R) (fun iv _ => 3 - (intOf iv).toNat)
  case atStart => exact ⟨0, St.new fa, by omega, rfl, Lib.hid (at_new fa), by rw [show (200 : Int) * ((0 : Nat) : Int) = 0 from rfl]; exact HC5.out⟩
  case round =>
    clear HC5
    rename World => W2
    obtain ⟨i, t, hi, rfl, hat, hC⟩ := hrel
    by_cases hlt : i < 3
    · obtain ⟨d, hd, hdc, hdo, hda, hds⟩ := read1_all hat.out rfl rfl (k : Int) HKI.out m
      have hdl : d.out.length = m := by rw [hdo, List.length_map, List.length_range]
      have hdr := c_drive Own.emp_ok hC (by omega) hat.out.sel _ _ _ _ HP5.out (-1) (by unfold i64B; decide) (readL_may k HKI.out m (by omega) (by omega) _) (.inl (by rw [readL_fst, readPh_many]; omega)) d true (by rw [readL_fst]; exact hd)
      rw [hdl, hdc] at hdr
      have h0 : (ints d.out)[0]? = some (.int .i64 ((fa[k]'hks).toNat : Int)) := by
        rw [ints_at _ _ (by omega), hdo]
        rw [List.getD_eq_getElem?_getD, List.getElem?_map, List.getElem?_range (by omega)]
        show some (Value.int .i64 (byteOf fa (((k : Int) + 0) % 4096).toNat)) = _
        rw [show (((k : Int) + 0) % 4096).toNat = k by omega, byteOf_get fa k hks]
      have h1 : (ints d.out)[m1]? = some (.int .i64 ((fa[q]'hqs).toNat : Int)) := by
        rw [ints_at _ _ (by omega), hdo]
        rw [List.getD_eq_getElem?_getD, List.getElem?_map, List.getElem?_range (by omega)]
        show some (Value.int .i64 (byteOf fa (((k : Int) + (m1 : Int)) % 4096).toNat)) = _
        rw [show (((k : Int) + (m1 : Int)) % 4096).toNat = q by omega, byteOf_get fa q hqs]
      have HDR := Lib.hid hdr
      have HDA := Lib.hid hda
      have H0 := Lib.hid h0
      have H1 := Lib.hid h1
      clear hdr hda h0 h1 hd hdc hdo hds hat hC hdl
      go_upto_region 15 with (go_at_call 18; refine HDR.out.mono ?_; rintro e w3 ⟨oa, oc, rfl, hC3⟩)
      obtain ⟨g, o, rfl, hg, hcc⟩ := (hC3.rs_mem List.mem_cons_self).cells (by omega)
      have l0 : ∀ u : UW w3, u.val.cell? ⟨g, o, none⟩ = some (.int .i64 ((fa[k]'hks).toNat : Int)) := fun u => by rw [u.upd.cell (p := ⟨g, o, none⟩) hg (fun f => f), ← H0.out]; exact hcc 0 (by omega)
      have l1 : ∀ u : UW w3, u.val.cell? ⟨g, o + m1, none⟩ = some (.int .i64 ((fa[q]'hqs).toNat : Int)) := fun u => by rw [u.upd.cell (p := ⟨g, o + m1, none⟩) hg (fun f => f), ← H1.out]; exact hcc m1 (by omega)
      have HC3 := Lib.hid hC3
      have hb0 := (fa[k]'hks).toNat_lt
      have hb1 := (fa[q]'hqs).toNat_lt
      clear hC3 hcc
      refine wp_region_upd_lit w3 (Upd.refl none' w3) (by kernel_rfl) (by kernel_rfl) ?_
      repeat (go_big_quiet_step ((go_at_call 19; exact quiet_eq (num_any _ _))))
      refine wpQuiet_nil ?_
      rintro _ ⟨⟨w4, hU4⟩, rfl⟩
      clear l0 l1 hb0 hb1
      go_wp2
      refine ⟨?rel, ?measure⟩
      case rel => exact ⟨i + 1, d.s.deselect, by omega, by go_num, HDA, ((HC3.out.tl).frame hU4).up (by omega)⟩
      case measure => simp [intOf]; omega
    · obtain rfl : i = 3 := by omega
      obtain ⟨R', hC', -, hP'⟩ := phs_tail hC HP5.out
      obtain ⟨d, hd, hdc, hdo, hds⟩ := read0_all hat.out rfl rfl m hm1
      have hdl : d.out.length = m := by rw [hdo, List.length_replicate]
      have hmay : ([((⟨1, [], 0, (m : Int)⟩ : Ph), Value.slice none 0 0)] : List (Ph × Value)).all (fun x => x.1.may) = true := by
        have h := readPh_may (k : Int) HKI.out m hm1 (by omega)
        unfold readPh at h
        rw [List.all_cons, Bool.and_eq_true] at h
        exact h.2
      have hdr := c_drive Own.emp_ok hC' (by omega) hat.out.sel _ _ _ _ hP' (-1) (by unfold i64B; decide) hmay (.inl (by rw [List.map_cons, List.map_nil, phsMany_cons, many1]; show 200 * ((3 : Nat) : Int) + (((0 : Int) + m) * 8 + 0) ≤ 1048575; omega)) d true hd
      rw [hdl, hdc, hdo] at hdr
      have HDR := Lib.hid hdr
      clear hdr hd hdc hdo hds hat hC hdl hC' hP' hmay hwa hwb hwc hwd
      go_upto_region 18 with (go_at_call 18; refine HDR.out.mono ?_; rintro e w3 ⟨oa, oc, rfl, hC3⟩)
      obtain ⟨g, o, rfl, hg, hcc⟩ := (hC3.rs_mem List.mem_cons_self).cells (by omega)
      have h0 := hcc 0 (by omega)
      have hcell : w3.cell? ⟨g, o, none⟩ = some (.int .i64 255) := by
        rw [ints_at _ _ (by rw [List.length_replicate]; omega)] at h0
        rw [List.getD_eq_getElem?_getD, List.getElem?_replicate, if_pos (by omega)] at h0
        exact h0
      have HU := Lib.hid hC3.upd
      clear hC3 hcc h0
      go_wp2_with (go_at_call 19; refine (num_any _ _).mono ?_; rintro e w' ⟨rfl, rfl⟩)
      go_ret
      exact ⟨rfl, HU.out⟩
end Go.Proofs.YtbflnpkgbpckfaaGreat
