/- Twins16 Awake16 MacF MacG MacT MacU -/
import Derived.Test.YteombggfmeilaaaGreatBa05
import Derived.Test.YteombggfmeilaaaGreatBa06
import Derived.Test.YteombggfmeilaaaGreatBa13
import Derived.Test.YteombggfmeilaaaGreatBa14
import Derived.Test.YteombggfmeilaaaGreatBa23
/- Twins16. -/
namespace Go.Proofs.YteombggfmeilaaaGreat
open Go.RowKit
set_option maxRecDepth 100000 in
set_option maxHeartbeats 2000000 in
theorem twins16 (s : ByteArray) (w : World) (hs : s.size ≤ 9223372036854775807) :
    Calls Tryz.prog 48 #[.string s] w fun e w' => ∃ b S r v, e = .returned (.tuple #[.pointer (some ⟨b, 0, none⟩), .pointer (some ⟨r, 0, none⟩)]) ∧ ChipAt w' b (St.new ⟨(freshL s).toArray⟩) S ∧ (∀ k, S k → w.heap.size ≤ k) ∧ RefNew w' r ⟨(freshL s).toArray⟩ v ∧ (w.heap.size ≤ r ∧ ¬ S r) ∧ (∀ k, v.ownBlock = some k → w.heap.size ≤ k ∧ ¬ S k) ∧ Upd none' w w' := by
  have hbk := ref_blank w
  obtain ⟨bl, hbl⟩ : ∃ bl : ByteArray, bl = ⟨blankL.toArray⟩ := ⟨_, rfl⟩
  have hsz : bl.size = 4096 := by rw [hbl]; exact List.length_replicate
  have hdl : bl.data.toList = blankL := by rw [hbl]
  rw [← hbl] at hbk
  have HDL := Lib.hid hdl
  clear hbl hdl
  go_enter Tryz.func48, Tryz.ntmps48
  go_wp2_with (go_at_call 13; refine hbk.mono ?_; rintro e w1 ⟨rfl, hU1⟩; have kc := Lib.run_convert_string_bytes (P := Tryz.prog) w1 9 23 5 bl Tryz.underlying9 Tryz.underlying23 Tryz.underlying5)
  have hBz := Buf.of_bytes w1 5 bl
  have hUz := hU1.trans (upd_bytes w1 5 bl) (fun _ _ f => f)
  have hs1 := hU1.size
  clear kc hbk hU1
  go_loopw [5] (fun iv wr => ∃ (i : Nat) (l : List UInt8), i ≤ 4096 ∧ iv = .int .i64 i ∧ Upd none' w wr ∧ Buf wr w1.heap.size l 5 ∧ (s.size = 0 → i = 0) ∧ Hid (l = ((List.range 4096).map (freshAt s)).take i ++ blankL.drop i)) (fun iv _ => 4096 - (intOf iv).toNat)
  case atStart => exact ⟨0, _, by omega, rfl, hUz, hBz, fun _ => rfl, Lib.hid (by rw [HDL.out, List.take_zero, List.drop_zero, List.nil_append])⟩
  case round =>
    clear hBz hUz
    obtain ⟨i, l, hi, rfl, hU, hB, hs0, hl⟩ := hrel
    have hll : l.length = 4096 := by
      rw [hl.out, List.length_append, List.length_take, List.length_drop, List.length_map, List.length_range, show blankL.length = 4096 from List.length_replicate]
      omega
    by_cases hz : s.size = 0
    · have hi0 := hs0 hz
      subst hi0
      have hse : s = ⟨#[]⟩ := by
        obtain ⟨d⟩ := s
        simp only [ByteArray.size] at hz
        rw [Array.eq_empty_of_size_eq_zero hz]
      have hfin : l = freshL s := by
        rw [hl.out, List.take_zero, List.drop_zero, List.nil_append]
        unfold freshL
        rw [if_pos hz]
      · clear hs0
        subst hse
        have hst := fun cap => run_string_buf hB 23 5 9 Tryz.underlying23 Tryz.underlying5 Tryz.underlying9 4096 cap hll
        have HN := Lib.hid (chip_new ⟨l.toArray⟩ wr (by simpa [ByteArray.size] using hll))
        have HRF := Lib.hid (fun w => ref_new ⟨l.toArray⟩ w (by simpa [ByteArray.size] using hll))
        have hB2 := fun w2 (u : Upd none' wr w2) cap => run_string_buf (hB.upd u (fun f => f)) 23 5 9 Tryz.underlying23 Tryz.underlying5 Tryz.underlying9 4096 cap hll
        have HB2 := Lib.hid hB2
        clear hB2
        have HU := Lib.hid hU
        have HL := Lib.hid hfin
        clear hB hU hfin hl
        go_wp2_with (first | (go_at_call 15; refine (HRF.out _).mono ?_; rintro e w3 ⟨r, v, rfl, hr, hBr, hRv, hv, hU3⟩) | (go_at_call 14; refine HN.out.mono ?_; rintro e w2 ⟨b, S, rfl, hA, hS, hU2⟩; have hst2 := HB2.out _ hU2))
        go_ret2
        have hlt := hA.lt
        have hsz := HU.out.size
        have hsz2 := hU2.size
        refine ⟨b, S, r, v, rfl, by rw [← HL.out]; exact hA.upd hU3 (fun _ _ f => f), fun k hk => ?_, by rw [← HL.out]; exact ⟨hBr, hRv, fun k hk => (hv k hk).2⟩, ⟨by omega, fun hs => ?_⟩, fun k hk => ⟨?_, fun hs => ?_⟩, (HU.out.trans hU2 (fun _ _ f => f)).trans hU3 (fun _ _ f => f)⟩
        · have := hS k hk; omega
        · have := hlt r hs; omega
        · have := (hv k hk).1; omega
        · have := hlt k hs; have := (hv k hk).1; omega
    · have hpos : 0 < s.size := by omega
      have hne := str_nonempty s hpos
      by_cases hlt : i < 4096
      · have hq : i % s.size < s.size := Nat.mod_lt _ hpos
        have hfa : freshAt s i = s[i % s.size] := by unfold freshAt; rw [str_at s _ hq]
        have hc := hB.cell (j := i) (by omega)
        have hf := hB.frozen (j := i) (by omega)
        have HB := Lib.hid (hB.set (j := i) (by omega) (freshAt s i))
        have HU := Lib.hid (hU.setCell ⟨w1.heap.size, i, none⟩ (.int .u8 (freshAt s i).toNat) (fun h => absurd h (by dsimp only; omega)))
        have HFA := Lib.hid hfa
        clear hB hU hfa hs0
        go_wp2
        refine ⟨⟨i + 1, _, by omega, by go_num, ?_, ?_, fun h => absurd h hz, Lib.hid (fresh_step s l i hlt hl.out)⟩, by simp [intOf]; omega⟩
        · have := HU.out
          rw [HFA.out] at this
          exact this
        · have := HB.out
          rw [HFA.out] at this ⊢
          exact this
      · have hieq : i = 4096 := by omega
        subst hieq
        have hfin : l = freshL s := by
          rw [hl.out]
          unfold freshL
          rw [if_neg hz, List.take_of_length_le (by rw [List.length_map, List.length_range]; exact Nat.le_refl _), List.drop_of_length_le (by rw [show blankL.length = 4096 from List.length_replicate]; exact Nat.le_refl _), List.append_nil]
        clear hs0
        have hst := fun cap => run_string_buf hB 23 5 9 Tryz.underlying23 Tryz.underlying5 Tryz.underlying9 4096 cap hll
        have HN := Lib.hid (chip_new ⟨l.toArray⟩ wr (by simpa [ByteArray.size] using hll))
        have HRF := Lib.hid (fun w => ref_new ⟨l.toArray⟩ w (by simpa [ByteArray.size] using hll))
        have hB2 := fun w2 (u : Upd none' wr w2) cap => run_string_buf (hB.upd u (fun f => f)) 23 5 9 Tryz.underlying23 Tryz.underlying5 Tryz.underlying9 4096 cap hll
        have HB2 := Lib.hid hB2
        clear hB2
        have HU := Lib.hid hU
        have HL := Lib.hid hfin
        clear hB hU hfin hl
        go_wp2_with (first | (go_at_call 15; refine (HRF.out _).mono ?_; rintro e w3 ⟨r, v, rfl, hr, hBr, hRv, hv, hU3⟩) | (go_at_call 14; refine HN.out.mono ?_; rintro e w2 ⟨b, S, rfl, hA, hS, hU2⟩; have hst2 := HB2.out _ hU2))
        go_ret2
        have hlt := hA.lt
        have hsz := HU.out.size
        have hsz2 := hU2.size
        refine ⟨b, S, r, v, rfl, by rw [← HL.out]; exact hA.upd hU3 (fun _ _ f => f), fun k hk => ?_, by rw [← HL.out]; exact ⟨hBr, hRv, fun k hk => (hv k hk).2⟩, ⟨by omega, fun hs => ?_⟩, fun k hk => ⟨?_, fun hs => ?_⟩, (HU.out.trans hU2 (fun _ _ f => f)).trans hU3 (fun _ _ f => f)⟩
        · have := hS k hk; omega
        · have := hlt r hs; omega
        · have := (hv k hk).1; omega
        · have := hlt k hs; have := (hv k hk).1; omega
theorem c_twins16 {w0 w : World} (h : Upd none' w0 w) (s : ByteArray) (hs : s.size ≤ 9223372036854775807) (fa : ByteArray) (hfa : (⟨(freshL s).toArray⟩ : ByteArray) = fa) :
    Calls Tryz.prog 48 #[.string s] w fun e w' => ∃ b r, e = .returned (.tuple #[.pointer (some ⟨b, 0, none⟩), .pointer (some ⟨r, 0, none⟩)]) ∧ Ctx (ChipP b (St.new fa) 0) .emp w0 w' [] := by
  refine (twins16 s w hs).mono ?_
  rintro e w' ⟨b, S, r, v, rfl, hA, hS, -, -, -, hU⟩
  rw [hfa] at hA
  have hsz : fa.size = 4096 := by rw [← hfa]; simpa [ByteArray.size] using freshL_len s
  exact ⟨b, r, rfl, chipP_ok _ _ _, Own.emp_ok, h.trans hU (fun _ _ f => f), S, ⟨S, none', ⟨hA, new_inv fa hsz⟩, fun _ f => f, fun _ _ f => f, fun k => ⟨.inl, fun h => h.elim (fun x => x) (fun f => f.elim)⟩⟩, fun k hk => Nat.le_trans h.size (hS k hk), fun r hr => by simp at hr⟩
end Go.Proofs.YteombggfmeilaaaGreat
/- Awake16. -/
namespace Go.Proofs.YteombggfmeilaaaGreat
open Go.RowKit
theorem fr_xyz : (freshL ⟨#[120, 121, 122]⟩).getD 4094 0 = 122 ∧ (freshL ⟨#[120, 121, 122]⟩).getD 4095 0 = 120 := by
  unfold freshL
  rw [if_neg (by decide)]
  constructor
  all_goals
    rw [List.getD_eq_getElem?_getD, List.getElem?_map, List.getElem?_range (by decide)]
    kernel_rfl
theorem xyz_two (fa : ByteArray) (h : (⟨(freshL ⟨#[120, 121, 122]⟩).toArray⟩ : ByteArray) = fa) : (⟨(fetched fa 4094 2).toArray⟩ : ByteArray) = ⟨#[122, 120]⟩ := by
  obtain ⟨h1, h2⟩ := fr_xyz
  have e : fetched fa 4094 2 = [122, 120] := by
    show [fa.data.toList.getD 4094 0, fa.data.toList.getD 4095 0] = _
    rw [← h]
    dsimp only
    rw [h1, h2]
  rw [e]
set_option maxRecDepth 100000 in
set_option maxHeartbeats 8000000 in
theorem awake16 (w : World) :
    Calls Tryz.prog 47 #[] w fun e w' => e = .returned (.bool true) ∧ Upd none' w w' := by
  obtain ⟨fa, hfa⟩ : ∃ fa : ByteArray, (⟨(freshL ⟨#[120, 121, 122]⟩).toArray⟩ : ByteArray) = fa := ⟨_, rfl⟩
  have HFA := Lib.hid hfa
  clear hfa
  go_enter Tryz.func47, Tryz.ntmps47
  go_upto_region 2 with (go_at_call 48; refine (c_twins16 (Upd.refl none' w) _ (by decide) fa HFA.out).mono ?_; rintro e w1 ⟨b, r, rfl, hC1⟩)
  have HN := Lib.hid (rdy_new Own.emp_ok (at_new fa) hC1 (Int.le_refl 0) (by decide))
  clear hC1
  go_upto_region 5 with (first | (go_at_call 49; refine HN.out.mono ?_; rintro e w2 ⟨k, fo, fi, rfl, hR2⟩) | (go_at_call 16; refine (num_any _ _).mono ?_; rintro e w' ⟨rfl, rfl⟩))
  have HE := Lib.hid (rdy_en hR2 rfl rfl (by decide))
  clear hR2
  go_upto_region 6 with (go_at_call 50; refine HE.out.mono ?_; rintro e w3 ⟨oa3, oc3, rfl, hR3⟩)
  have HP := Lib.hid (rdy_put hR3 rfl rfl rfl (by decide))
  clear hR3
  go_upto_region 7 with (go_at_call 50; refine HP.out.mono ?_; rintro e w4 ⟨oa4, oc4, rfl, hR4⟩)
  have hf := rdy_fetch hR4 rfl rfl rfl fa rfl 4094 2 (by decide) (by decide) (by decide) (by decide)
  rw [xyz_two fa HFA.out] at hf
  have HF := Lib.hid hf
  have HZ := Lib.hid (fetch_zero k 4096 (by decide))
  have HO := Lib.hid (fetch_no k 4095 2 (by decide))
  have HL := Lib.hid (fetch_nil 0 1)
  clear hf hR4 HE HP HN
  go_upto_region 8 with (go_at_call 51; refine HF.out.mono ?_; rintro e w5 ⟨rfl, hR5⟩)
  have HU := Lib.hid hR5.up
  clear hR5 HF
  go_upto_region 9 with (go_at_call 51; refine (HZ.out _).mono ?_; rintro e w6 ⟨rfl, rfl⟩)
  go_upto_region 10 with (go_at_call 51; refine (HO.out _).mono ?_; rintro e w7 ⟨rfl, rfl⟩)
  go_upto_region 11 with (go_at_call 51; refine (HL.out _).mono ?_; rintro e w8 ⟨rfl, rfl⟩)
  clear HZ HO HL
  go_wp2_with (go_at_call 16; refine (num_any _ _).mono ?_; rintro e w' ⟨rfl, rfl⟩)
  go_ret
  exact ⟨rfl, HU.out⟩
end Go.Proofs.YteombggfmeilaaaGreat
/- MacF. -/
namespace Go.Proofs.YteombggfmeilaaaGreat
open Go.RowKit
theorem inL_byte (l : Int) (hl : l = 1 ∨ l = 4) (ys : List Int) (hy : ∀ y ∈ ys, 0 ≤ y ∧ y ≤ 15) (hn : ys.length = (8 / l).toNat) : 0 ≤ inL l ys ∧ inL l ys ≤ 255 := by
  rcases hl with rfl | rfl
  · have h8 : ys.length = 8 := hn
    match ys, h8 with
    | [a, b, c, d, e, f, g, h], _ =>
      show 0 ≤ ((((((((0 * 2 + a / 2 % 2) * 2 + b / 2 % 2) * 2 + c / 2 % 2) * 2 + d / 2 % 2) * 2 + e / 2 % 2) * 2 + f / 2 % 2) * 2 + g / 2 % 2) * 2 + h / 2 % 2 : Int) ∧ ((((((((0 * 2 + a / 2 % 2) * 2 + b / 2 % 2) * 2 + c / 2 % 2) * 2 + d / 2 % 2) * 2 + e / 2 % 2) * 2 + f / 2 % 2) * 2 + g / 2 % 2) * 2 + h / 2 % 2 : Int) ≤ 255
      omega
  · have h2 : ys.length = 2 := hn
    match ys, h2 with
    | [a, b], _ =>
      have h1 := hy a (by simp)
      have h2 := hy b (by simp)
      show 0 ≤ ((0 * 16 + a) * 16 + b : Int) ∧ ((0 * 16 + a) * 16 + b : Int) ≤ 255
      omega
def Bytes (l : List Int) : Prop := ∀ x ∈ l, 0 ≤ x ∧ x ≤ 255
theorem get_bytes (d : Drv) (l : Int) (hl : l = 1 ∨ l = 4) (h : Bytes d.out) : Bytes (d.get l).1.out := by
  obtain ⟨h1, -, -, h4, -⟩ := run_keep (List.replicate (8 / l).toNat 15) d
  unfold Drv.get
  split
  · rename_i hok
    intro x hx
    dsimp only at hx
    rcases List.mem_append.1 hx with hx | hx
    · exact h x hx
    · rw [List.mem_singleton] at hx
      subst hx
      exact inL_byte l hl _ (run_bd _ d) (by rw [h4 hok, List.length_replicate])
  · dsimp only
    rw [h1]
    exact h
theorem gets_bytes (l : Int) (hl : l = 1 ∨ l = 4) (n : Nat) : ∀ d : Drv, Bytes d.out → Bytes (d.gets l n).1.out := by
  induction n with
  | zero => intro d h; exact h
  | succ n ih =>
    intro d h
    rw [Drv.gets]
    split
    · exact ih _ (get_bytes d l hl h)
    · exact get_bytes d l hl h
theorem phase_bytes (d : Drv) (p : Ph) (hp : p.may = true) (h : Bytes d.out) : Bytes (d.phase p).1.out := by
  have hk := (run_keep p.says d).1
  unfold Drv.phase
  split
  · rcases may_facts hp with ⟨h1, -⟩ | ⟨-, -, h3, -⟩
    · exact gets_bytes _ h1 _ _ (by rw [hk]; exact h)
    · rw [h3]
      show Bytes (d.run p.says).1.out
      rw [hk]
      exact h
  · dsimp only
    rw [hk]
    exact h
theorem phases_bytes (ps : List Ph) : ∀ d : Drv, ps.all Ph.may = true → Bytes d.out → Bytes (d.phases ps).1.out := by
  induction ps with
  | nil => intro d _ h; exact h
  | cons p ps ih =>
    intro d hp h
    rw [List.all_cons, Bool.and_eq_true] at hp
    rw [Drv.phases]
    split
    · exact ih _ hp.2 (phase_bytes d p hp.1 h)
    · exact phase_bytes d p hp.1 h
theorem go_bytes (m : Mac) (c at_ : Int) (data : List Int) (read : Int) (hp : (cmdPhs (opOf c) at_ data read).all Ph.may = true) : Bytes (m.go c at_ data read).2.2 := by
  cases hl : m.K.lost with
  | true => rw [go_lost hl]; intro x hx; cases hx
  | false =>
    obtain ⟨⟨d, wh⟩, hd⟩ : ∃ r, m.drv (cmdPhs (opOf c) at_ data read) = r := ⟨_, rfl⟩
    cases wh with
    | false => rw [go_part hl hd]; intro x hx; cases hx
    | true =>
      rw [go_whole hl hd]
      have h1 := phases_bytes (cmdPhs (opOf c) at_ data read) ⟨m.s.select, [], 0, m.K.left⟩ hp (fun x hx => by cases hx)
      have h2 : Drv.phases ⟨m.s.select, [], 0, m.K.left⟩ (cmdPhs (opOf c) at_ data read) = (d, true) := hd
      rw [h2] at h1
      exact h1
theorem bytes_ints {l : List Int} (h : Bytes l) : ∃ bs : List UInt8, l = intsOf bs ∧ bs.length = l.length := by
  refine ⟨l.map fun x => UInt8.ofNat x.toNat, ?_, by rw [List.length_map]⟩
  unfold intsOf
  rw [List.map_map]
  conv => lhs; rw [← List.map_id l]
  refine List.map_congr_left fun x hx => ?_
  have := h x hx
  show x = (((UInt8.ofNat x.toNat).toNat : Nat) : Int)
  rw [UInt8.toNat_ofNat']
  omega
end Go.Proofs.YteombggfmeilaaaGreat
/- MacG. -/
namespace Go.Proofs.YteombggfmeilaaaGreat
open Go.RowKit
def textB (l : List Int) : ByteArray := ⟨(l.map fun x => UInt8.ofNat x.toNat).toArray⟩
theorem textB_of {l : List Int} {bs : List UInt8} (h : l = intsOf bs) : textB l = ⟨bs.toArray⟩ := by
  subst h
  unfold textB intsOf
  rw [List.map_map]
  congr 2
  conv => rhs; rw [← List.map_id bs]
  refine List.map_congr_left fun x _ => ?_
  show UInt8.ofNat (((x.toNat : Nat) : Int).toNat) = x
  rw [Int.toNat_natCast]
  exact UInt8.ofNat_toNat
def Mac.fetch (m : Mac) (at_ k : Int) : Mac × List Int × Int :=
  if fmayB at_ k = false then (m, [], 1600)
  else if k = 0 then (m, [], 0)
  else ((m.go 107 at_ [] k).1, (m.go 107 at_ [] k).2.2, (m.go 107 at_ [] k).2.1)
theorem quad_may2 (at_ : Int) (m : Nat) (h : fmayB at_ (m : Int) = true) (h1 : 1 ≤ m) : cmdMay (opOf 107) at_ [] m = true := by
  have hmb := of_decide_eq_true h
  have e : opOf 107 = ⟨107, 1, false, 8, 4, false⟩ := by kernel_rfl
  rw [e]
  unfold cmdMay fitsB
  simp
  omega
theorem quad_reads (k : Int) (m : Nat) (hm : 1 ≤ m) : phsReads (cmdPhs (opOf 107) k [] m) = m := by
  rw [quad_phs k m hm]
  unfold phsReads
  simp
set_option maxRecDepth 100000 in
set_option maxHeartbeats 4000000 in
theorem p_fetch {Q : Own} {b k fo fi : Nat} {m : Mac} {n : Int} {w0 w : World} {rows : List (Value × List Value)} (h : Ctx (ProgP b k fo fi m n) Q w0 w rows) (at_ : Int) (q : Nat) (hm1 : 1 ≤ q) (hmay : fmayB at_ (q : Int) = true) (hn : n + (41 + 2 * (q : Int)) ≤ 1048575) :
    Calls Tryz.prog 51 #[.pointer (some ⟨k, 0, none⟩), .int .i64 at_, .int .i64 (q : Int)] w fun e w' => e = .returned (.tuple #[.string (textB (m.go 107 at_ [] q).2.2), .int .i64 (m.go 107 at_ [] q).2.1]) ∧ Ctx (ProgP b k fo fi (m.go 107 at_ [] q).1 (n + (41 + 2 * (q : Int)))) Q w0 w' rows := by
  have hmb := of_decide_eq_true hmay
  have hma := fetch_may at_ q
  rw [hmay] at hma
  have hcm := quad_may2 at_ q hmay hm1
  have hrun := p_go h.nilrow 107 (by decide) (by decide) at_ none 0 [] List.mem_cons_self (q : Int) hcm (40 + 2 * (q : Int)) (by rw [quad_many at_ q hm1]; omega) (by omega) (m.go 107 at_ [] q).1 (m.go 107 at_ [] q).2.1 (m.go 107 at_ [] q).2.2 rfl
  rw [show n + (40 + 2 * (q : Int)) + 1 = n + (41 + 2 * (q : Int)) by omega] at hrun
  have hcode := go_code m 107 at_ [] q
  obtain ⟨bs, hbs, hbl0⟩ := bytes_ints (go_bytes m 107 at_ [] q (cmd_all 107 (by decide) at_ [] q hcm))
  rw [textB_of hbs]
  rw [quad_reads at_ q hm1] at hcode
  obtain ⟨⟨m', e1, out⟩, hg⟩ : ∃ r, m.go 107 at_ [] q = r := ⟨_, rfl⟩
  rw [hg] at hrun hcode hbs hbl0 ⊢
  dsimp only at hrun hcode hbs hbl0 ⊢
  have hm0 : (q : Int) ≠ 0 := by omega
  have hmz : ((q : Int) == 0) = false := by simp; omega
  rcases hcode with ⟨rfl, hlen⟩ | ⟨rfl, hlen⟩
  · have hbl : bs.length = q := by omega
    rw [hlen, hbs] at hrun
    have hrun' : Calls Tryz.prog 50 #[.pointer (some ⟨k, 0, none⟩), .int .i64 107, .int .i64 at_, .slice none 0 0, .int .i64 (q : Int)] w fun e w' => ∃ oa oc, e = .returned (.tuple #[.slice oa q oc, .int .i64 0]) ∧ Ctx (ProgP b k fo fi m' (n + (41 + 2 * (q : Int)))) Q w0 w' ((.slice oa q oc, ints (intsOf bs)) :: (.slice none 0 0, ints []) :: rows) := hrun
    have HRUN := Lib.hid hrun'
    have hmk := make_bytesN q (by omega)
    have hbi : (intsOf bs).length = q := by unfold intsOf; rw [List.length_map, hbl]
    clear hrun hrun' hcm hbs hlen hmay h hg hbl0
    go_enter Tryz.func51, Tryz.ntmps51
    go_wp2_with (first | (go_at_call 129; refine (hma _).mono ?_; rintro e w1 ⟨rfl, rfl⟩) | (go_at_call 50; refine HRUN.out.mono ?_; rintro e w2 ⟨oa, oc, rfl, hC2⟩))
    clear hma hmk
    obtain ⟨gx, ox, rfl, hgx, hcc⟩ := (hC2.rs_mem List.mem_cons_self).cells (by omega)
    have hBz : Buf (w2.alloc (.cells (bytesV (List.replicate q 0)).toArray 5)) w2.heap.size (List.replicate q 0) 5 := ⟨[], (0, 0), by rw [List.append_nil]; exact heap_alloc_new w2 _, .inl rfl⟩
    have hUz := (Upd.refl none' w2).alloc (.cells (bytesV (List.replicate q 0)).toArray 5)
    have HC2 := Lib.hid hC2
    clear hC2
    go_loopw [39] (fun iv wr => ∃ (i : Nat) (l : List UInt8), i ≤ q ∧ iv = .int .i64 (i : Int) ∧ Upd none' w2 wr ∧ Buf wr w2.heap.size l 5 ∧ Hid (l = bs.take i ++ List.replicate (q - i) 0)) (fun iv _ => q - (intOf iv).toNat)
    case atStart => exact ⟨0, List.replicate q 0, by omega, rfl, hUz, hBz, Lib.hid (by rw [List.take_zero, List.nil_append, Nat.sub_zero])⟩
    case round =>
      clear hBz hUz
      rename World => W2
      obtain ⟨i, l, hi, rfl, hU, hB, hl⟩ := hrel
      have hll : l.length = q := by rw [hl.out, List.length_append, List.length_take, List.length_replicate]; omega
      by_cases hlt : i < q
      · obtain ⟨c, hcv⟩ : ∃ c, bs.getD i 0 = c := ⟨_, rfl⟩
        have hcell : W2.cell? ⟨gx, ox + i, none⟩ = some (.int .i64 ((c.toNat : Nat) : Int)) := by
          rw [hU.cell (p := ⟨gx, ox + i, none⟩) hgx (fun f => f), hcc i hlt, ints_at _ _ (by omega)]
          unfold intsOf
          rw [List.getD_eq_getElem?_getD, List.getElem?_map, List.getElem?_eq_getElem (show i < bs.length by omega), ← hcv]
          simp [List.getD_eq_getElem?_getD, List.getElem?_eq_getElem (show i < bs.length by omega)]
        have hcb := c.toNat_lt
        have hw8 : IntKind.u8.wrap ((c.toNat : Nat) : Int) = ((c.toNat : Nat) : Int) := by rw [IntKind.wrap_u8]; omega
        have hbc := hB.cell (j := i) (by omega)
        have hbf := hB.frozen (j := i) (by omega)
        have hset := hB.set (j := i) (by omega) c
        have hst := fetch_step bs l i q hbl hlt hl.out
        rw [hcv] at hst
        rw [hst] at hset
        have HSET := Lib.hid hset
        have HU := Lib.hid (hU.setCell ⟨w2.heap.size, i, none⟩ (.int .u8 c.toNat) (fun h => absurd h (Nat.lt_irrefl _)))
        clear hset hst hB hU hcv
        go_wp2
        refine ⟨?rel, ?measure⟩
        case rel => exact ⟨i + 1, _, by omega, by go_num, HU.out, HSET.out, Lib.hid rfl⟩
        case measure => simp [intOf]; omega
      · obtain rfl : i = q := by omega
        have hle : l = bs := by rw [hl.out, Nat.sub_self, List.replicate_zero, List.append_nil, List.take_of_length_le (by omega)]
        subst hle
        have hst := fun cap => run_string_buf (P := Tryz.prog) hB 23 5 9 Tryz.underlying23 Tryz.underlying5 Tryz.underlying9 i cap hll
        have HU := Lib.hid hU
        clear hB hU
        go_wp2
        go_ret2
        exact ⟨rfl, (HC2.out.frame HU.out).tl.tl⟩
  · subst hlen
    have hb0 : bs = [] := List.eq_nil_of_length_eq_zero hbl0
    subst hb0
    have hrun' : Calls Tryz.prog 50 #[.pointer (some ⟨k, 0, none⟩), .int .i64 107, .int .i64 at_, .slice none 0 0, .int .i64 (q : Int)] w fun e w' => ∃ oa oc, e = .returned (.tuple #[.slice oa 0 oc, .int .i64 1101]) ∧ Ctx (ProgP b k fo fi m' (n + (41 + 2 * (q : Int)))) Q w0 w' ((.slice oa 0 oc, ints []) :: (.slice none 0 0, ints []) :: rows) := hrun
    have HRUN := Lib.hid hrun'
    clear hrun hrun' hcm hbs hmay h hg hbl0
    go_enter Tryz.func51, Tryz.ntmps51
    go_wp2_with (first | (go_at_call 129; refine (hma _).mono ?_; rintro e w1 ⟨rfl, rfl⟩) | (go_at_call 50; refine HRUN.out.mono ?_; rintro e w2 ⟨oa, oc, rfl, hC2⟩))
    go_ret2
    exact ⟨rfl, hC2.tl.tl⟩
end Go.Proofs.YteombggfmeilaaaGreat
/- MacT. -/
namespace Go.Proofs.YteombggfmeilaaaGreat
open Go.RowKit
theorem info_u8 : (Tryz.prog.info? 5).map (fun i => (i.zero, i.size, i.bytes)) = some (some (.int .u8 0), 1, 1) := by kernel_rfl
theorem bytesV_len (l : List UInt8) : (bytesV l).length = l.length := by unfold bytesV; rw [List.length_map]
theorem run_string_row {P : Program} {w : World} {a : Option Addr} {cap : Nat} {l : List UInt8} {n : Nat} (h : RS w (.slice a n cap) (bytesV l)) (hn : l.length = n) (h0 : 0 < n) (src e dst : TypeId) (hs : P.underlying src = some (.slice e)) (he : P.underlying e = some (.int .u8)) (hd : P.underlying dst = some .string) :
    ∃ g o, a = some ⟨g, o, none⟩ ∧ (convert src dst (.slice (some ⟨g, o, none⟩) n cap)).run P w = .ok (.string ⟨l.toArray⟩) w := by
  obtain ⟨g, o, rfl, -, hc⟩ := h.cells h0
  refine ⟨g, o, rfl, ?_⟩
  have := Go.run_convert_bytes_arg (P := P) w src e hs he g o n cap (l.map fun c => (c.toNat : Int)) (by simpa using hn) (fun i hi => by
    rw [hc i hi]
    unfold bytesV
    rw [List.getElem?_map]
    simp [List.getD_eq_getElem?_getD, List.getElem?_eq_getElem (show i < l.length by omega)]) dst hd
  rw [str_of_bytes] at this
  exact this
theorem run_string_nil (a : Option Addr) (cap : Nat) (w : World) (h : Row w 5 (.slice a 0 cap) (bytesV [])) : (convert 23 9 (.slice a 0 cap)).run Tryz.prog w = .ok (.string ⟨#[]⟩) w := by
  obtain ⟨h1, h2⟩ := h
  rcases h2 with h2 | ⟨g, cap', cur, hv, -⟩
  · rw [h2.1]
    kernel_rfl
  · simp only [Value.slice.injEq] at hv
    obtain ⟨rfl, -, rfl⟩ := hv
    exact run_convert_bytes_arg (P := Tryz.prog) w 23 5 Tryz.underlying23 Tryz.underlying5 g 0 0 _ [] rfl (fun i hi => absurd hi (Nat.not_lt_zero i)) 9 Tryz.underlying9
set_option maxRecDepth 100000 in
set_option maxHeartbeats 4000000 in
theorem ref_text (w : World) (a : Option Addr) (n cap : Nat) (bs : List UInt8) (h : RS w (.slice a n cap) (ints (intsOf bs))) (hl : bs.length = n) (hb : n ≤ 4096) :
    Calls Tryz.prog 132 #[.slice a n cap] w fun e w' => e = .returned (.string ⟨bs.toArray⟩) ∧ Upd none' w w' := by
  have HR := Lib.hid h
  have hbi : (intsOf bs).length = n := by unfold intsOf; rw [List.length_map, hl]
  clear h
  go_enter Tryz.func132, Tryz.ntmps132
  go_wp2
  go_loopw [3, 4] (fun ov iv wr => ∃ i : Nat, i ≤ n ∧ iv = .int .i64 (i : Int) ∧ Row wr 5 ov (bytesV (bs.take i)) ∧ (∀ k, ov.ownBlock = some k → w.heap.size ≤ k) ∧ Upd none' w wr) (fun _ iv _ => n - (intOf iv).toNat)
  case atStart => exact ⟨0, Nat.zero_le _, rfl, by rw [List.take_zero]; exact Row.nil _ _, fun k hk => (by simp [Value.ownBlock] at hk), Upd.refl _ _⟩
  case round =>
    rename World => W2
    obtain ⟨i, hi, rfl, hrow2, hown2, hU2⟩ := hrel
    obtain ⟨oa2, oc2, rfl, -⟩ := hrow2.form
    have hol2 : (bytesV (bs.take i)).length = i := by rw [bytesV_len, List.length_take]; omega
    rw [hol2] at hrow2 hown2 ⊢
    by_cases hlt : i < n
    · obtain ⟨gx, ox, rfl, hgx, hcc⟩ := HR.out.cells (by omega)
      obtain ⟨c, hcv⟩ : ∃ c, bs.getD i 0 = c := ⟨_, rfl⟩
      have hcell : W2.cell? ⟨gx, ox + i, none⟩ = some (.int .i64 ((c.toNat : Nat) : Int)) := by
        rw [hU2.cell (p := ⟨gx, ox + i, none⟩) hgx (fun f => f), hcc i hlt, ints_at _ _ (by omega)]
        unfold intsOf
        rw [List.getD_eq_getElem?_getD, List.getElem?_map, List.getElem?_eq_getElem (show i < bs.length by omega), ← hcv]
        simp [List.getD_eq_getElem?_getD, List.getElem?_eq_getElem (show i < bs.length by omega)]
      have hcb := c.toNat_lt
      have hw8 : IntKind.u8.wrap ((c.toNat : Nat) : Int) = ((c.toNat : Nat) : Int) := by rw [IntKind.wrap_u8]; omega
      have HX : Hid (bytesV (bs.take (i + 1)) = bytesV (bs.take i) ++ [.int .u8 ((c.toNat : Nat) : Int)]) := Lib.hid (by
        rw [List.take_add_one, ← hcv]
        unfold bytesV
        rw [List.map_append]
        simp [List.getD_eq_getElem?_getD, List.getElem?_eq_getElem (show i < bs.length by omega)])
      have HROW2 := Lib.hid hrow2
      have HOWN2 := Lib.hid hown2
      have HU2 := Lib.hid hU2
      have HOL := Lib.hid hol2
      clear hrow2 hown2 hU2 hol2 hcc hgx hcv
      go_wp2_with (at_builtin; go_must (refine wpList_app1 rfl _ _ 23 rfl 5 (.int .u8 0) 1 Tryz.underlying23 info_u8 rfl _ (bytesV (bs.take i)) i HOL.out rfl W2 (.int .u8 ((c.toNat : Nat) : Int)) ⟨rfl, rfl, rfl⟩ HROW2.out rfl rfl (by omega) (by omega) ?_); intro g cap w3 hR3 hU3 hg3 hgs3)
      refine ⟨?rel, ?measure⟩
      case rel =>
        have hg : w.heap.size ≤ g := by
          rcases hg3 with e | e
          · exact HOWN2.out g e
          · have := HU2.out.size; omega
        refine ⟨i + 1, by omega, by go_num, ?_, ?_, ?_⟩
        · rw [HX.out]
          exact hR3
        · intro k hk
          simp [Value.ownBlock] at hk
          rw [← hk]
          exact hg
        · exact HU2.out.trans hU3 (fun k h1 h2 => absurd (HOWN2.out k h2) (by omega))
      case measure => simp [intOf]; omega
    · obtain rfl : n = i := by omega
      have HU2 := Lib.hid hU2
      rw [List.take_of_length_le (by omega)] at hrow2 hol2
      by_cases h0 : 0 < n
      · obtain ⟨g2, o2, rfl, hcv⟩ := run_string_row (hrow2.rs (by rw [bytesV_len]; omega)) hl h0 23 5 9 Tryz.underlying23 Tryz.underlying5 Tryz.underlying9
        clear hrow2 hown2 hU2 hol2
        go_wp2
        go_ret
        exact ⟨rfl, HU2.out⟩
      · obtain rfl : n = 0 := by omega
        have hb0 : bs = [] := List.eq_nil_of_length_eq_zero hl
        subst hb0
        have hcv := run_string_nil oa2 oc2 W2 hrow2
        clear hrow2 hown2 hU2 hol2
        go_wp2
        go_ret
        exact ⟨rfl, HU2.out⟩
end Go.Proofs.YteombggfmeilaaaGreat
/- MacU. -/
namespace Go.Proofs.YteombggfmeilaaaGreat
open Go.RowKit
set_option maxRecDepth 100000 in
set_option maxHeartbeats 4000000 in
theorem d_fetch {Q : Own} {b k : Nat} {m : Mac} {n : Int} {w0 w : World} {rows : List (Value × List Value)} (h : Ctx (DocP b k m n) Q w0 w rows) (at_ : Int) (q : Nat) (hm1 : 1 ≤ q) (hmay : fmayB at_ (q : Int) = true) (hn : n + (41 + 2 * (q : Int)) ≤ 1048575) :
    Calls Tryz.prog 56 #[.pointer (some ⟨k, 0, none⟩), .int .i64 at_, .int .i64 (q : Int)] w fun e w' => e = .returned (.tuple #[.string (textB (m.go 107 at_ [] q).2.2), .int .i64 (m.go 107 at_ [] q).2.1]) ∧ Ctx (DocP b k (m.go 107 at_ [] q).1 (n + (41 + 2 * (q : Int)))) Q w0 w' rows := by
  have hmb := of_decide_eq_true hmay
  have hma := ref_within at_ q
  rw [hmay] at hma
  have hcm := quad_may2 at_ q hmay hm1
  have hrun := d_go h.nilrow 107 (by decide) (by decide) at_ none 0 [] List.mem_cons_self (q : Int) hcm (40 + 2 * (q : Int)) (by rw [quad_many at_ q hm1]; omega) (by omega) (m.go 107 at_ [] q).1 (m.go 107 at_ [] q).2.1 (m.go 107 at_ [] q).2.2 rfl
  rw [show n + (40 + 2 * (q : Int)) + 1 = n + (41 + 2 * (q : Int)) by omega] at hrun
  have hcode := go_code m 107 at_ [] q
  obtain ⟨bs, hbs, hbl0⟩ := bytes_ints (go_bytes m 107 at_ [] q (cmd_all 107 (by decide) at_ [] q hcm))
  rw [textB_of hbs]
  rw [quad_reads at_ q hm1] at hcode
  obtain ⟨⟨m', e1, out⟩, hg⟩ : ∃ r, m.go 107 at_ [] q = r := ⟨_, rfl⟩
  rw [hg] at hrun hcode hbs hbl0 ⊢
  dsimp only at hrun hcode hbs hbl0 ⊢
  have hm0 : (q : Int) ≠ 0 := by omega
  have hmz : ((q : Int) == 0) = false := by simp; omega
  obtain ⟨z, hz⟩ : ∃ z, out.length = z := ⟨_, rfl⟩
  rw [hz] at hrun hbl0
  have hz2 : z ≤ 4096 := by
    rcases hcode with ⟨-, hl⟩ | ⟨-, hl⟩
    · omega
    · rw [hl] at hz; simp at hz; omega
  have HRUN := Lib.hid hrun
  have HT : Hid (∀ w1 a cap, RS w1 (.slice a z cap) (ints out) → Calls Tryz.prog 132 #[.slice a z cap] w1 fun e w' => e = .returned (.string ⟨bs.toArray⟩) ∧ Upd none' w1 w') := Lib.hid (fun w1 a cap hr => ref_text w1 a z cap bs (by rw [← hbs]; exact hr) hbl0 hz2)
  clear hrun hcm hbs hmay h hg hbl0 hcode hz hz2
  go_enter Tryz.func56, Tryz.ntmps56
  go_wp2_with (first | (go_at_call 132; refine (HT.out _ _ _ hr2).mono ?_; rintro e w3 ⟨rfl, hU3⟩) | (go_at_call 53; refine HRUN.out.mono ?_; rintro e w2 ⟨oa, oc, rfl, hC2⟩; have hr2 := hC2.rs 0 rfl; have HC2 := Lib.hid hC2; clear hC2) | (go_at_call 131; refine (hma _).mono ?_; rintro e w1 ⟨rfl, rfl⟩))
  go_ret2
  exact ⟨rfl, (HC2.out.frame hU3).tl.tl⟩
theorem ref_fetch_no (k : Nat) (at_ n : Int) (h : fmayB at_ n = false) (w : World) : Calls Tryz.prog 56 #[.pointer (some ⟨k, 0, none⟩), .int .i64 at_, .int .i64 n] w fun e w' => e = .returned (.tuple #[.string ⟨#[]⟩, .int .i64 1600]) ∧ w = w' := by
  have hma := ref_within at_ n
  rw [h] at hma
  clear h
  go_enter Tryz.func56, Tryz.ntmps56
  go_wp2_with (go_at_call 131; refine (hma _).mono ?_; rintro e w1 ⟨rfl, rfl⟩)
  go_ret2
  exact ⟨rfl, rfl⟩
theorem ref_fetch_zero (k : Nat) (at_ : Int) (h : fmayB at_ 0 = true) (w : World) : Calls Tryz.prog 56 #[.pointer (some ⟨k, 0, none⟩), .int .i64 at_, .int .i64 0] w fun e w' => e = .returned (.tuple #[.string ⟨#[]⟩, .int .i64 0]) ∧ w = w' := by
  have hma := ref_within at_ 0
  rw [h] at hma
  clear h
  go_enter Tryz.func56, Tryz.ntmps56
  go_wp2_with (go_at_call 131; refine (hma _).mono ?_; rintro e w1 ⟨rfl, rfl⟩)
  go_ret2
  exact ⟨rfl, rfl⟩
theorem p_fetchAll {Q : Own} {b k fo fi : Nat} {m : Mac} {n : Int} {w0 w : World} {rows : List (Value × List Value)} (h : Ctx (ProgP b k fo fi m n) Q w0 w rows) (at_ q : Int) (hn : n + 1065 ≤ 1048575) :
    Calls Tryz.prog 51 #[.pointer (some ⟨k, 0, none⟩), .int .i64 at_, .int .i64 q] w fun e w' => e = .returned (.tuple #[.string (textB (m.fetch at_ q).2.1), .int .i64 (m.fetch at_ q).2.2]) ∧ Ctx (ProgP b k fo fi (m.fetch at_ q).1 (n + 1065)) Q w0 w' rows := by
  unfold Mac.fetch
  cases hf : fmayB at_ q with
  | false =>
    rw [if_pos rfl]
    refine (fetch_no k at_ q hf w).mono ?_
    rintro e w' ⟨rfl, rfl⟩
    exact ⟨rfl, progP_mono h (by omega)⟩
  | true =>
    have hb := of_decide_eq_true hf
    rw [if_neg (by decide)]
    by_cases h0 : q = 0
    · subst h0
      rw [if_pos rfl]
      refine (fetch_zero k at_ hf w).mono ?_
      rintro e w' ⟨rfl, rfl⟩
      exact ⟨rfl, progP_mono h (by omega)⟩
    · rw [if_neg h0]
      obtain ⟨z, rfl⟩ : ∃ z : Nat, q = (z : Int) := ⟨q.toNat, by omega⟩
      refine (p_fetch h at_ z (by omega) hf (by omega)).mono ?_
      rintro e w' ⟨rfl, h2⟩
      exact ⟨rfl, progP_mono h2 (by omega)⟩
theorem d_fetchAll {Q : Own} {b k : Nat} {m : Mac} {n : Int} {w0 w : World} {rows : List (Value × List Value)} (h : Ctx (DocP b k m n) Q w0 w rows) (at_ q : Int) (hn : n + 1065 ≤ 1048575) :
    Calls Tryz.prog 56 #[.pointer (some ⟨k, 0, none⟩), .int .i64 at_, .int .i64 q] w fun e w' => e = .returned (.tuple #[.string (textB (m.fetch at_ q).2.1), .int .i64 (m.fetch at_ q).2.2]) ∧ Ctx (DocP b k (m.fetch at_ q).1 (n + 1065)) Q w0 w' rows := by
  unfold Mac.fetch
  cases hf : fmayB at_ q with
  | false =>
    rw [if_pos rfl]
    refine (ref_fetch_no k at_ q hf w).mono ?_
    rintro e w' ⟨rfl, rfl⟩
    exact ⟨rfl, docP_mono h (by omega)⟩
  | true =>
    have hb := of_decide_eq_true hf
    rw [if_neg (by decide)]
    by_cases h0 : q = 0
    · subst h0
      rw [if_pos rfl]
      refine (ref_fetch_zero k at_ hf w).mono ?_
      rintro e w' ⟨rfl, rfl⟩
      exact ⟨rfl, docP_mono h (by omega)⟩
    · rw [if_neg h0]
      obtain ⟨z, rfl⟩ : ∃ z : Nat, q = (z : Int) := ⟨q.toNat, by omega⟩
      refine (d_fetch h at_ z (by omega) hf (by omega)).mono ?_
      rintro e w' ⟨rfl, h2⟩
      exact ⟨rfl, docP_mono h2 (by omega)⟩
end Go.Proofs.YteombggfmeilaaaGreat
