/- The walks over lichenref1's bit, EraseCut, Erase. · The walks over lichenref1's ProgramCut. -/
import Derived.Test.YteombggfmeilaaaGreatChipA
namespace Go.Proofs.YteombggfmeilaaaGreat
open Go.RowKit
theorem ref_bit (s : ByteArray) (i : Nat) (w : World) (hi : i ≤ 100000) (hs : s.size ≤ 9223372036854775807) :
    Calls Tryz.prog 166 #[.string s, .int .i64 i] w fun e w' => e = .returned (.int .u8 (maskAt s i).toNat) ∧ w = w' := by
  by_cases h0 : s.size = 0
  · have hs0 : s = ⟨#[]⟩ := by
      obtain ⟨d⟩ := s
      simp only [ByteArray.size] at h0
      rw [Array.eq_empty_of_size_eq_zero h0]
    subst hs0
    have hm : maskAt ⟨#[]⟩ i = 0 := by simp [maskAt, ByteArray.size]
    have HM := Lib.hid hm
    clear hm h0
    go_enter Tryz.func166, Tryz.ntmps166
    go_wp2
    go_ret
    exact ⟨by rw [HM.out]; rfl, rfl⟩
  · have hq : i % s.size < s.size := Nat.mod_lt _ (by omega)
    have hm : maskAt s i = s[i % s.size]'hq := by
      unfold maskAt
      rw [if_neg h0, List.getD_eq_getElem?_getD, List.getElem?_eq_getElem (show i % s.size < s.data.toList.length from hq)]
      rfl
    have HM := Lib.hid hm
    clear hm
    go_enter Tryz.func166, Tryz.ntmps166
    go_wp2
    go_ret
    exact ⟨by rw [HM.out]; rfl, rfl⟩
theorem ref_may (s : ByteArray) (w : World) (hs : s.size = 4096) :
    Calls Tryz.prog 91 #[.string s] w fun e w' => e = .returned (.bool true) ∧ w = w' := by
  go_enter Tryz.func91, Tryz.ntmps91
  go_wp2
  go_ret
  exact ⟨rfl, rfl⟩
set_option maxRecDepth 100000 in
set_option maxHeartbeats 1000000 in
theorem ref_erasecut (a : ByteArray) (sector : Nat) (mask : ByteArray) (w : World) (ha : a.size = 4096) (hse : sector < 8) (hs : mask.size ≤ 9223372036854775807) :
    Calls Tryz.prog 108 #[.string a, .int .i64 sector, .string mask] w fun e w' => e = .returned (.tuple #[.string (eraseCut a sector mask), .int .i64 0]) ∧ Upd none' w w' := by
  have kc := Lib.run_convert_string_bytes (P := Tryz.prog) w 9 23 5 a Tryz.underlying9 Tryz.underlying23 Tryz.underlying5
  have hasz : a.data.toList.length = 4096 := ha
  have HA := Lib.hid hasz
  clear hasz
  obtain ⟨turn, hturn⟩ : ∃ turn : Nat → UInt8 → UInt8, turn = fun i old => old ||| maskAt mask i := ⟨_, rfl⟩
  have HT := Lib.hid hturn
  have hre : eraseCut a sector mask = ⟨(turnL a.data.toList (sector * 512) 512 turn).toArray⟩ := by rw [hturn]; rfl
  have HRE := Lib.hid hre
  clear hturn hre
  have hmu : IntKind.i64.wrap ((sector : Int) * 512) = ((sector * 512 : Nat) : Int) := by rw [IntWalk.i64_in _ (by omega)]; omega
  have hmu2 : (sector : Int) * 512 = ((sector * 512 : Nat) : Int) := by omega
  obtain ⟨lo, hlo⟩ : ∃ lo, sector * 512 = lo := ⟨_, rfl⟩
  have hlo2 : lo + 512 ≤ 4096 := by omega
  rw [hlo] at hmu hmu2 HRE
  clear hlo
  go_enter Tryz.func108, Tryz.ntmps108
  go_wp2_with (go_at_call 91; refine (ref_may a _ ha).mono ?_; rintro e w' ⟨rfl, rfl⟩)
  go_loopw [10] (fun iv wr => ∃ i : Nat, i ≤ 512 ∧ iv = .int .i64 i ∧ Buf wr w.heap.size (turnL a.data.toList lo i turn) 5 ∧ Upd none' w wr) (fun iv _ => 512 - (intOf iv).toNat)
  case atStart => exact ⟨0, by omega, rfl, by rw [turnL_zero]; exact Buf.of_bytes w _ a, upd_bytes w _ a⟩
  case round =>
    clear kc hmu hmu2
    obtain ⟨i, hi, rfl, hB, hU⟩ := hrel
    have hlen := turnL_len a.data.toList lo i turn
    rw [HA.out] at hlen
    by_cases hlt : i < 512
    · have hstep := turnL_step a.data.toList lo i turn (by rw [HA.out]; omega)
      have hat := turnL_at a.data.toList lo i turn (by rw [HA.out]; omega)
      have hc := hB.cell (j := lo + i) (by rw [hlen]; omega)
      have hf := hB.frozen (j := lo + i) (by rw [hlen]; omega)
      rw [hat] at hc
      obtain ⟨c, hcv⟩ : ∃ c, a.data.toList.getD (lo + i) 0 = c := ⟨_, rfl⟩
      rw [hcv] at hc hstep
      have hti : turn i c = c ||| maskAt mask i := by rw [HT.out]
      have hor := u8_orb c (maskAt mask i)
      rw [← hti] at hor
      have hset := hB.set (j := lo + i) (by rw [hlen]; omega) (turn i c)
      rw [hstep] at hset
      have HS := Lib.hid hset
      have HU := Lib.hid (hU.setCell ⟨w.heap.size, lo + i, none⟩ (.int .u8 (turn i c).toNat) (fun hk => absurd hk (Nat.lt_irrefl _)))
      have hsum : IntKind.i64.wrap ((lo : Int) + (i : Int)) = (lo : Int) + (i : Int) := IntWalk.i64_in _ (by omega)
      have hsn : ((lo : Int) + (i : Int)).toNat = lo + i := by omega
      clear hset hstep hat hcv hti hB hU
      have hbit := fun W => ref_bit mask i W (by omega) hs
      generalize maskAt mask i = mi at *
      have HBIT := Lib.hid hbit
      clear hbit
      go_upto_region 8 with fail
      go_region_with (go_at_call 166; refine (HBIT.out _).mono ?_; rintro e w' ⟨rfl, rfl⟩)
      all_goals
        go_wp2
        refine ⟨?rel, ?measure⟩
        case rel => exact ⟨i + 1, by omega, by go_num, HS.out, HU.out.drew⟩
        case measure => simp [intOf]; omega
    · obtain rfl : i = 512 := by omega
      have kd := fun cap => run_string_buf (P := Tryz.prog) hB 23 5 9 Tryz.underlying23 Tryz.underlying5 Tryz.underlying9 4096 cap hlen
      have HU := Lib.hid hU
      clear hB hU hlen
      go_wp2
      go_ret2
      exact ⟨by rw [HRE.out]; rfl, HU.out⟩
theorem ref_erase (a : ByteArray) (sector : Nat) (w : World) (ha : a.size = 4096) (hse : sector < 8) :
    Calls Tryz.prog 161 #[.string a, .int .i64 sector] w fun e w' => e = .returned (.tuple #[.string (eraseCut a sector all255), .int .i64 0]) ∧ Upd none' w w' := by
  have H := Lib.hid (ref_erasecut a sector all255 w ha hse (by decide))
  go_enter Tryz.func161, Tryz.ntmps161
  go_wp2_with (go_at_call 108; refine H.out.mono ?_; rintro e w1 ⟨rfl, hU⟩)
  go_ret2
  exact ⟨rfl, hU⟩
end Go.Proofs.YteombggfmeilaaaGreat
namespace Go.Proofs.YteombggfmeilaaaGreat
open Go.RowKit
set_option maxRecDepth 100000 in
theorem prog_bits (c m : UInt8) (data : ByteArray) (i : Nat) (h : i < data.size) : bits .andNot .u8 (c.toNat : Int) (bits .and .u8 (bits .xor .u8 IntKind.u8.max ((data[i]'h).toNat : Int)) (m.toNat : Int)) = ((c &&& ~~~(m &&& ~~~(data.data.toList.getD i 0))).toNat : Int) := by
  rw [str_at data i h]
  generalize data[i]'h = d
  have e1 : bits .xor .u8 IntKind.u8.max (d.toNat : Int) = ((~~~d).toNat : Int) := by
    rw [show IntKind.u8.max = ((255 : Nat) : Int) from rfl, u8_xor_nat _ _ (by decide) d.toNat_lt, UInt8.toNat_not]
    have : ∀ k, k < 256 → (255 ^^^ k : Nat) = 255 - k := by decide
    rw [this _ d.toNat_lt]
    rfl
  have e2 : bits .and .u8 ((~~~d).toNat : Int) (m.toNat : Int) = ((m &&& ~~~d).toNat : Int) := by
    rw [u8_and_nat _ _ (~~~d).toNat_lt m.toNat_lt, UInt8.toNat_and, Nat.and_comm]
  rw [e1, e2, u8_andnb]
set_option maxRecDepth 100000 in
set_option maxHeartbeats 2000000 in
theorem ref_programcut (a : ByteArray) (lo : Nat) (data mask : ByteArray) (w : World) (ha : a.size = 4096) (hlo : lo + data.size ≤ 4096) (hs : mask.size ≤ 9223372036854775807) :
    Calls Tryz.prog 107 #[.string a, .int .i64 lo, .string data, .string mask] w fun e w' => e = .returned (.tuple #[.string (progCut a lo data mask), .int .i64 0]) ∧ Upd none' w w' := by
  have kc := Lib.run_convert_string_bytes (P := Tryz.prog) w 9 23 5 a Tryz.underlying9 Tryz.underlying23 Tryz.underlying5
  have hasz : a.data.toList.length = 4096 := ha
  have HA := Lib.hid hasz
  clear hasz
  obtain ⟨turn, hturn⟩ : ∃ turn : Nat → UInt8 → UInt8, turn = fun i old => old &&& ~~~(maskAt mask i &&& ~~~(data.data.toList.getD i 0)) := ⟨_, rfl⟩
  have HT := Lib.hid hturn
  have hre : progCut a lo data mask = ⟨(turnL a.data.toList lo data.size turn).toArray⟩ := by rw [hturn]; rfl
  have HRE := Lib.hid hre
  clear hturn hre
  obtain ⟨n, hn⟩ : ∃ n, data.size = n := ⟨_, rfl⟩
  rw [hn] at hlo HRE
  have hlo3 : ¬ (lo : Int) > 4096 := by omega
  have hlo4 : IntKind.i64.wrap (4096 - (lo : Int)) = 4096 - (lo : Int) := IntWalk.i64_in _ (by omega)
  have hn2 : ¬ (n : Int) > 4096 - (lo : Int) := by omega
  go_enter Tryz.func107, Tryz.ntmps107
  go_wp2_with (go_at_call 91; refine (ref_may a _ ha).mono ?_; rintro e w' ⟨rfl, rfl⟩)
  go_loopw [11] (fun iv wr => ∃ i : Nat, i ≤ n ∧ iv = .int .i64 i ∧ Buf wr w.heap.size (turnL a.data.toList lo i turn) 5 ∧ Upd none' w wr) (fun iv _ => n - (intOf iv).toNat)
  case atStart => exact ⟨0, by omega, rfl, by rw [turnL_zero]; exact Buf.of_bytes w _ a, upd_bytes w _ a⟩
  case round =>
    clear kc hlo3 hlo4 hn2
    obtain ⟨i, hi, rfl, hB, hU⟩ := hrel
    have hlen := turnL_len a.data.toList lo i turn
    rw [HA.out] at hlen
    by_cases hlt : i < n
    · have hstep := turnL_step a.data.toList lo i turn (by rw [HA.out]; omega)
      have hat := turnL_at a.data.toList lo i turn (by rw [HA.out]; omega)
      have hc := hB.cell (j := lo + i) (by rw [hlen]; omega)
      have hf := hB.frozen (j := lo + i) (by rw [hlen]; omega)
      rw [hat] at hc
      obtain ⟨c, hcv⟩ : ∃ c, a.data.toList.getD (lo + i) 0 = c := ⟨_, rfl⟩
      rw [hcv] at hc hstep
      have hset := hB.set (j := lo + i) (by rw [hlen]; omega) (turn i c)
      rw [hstep] at hset
      have hdi : i < data.size := by omega
      have hval : bits .andNot .u8 (c.toNat : Int) (bits .and .u8 (bits .xor .u8 IntKind.u8.max ((data[i]'hdi).toNat : Int)) ((maskAt mask i).toNat : Int)) = ((turn i c).toNat : Int) := by
        rw [HT.out]
        exact prog_bits c (maskAt mask i) data i hdi
      rw [← hval] at hset
      have HS := Lib.hid hset
      clear hval
      have HU := Lib.hid (hU.setCell ⟨w.heap.size, lo + i, none⟩ (.int .u8 (bits .andNot .u8 (c.toNat : Int) (bits .and .u8 (bits .xor .u8 IntKind.u8.max ((data[i]'hdi).toNat : Int)) ((maskAt mask i).toNat : Int)))) (fun hk => absurd hk (Nat.lt_irrefl _)))
      have hsum : IntKind.i64.wrap ((lo : Int) + (i : Int)) = (lo : Int) + (i : Int) := IntWalk.i64_in _ (by omega)
      have hsn : ((lo : Int) + (i : Int)).toNat = lo + i := by omega
      clear hset hstep hat hcv hB hU
      have hbit := fun W => ref_bit mask i W (by omega) hs
      generalize maskAt mask i = mi at *
      have HBIT := Lib.hid hbit
      clear hbit
      go_upto_region 8 with fail
      go_region_with (go_at_call 166; refine (HBIT.out _).mono ?_; rintro e w' ⟨rfl, rfl⟩)
      all_goals
        go_wp2
        refine ⟨?rel, ?measure⟩
        case rel => exact ⟨i + 1, by omega, by go_num, HS.out, HU.out.drew⟩
        case measure => simp [intOf]; omega
    · obtain rfl : i = n := by omega
      have kd := fun cap => run_string_buf (P := Tryz.prog) hB 23 5 9 Tryz.underlying23 Tryz.underlying5 Tryz.underlying9 4096 cap hlen
      have HU := Lib.hid hU
      clear hB hU hlen
      go_wp2
      go_ret2
      exact ⟨by rw [HRE.out]; rfl, HU.out⟩
end Go.Proofs.YteombggfmeilaaaGreat
