/- The walks over package cell. · The walks over package stat. -/
import Derived.Test.YteombggfmeilaaaGreatChipM
import Derived.Test.YteombggfmeilaaaGreatProg
import Derived.Test.YteombggfmeilaaaGreatLow
import Derived.Laws.BitsAllLaws
namespace Go.Proofs.YteombggfmeilaaaGreat
open Go.RowKit
theorem u8_andnb (a b : UInt8) : bits .andNot .u8 (a.toNat : Int) (b.toNat : Int) = ((a &&& ~~~b).toNat : Int) := by
  rw [u8_andNot_nat _ _ a.toNat_lt b.toNat_lt, UInt8.toNat_and, UInt8.toNat_not]; rfl
theorem u8_orb (a b : UInt8) : bits .or .u8 (a.toNat : Int) (b.toNat : Int) = ((a ||| b).toNat : Int) := by
  rw [u8_or_nat _ _ a.toNat_lt b.toNat_lt, UInt8.toNat_or]
theorem cell_may (s : ByteArray) (w : World) (hs : s.size = 4096) :
    Calls Tryz.prog 90 #[.string s] w fun e w' => e = .returned (.bool true) ∧ w' = w := by
  go_enter Tryz.func90, Tryz.ntmps90
  go_wp2
  go_ret
  exact ⟨rfl, rfl⟩
theorem cell_masked (s : ByteArray) (i : Nat) (w : World) (hi : i ≤ 100000) (hs : s.size ≤ 9223372036854775807) :
    Calls Tryz.prog 196 #[.string s, .int .i64 i] w fun e w' => e = .returned (.int .u8 (maskAt s i).toNat) ∧ w' = w := by
  by_cases h0 : s.size = 0
  · have hs0 : s = ⟨#[]⟩ := by
      obtain ⟨d⟩ := s
      simp only [ByteArray.size] at h0
      rw [Array.eq_empty_of_size_eq_zero h0]
    subst hs0
    have hm : maskAt ⟨#[]⟩ i = 0 := by simp [maskAt, ByteArray.size]
    have HM := Lib.hid hm
    clear hm h0
    go_enter Tryz.func196, Tryz.ntmps196
    go_wp2
    go_ret
    exact ⟨by rw [HM.out]; rfl, rfl⟩
  · have hpos : 0 < s.size := by omega
    have hne := str_nonempty s hpos
    have hlt : i % s.size < s.size := Nat.mod_lt _ hpos
    have hm : maskAt s i = s[i % s.size] := by rw [maskAt, if_neg h0, str_at s _ hlt]
    have HM := Lib.hid hm
    clear hm h0
    go_enter Tryz.func196, Tryz.ntmps196
    go_wp2
    go_ret
    exact ⟨by rw [HM.out]; rfl, rfl⟩
theorem cell_prog1 (i : Nat) (old : UInt8) (p q : Nat) (mask data : ByteArray) (w : World) (hp : w.cell? ⟨p, 0, none⟩ = some (.string mask)) (hq : w.cell? ⟨q, 0, none⟩ = some (.string data)) (hi : i < data.size) (hi2 : i ≤ 100000) (hs : mask.size ≤ 9223372036854775807) :
    Calls Tryz.prog 195 #[.int .i64 i, .int .u8 old.toNat, .pointer (some ⟨p, 0, none⟩), .pointer (some ⟨q, 0, none⟩)] w fun e w' =>
      e = .returned (.int .u8 (old &&& ~~~(maskAt mask i &&& ~~~(data.data.toList.getD i 0))).toNat) ∧ w'.Alike w := by
  go_enter Tryz.func195, Tryz.ntmps195
  go_wp2_with fail
  go_quiet ((go_at_call 196; exact Calls.quiet_of_same (cell_masked mask i _ hi2 hs)))
  go_wp2
  go_ret
  refine ⟨?_, rfl, rfl, rfl⟩
  rw [str_at _ _ hi, ← u8_andnb, ← u8_andnb]
  rfl
def turnL (l : List UInt8) (lo n : Nat) (turn : Nat → UInt8 → UInt8) : List UInt8 := l.mapIdx fun j b => if lo ≤ j ∧ j < lo + n then turn (j - lo) b else b
theorem turnL_len (l : List UInt8) (lo n : Nat) (turn : Nat → UInt8 → UInt8) : (turnL l lo n turn).length = l.length := by simp [turnL]
theorem turnL_zero (l : List UInt8) (lo : Nat) (turn : Nat → UInt8 → UInt8) : turnL l lo 0 turn = l := by
  unfold turnL
  apply List.ext_getElem
  · simp
  · intro i h1 h2
    simp
    omega
theorem turnL_at (l : List UInt8) (lo n : Nat) (turn : Nat → UInt8 → UInt8) (h : lo + n < l.length) : (turnL l lo n turn).getD (lo + n) 0 = l.getD (lo + n) 0 := by
  simp [turnL, List.getD_eq_getElem?_getD, h]
theorem turnL_step (l : List UInt8) (lo n : Nat) (turn : Nat → UInt8 → UInt8) (h : lo + n < l.length) : (turnL l lo n turn).set (lo + n) (turn n (l.getD (lo + n) 0)) = turnL l lo (n + 1) turn := by
  apply List.ext_getElem
  · simp [turnL]
  · intro i h1 h2
    simp only [List.length_set, turnL_len] at h1
    rw [List.getElem_set]
    by_cases e : lo + n = i
    · subst e
      simp [turnL, List.getD_eq_getElem?_getD, h]
    · rw [if_neg e]
      simp only [turnL, List.getElem_mapIdx]
      by_cases e1 : lo ≤ i ∧ i < lo + n
      · rw [if_pos e1, if_pos ⟨e1.1, by omega⟩]
      · rw [if_neg e1, if_neg (by omega)]
theorem turned_eq (a : ByteArray) (lo n : Nat) (turn : Nat → UInt8 → UInt8) : turned a lo n turn = ⟨(turnL a.data.toList lo n turn).toArray⟩ := rfl
set_option maxHeartbeats 1000000 in
theorem cell_turned_prog (a : ByteArray) (lo n p q : Nat) (mask data : ByteArray) (w : World) (ha : a.size ≤ 100000) (hln : lo + n ≤ a.size) (hn : n ≤ data.size) (hs : mask.size ≤ 9223372036854775807)
    (hp : w.cell? ⟨p, 0, none⟩ = some (.string mask)) (hpl : p < w.heap.size) (hq : w.cell? ⟨q, 0, none⟩ = some (.string data)) (hql : q < w.heap.size) :
    Calls Tryz.prog 194 #[.string a, .int .i64 lo, .int .i64 n, .func (.func 195) #[] #[.pointer (some ⟨p, 0, none⟩), .pointer (some ⟨q, 0, none⟩)]] w fun e w' =>
      e = .returned (.string (turned a lo n fun i old => old &&& ~~~(maskAt mask i &&& ~~~(data.data.toList.getD i 0)))) ∧ Upd none' w w' := by
  have kc := Lib.run_convert_string_bytes (P := Tryz.prog) w 9 23 5 a Tryz.underlying9 Tryz.underlying23 Tryz.underlying5
  have hasz : a.data.toList.length = a.size := by rfl
  have HA := Lib.hid hasz
  clear hasz
  obtain ⟨turn, hturn⟩ : ∃ turn : Nat → UInt8 → UInt8, turn = fun i old => old &&& ~~~(maskAt mask i &&& ~~~(data.data.toList.getD i 0)) := ⟨_, rfl⟩
  have HT := Lib.hid hturn
  rw [← hturn]
  clear hturn
  have HR := Lib.hid (turned_eq a lo n turn)
  go_enter Tryz.func194, Tryz.ntmps194
  go_wp2
  go_loopw [10, 14] (fun _ iv wr => ∃ i : Nat, i ≤ n ∧ iv = .int .i64 i ∧ Buf wr w.heap.size (turnL a.data.toList lo i turn) 5 ∧ Upd none' w wr) (fun _ iv _ => n - (intOf iv).toNat)
  case atStart => exact ⟨0, by omega, rfl, by rw [turnL_zero]; exact Buf.of_bytes w _ a, upd_bytes w _ a⟩
  case round =>
    obtain ⟨i, hi, rfl, hB, hU⟩ := hrel
    have hlen := turnL_len a.data.toList lo i turn
    rw [HA.out] at hlen
    have hstep := turnL_step a.data.toList lo i turn
    have hat := turnL_at a.data.toList lo i turn
    rw [HA.out] at hstep hat
    by_cases hlt : i < n
    · have hc := hB.cell (j := lo + i) (by rw [hlen]; omega)
      have hf := hB.frozen (j := lo + i) (by rw [hlen]; omega)
      rw [hat (by omega)] at hc
      have hset' : ∀ wx : World, wx.Alike wr → Buf (wx.setCell ⟨w.heap.size, lo + i, none⟩ (.int .u8 (turn i (a.data.toList.getD (lo + i) 0)).toNat)) w.heap.size (turnL a.data.toList lo (i + 1) turn) 5 := by
        intro wx hx
        have := (hB.upd ((Upd.refl none' wr).alike hx) (fun f => f)).set (j := lo + i) (by rw [hlen]; omega) (turn i (a.data.toList.getD (lo + i) 0))
        rw [hstep (by omega)] at this
        exact this
      have hp' := (hU.cell (p := ⟨p, 0, none⟩) hpl (fun f => f)).trans hp
      have hq' := (hU.cell (p := ⟨q, 0, none⟩) hql (fun f => f)).trans hq
      have HS := Lib.hid hset'
      have hti : turn i (a.data.toList.getD (lo + i) 0) = (a.data.toList.getD (lo + i) 0) &&& ~~~(maskAt mask i &&& ~~~(data.data.toList.getD i 0)) := by rw [HT.out]
      have HTI := Lib.hid hti
      clear hset' hstep hat hlen hti
      generalize a.data.toList.getD (lo + i) 0 = c at *
      go_wp2_with (go_at_call 195; refine (cell_prog1 i c p q mask data _ hp' hq' (by omega) (by omega) hs).mono ?_; rintro e w1 ⟨rfl, hA1⟩; rw [← HTI.out]; have hc1 := (Alike.cell hA1 ⟨w.heap.size, lo + i, none⟩).trans hc; have hf1 := (Alike.frozen hA1 ⟨w.heap.size, lo + i, none⟩).trans hf)
      go_roundw
      case rel => exact ⟨i + 1, by omega, by go_num, HS.out _ hA1, (hU.alike hA1).setCell ⟨w.heap.size, lo + i, none⟩ _ (fun hk => absurd hk (Nat.lt_irrefl _))⟩
      case measure => simp [intOf]; omega
    · have hin : i = n := by omega
      subst hin
      have kd := run_string_buf (P := Tryz.prog) hB 23 5 9 Tryz.underlying23 Tryz.underlying5 Tryz.underlying9 a.size
      have kd2 := fun cap => kd cap hlen
      clear kd hstep hat
      go_wp2
      go_ret
      exact ⟨by rw [HR.out]; rfl, hU⟩
theorem cell_erase1 (i : Nat) (old : UInt8) (p : Nat) (mask : ByteArray) (w : World) (hp : w.cell? ⟨p, 0, none⟩ = some (.string mask)) (hi2 : i ≤ 100000) (hs : mask.size ≤ 9223372036854775807) :
    Calls Tryz.prog 197 #[.int .i64 i, .int .u8 old.toNat, .pointer (some ⟨p, 0, none⟩)] w fun e w' =>
      e = .returned (.int .u8 (old ||| maskAt mask i).toNat) ∧ w'.Alike w := by
  go_enter Tryz.func197, Tryz.ntmps197
  go_wp2_with (go_at_call 196; refine (cell_masked mask i _ hi2 hs).mono ?_; rintro e w' ⟨rfl, rfl⟩)
  go_ret
  refine ⟨?_, rfl, rfl, rfl⟩
  rw [← u8_orb]
  rfl
set_option maxHeartbeats 1000000 in
theorem cell_turned_erase (a : ByteArray) (lo n p : Nat) (mask : ByteArray) (w : World) (ha : a.size ≤ 100000) (hln : lo + n ≤ a.size) (hn : n ≤ 100000) (hs : mask.size ≤ 9223372036854775807)
    (hp : w.cell? ⟨p, 0, none⟩ = some (.string mask)) (hpl : p < w.heap.size) :
    Calls Tryz.prog 194 #[.string a, .int .i64 lo, .int .i64 n, .func (.func 197) #[] #[.pointer (some ⟨p, 0, none⟩)]] w fun e w' =>
      e = .returned (.string (turned a lo n fun i old => old ||| maskAt mask i)) ∧ Upd none' w w' := by
  have kc := Lib.run_convert_string_bytes (P := Tryz.prog) w 9 23 5 a Tryz.underlying9 Tryz.underlying23 Tryz.underlying5
  have hasz : a.data.toList.length = a.size := by rfl
  have HA := Lib.hid hasz
  clear hasz
  obtain ⟨turn, hturn⟩ : ∃ turn : Nat → UInt8 → UInt8, turn = fun i old => old ||| maskAt mask i := ⟨_, rfl⟩
  have HT := Lib.hid hturn
  rw [← hturn]
  clear hturn
  have HR := Lib.hid (turned_eq a lo n turn)
  go_enter Tryz.func194, Tryz.ntmps194
  go_wp2
  go_loopw [10, 14] (fun _ iv wr => ∃ i : Nat, i ≤ n ∧ iv = .int .i64 i ∧ Buf wr w.heap.size (turnL a.data.toList lo i turn) 5 ∧ Upd none' w wr) (fun _ iv _ => n - (intOf iv).toNat)
  case atStart => exact ⟨0, by omega, rfl, by rw [turnL_zero]; exact Buf.of_bytes w _ a, upd_bytes w _ a⟩
  case round =>
    obtain ⟨i, hi, rfl, hB, hU⟩ := hrel
    have hlen := turnL_len a.data.toList lo i turn
    rw [HA.out] at hlen
    have hstep := turnL_step a.data.toList lo i turn
    have hat := turnL_at a.data.toList lo i turn
    rw [HA.out] at hstep hat
    by_cases hlt : i < n
    · have hc := hB.cell (j := lo + i) (by rw [hlen]; omega)
      have hf := hB.frozen (j := lo + i) (by rw [hlen]; omega)
      rw [hat (by omega)] at hc
      have hset' : ∀ wx : World, wx.Alike wr → Buf (wx.setCell ⟨w.heap.size, lo + i, none⟩ (.int .u8 (turn i (a.data.toList.getD (lo + i) 0)).toNat)) w.heap.size (turnL a.data.toList lo (i + 1) turn) 5 := by
        intro wx hx
        have := (hB.upd ((Upd.refl none' wr).alike hx) (fun f => f)).set (j := lo + i) (by rw [hlen]; omega) (turn i (a.data.toList.getD (lo + i) 0))
        rw [hstep (by omega)] at this
        exact this
      have hp' := (hU.cell (p := ⟨p, 0, none⟩) hpl (fun f => f)).trans hp
      have HS := Lib.hid hset'
      have hti : turn i (a.data.toList.getD (lo + i) 0) = (a.data.toList.getD (lo + i) 0) ||| maskAt mask i := by rw [HT.out]
      have HTI := Lib.hid hti
      clear hset' hstep hat hlen hti
      generalize a.data.toList.getD (lo + i) 0 = c at *
      go_wp2_with (go_at_call 197; refine (cell_erase1 i c p mask _ hp' (by omega) hs).mono ?_; rintro e w1 ⟨rfl, hA1⟩; rw [← HTI.out]; have hc1 := (Alike.cell hA1 ⟨w.heap.size, lo + i, none⟩).trans hc; have hf1 := (Alike.frozen hA1 ⟨w.heap.size, lo + i, none⟩).trans hf)
      go_roundw
      case rel => exact ⟨i + 1, by omega, by go_num, HS.out _ hA1, (hU.alike hA1).setCell ⟨w.heap.size, lo + i, none⟩ _ (fun hk => absurd hk (Nat.lt_irrefl _))⟩
      case measure => simp [intOf]; omega
    · have hin : i = n := by omega
      subst hin
      have kd := run_string_buf (P := Tryz.prog) hB 23 5 9 Tryz.underlying23 Tryz.underlying5 Tryz.underlying9 a.size
      have kd2 := fun cap => kd cap hlen
      clear kd hstep hat
      go_wp2
      go_ret
      exact ⟨by rw [HR.out]; rfl, hU⟩
theorem cell_fits (a : ByteArray) (lo n : Nat) (w : World) (ha : a.size = 4096) (hlo : lo + n ≤ 4096) :
    Calls Tryz.prog 193 #[.string a, .int .i64 lo, .int .i64 n] w fun e w' => e = .returned (.bool true) ∧ w' = w := by
  have h1 : (lo : Int) ≤ 4096 := by omega
  have h2 : (n : Int) ≤ 4096 - (lo : Int) := by omega
  have HA := Lib.hid ha
  clear ha
  go_enter Tryz.func193, Tryz.ntmps193
  go_wp2_with (go_at_call 90; refine (cell_may a _ HA.out).mono ?_; rintro e w' ⟨rfl, rfl⟩)
  go_ret
  exact ⟨rfl, rfl⟩
set_option maxHeartbeats 1000000 in
theorem cell_program (a : ByteArray) (lo : Nat) (data mask : ByteArray) (w : World) (ha : a.size = 4096) (hlo : lo + data.size ≤ 4096) (hs : mask.size ≤ 9223372036854775807) :
    Calls Tryz.prog 164 #[.string a, .int .i64 lo, .string data, .string mask] w fun e w' =>
      e = .returned (.tuple #[.string (progCut a lo data mask), .int .i64 0]) ∧ Upd none' w w' := by
  have hmf : ∀ (fn : Fn) (first cap : Array Value) (w : World), (Instr.makeFunc fn first cap).run Tryz.prog w = .ok (.func fn first cap) w := fun _ _ _ _ => rfl
  have HA := Lib.hid ha
  have hd : data.size ≤ 4096 := by omega
  have HF := Lib.hid (show progCut a lo data mask = turned a lo data.size (fun i old => old &&& ~~~(maskAt mask i &&& ~~~(data.data.toList.getD i 0))) from rfl)
  clear ha
  go_enter Tryz.func164, Tryz.ntmps164
  go_wp2_with fail
  refine (cell_fits a lo data.size _ HA.out hlo).mono ?_
  rintro e w1 ⟨rfl, rfl⟩
  go_wp2_with fail
  have hb1 := Blk.new w [.string data] 9
  have hb2 := hb1.alloc (.cells #[.string mask] 9)
  have hb3 := Blk.new (w.alloc (.cells #[.string data] 9)) [.string mask] 9
  rw [show (w.alloc (.cells #[.string data] 9)).heap.size = w.heap.size + 1 by simp] at hb3
  refine (cell_turned_prog a lo data.size (w.heap.size + 1) w.heap.size mask data _ (by have := HA.out; omega) (by have := HA.out; omega) (Nat.le_refl _) hs (hb3.cell 0) hb3.lt (hb2.cell 0) hb2.lt).mono ?_
  rintro e w2 ⟨rfl, hU2⟩
  rw [← HF.out]
  go_wp2
  go_ret2
  exact ⟨rfl, (((Upd.refl none' w).alloc _).alloc _).trans hU2 (fun _ _ f => f)⟩
set_option maxHeartbeats 1000000 in
theorem cell_erase (a : ByteArray) (sector : Nat) (mask : ByteArray) (w : World) (ha : a.size = 4096) (hse : sector < 8) (hs : mask.size ≤ 9223372036854775807) :
    Calls Tryz.prog 165 #[.string a, .int .i64 sector, .string mask] w fun e w' =>
      e = .returned (.tuple #[.string (eraseCut a sector mask), .int .i64 0]) ∧ Upd none' w w' := by
  have hmf : ∀ (fn : Fn) (first cap : Array Value) (w : World), (Instr.makeFunc fn first cap).run Tryz.prog w = .ok (.func fn first cap) w := fun _ _ _ _ => rfl
  have HA := Lib.hid ha
  have HF := Lib.hid (show eraseCut a sector mask = turned a (sector * 512) 512 (fun i old => old ||| maskAt mask i) from rfl)
  clear ha
  go_enter Tryz.func165, Tryz.ntmps165
  go_wp2_with (go_at_call 90; refine (cell_may a _ HA.out).mono ?_; rintro e w' ⟨rfl, rfl⟩)
  have hb1 := Blk.new w [.string mask] 9
  rw [show ((sector : Int) * 512) = ((sector * 512 : Nat) : Int) by omega]
  refine (cell_turned_erase a (sector * 512) 512 w.heap.size mask _ (by have := HA.out; omega) (by have := HA.out; omega) (by omega) hs (hb1.cell 0) hb1.lt).mono ?_
  rintro e w2 ⟨rfl, hU2⟩
  rw [← HF.out]
  go_wp2
  go_ret2
  exact ⟨rfl, ((Upd.refl none' w).alloc _).trans hU2 (fun _ _ f => f)⟩
end Go.Proofs.YteombggfmeilaaaGreat
namespace Go.Proofs.YteombggfmeilaaaGreat
open Go.RowKit
theorem alike_trans {a b c : World} (h : b.Alike a) (g : c.Alike b) : c.Alike a := ⟨g.1.trans h.1, g.2.1.trans h.2.1, g.2.2.trans h.2.2⟩
theorem stat_so1 (p q : Nat) (x : Int) (y : Bool) (w : World) (hp : w.cell? ⟨p, 0, none⟩ = some (.int .i64 x)) (hq : w.cell? ⟨q, 0, none⟩ = some (.bool y)) :
    Calls Tryz.prog 198 #[.pointer (some ⟨p, 0, none⟩), .pointer (some ⟨q, 0, none⟩)] w fun e w' => e = .returned (.tuple #[.int .i64 x, .bool y]) ∧ w'.Alike w := by
  go_enter Tryz.func198, Tryz.ntmps198
  go_wp2
  go_region
  all_goals go_wp2
  all_goals go_ret2
  all_goals exact ⟨rfl, rfl, rfl, rfl⟩
def closV (p q : Nat) : Value := .func (.func 198) #[] #[.pointer (some ⟨p, 0, none⟩), .pointer (some ⟨q, 0, none⟩)]
theorem stat_so (x : Int) (y : Bool) (w : World) :
    Calls Tryz.prog 168 #[.int .i64 x, .bool y] w fun e w' => ∃ p q, e = .returned (closV p q) ∧ Upd none' w w' ∧ w.heap.size ≤ p ∧ w.heap.size ≤ q ∧ Blk w' p [.int .i64 x] 3 ∧ Blk w' q [.bool y] 4 := by
  have hmf : ∀ (fn : Fn) (first cap : Array Value) (w : World), (Instr.makeFunc fn first cap).run Tryz.prog w = .ok (.func fn first cap) w := fun _ _ _ _ => rfl
  go_enter Tryz.func168, Tryz.ntmps168
  go_wp2
  go_ret
  refine ⟨w.heap.size, w.heap.size + 1, rfl, ((Upd.refl none' w).alloc _).alloc _, Nat.le_refl _, by omega, ?_, ?_⟩
  · exact (Blk.new w [.int .i64 x] _).alloc _
  · have := Blk.new (w.alloc (.cells #[.int .i64 x] 3)) [.bool y] 4
    simpa using this
def sumOf : List (Int × Bool) → Int
  | [] => 0
  | (x, y) :: r => (if y then x else 0) + sumOf r
theorem sumOf_snoc (l : List (Int × Bool)) (x : Int) (y : Bool) : sumOf (l ++ [(x, y)]) = sumOf l + if y then x else 0 := by
  induction l with
  | nil => simp [sumOf]
  | cons a l ih => obtain ⟨p, q⟩ := a; simp [sumOf, ih]; omega
theorem sumOf_bd (l : List (Int × Bool)) (h : ∀ a ∈ l, 0 ≤ a.1 ∧ a.1 ≤ 1000) : 0 ≤ sumOf l ∧ sumOf l ≤ 1000 * l.length := by
  induction l with
  | nil => simp [sumOf]
  | cons a l ih =>
    obtain ⟨p, q⟩ := a
    have h1 := h (p, q) (by simp)
    have h2 := ih (fun a ha => h a (by simp [ha]))
    simp only [sumOf, List.length_cons]
    simp only at h1
    split <;> omega
set_option maxHeartbeats 1000000 in
theorem stat_sum (g cap : Nat) (l : List (Int × Bool)) (ps qs : List Nat) (w : World) (hl : l.length ≤ 100) (hb : ∀ a ∈ l, 0 ≤ a.1 ∧ a.1 ≤ 1000)
    (hc : ∀ j, j < l.length → w.cell? ⟨g, j, none⟩ = some (closV (ps.getD j 0) (qs.getD j 0)))
    (hx : ∀ j, j < l.length → w.cell? ⟨ps.getD j 0, 0, none⟩ = some (.int .i64 (l.getD j (0, false)).1))
    (hy : ∀ j, j < l.length → w.cell? ⟨qs.getD j 0, 0, none⟩ = some (.bool (l.getD j (0, false)).2)) :
    Calls Tryz.prog 167 #[.slice (some ⟨g, 0, none⟩) l.length cap] w fun e w' => e = .returned (.int .i64 (sumOf l)) ∧ w'.Alike w := by
  have HC := Lib.hid hc
  have HX := Lib.hid hx
  have HY := Lib.hid hy
  clear hc hx hy
  go_enter Tryz.func167, Tryz.ntmps167
  go_wp2
  go_loopw [3, 10] (fun ov iv wr => ∃ i : Nat, i ≤ l.length ∧ iv = .int .i64 i ∧ ov = .int .i64 (sumOf (l.take i)) ∧ wr.Alike w) (fun _ iv _ => l.length - (intOf iv).toNat)
  case atStart => exact ⟨0, by omega, rfl, rfl, rfl, rfl, rfl⟩
  case round =>
    obtain ⟨i, hi, rfl, rfl, hA⟩ := hrel
    by_cases hlt : i < l.length
    · have hc1 := (Alike.cell hA ⟨g, i, none⟩).trans (HC.out i hlt)
      have hx1 := (Alike.cell hA ⟨ps.getD i 0, 0, none⟩).trans (HX.out i hlt)
      have hy1 := (Alike.cell hA ⟨qs.getD i 0, 0, none⟩).trans (HY.out i hlt)
      have hbd := sumOf_bd (l.take i) (fun a ha => hb a (List.mem_of_mem_take ha))
      have hbl : (l.take i).length ≤ i := List.length_take_le _ _
      have hbi := hb (l.getD i (0, false)) (by simp [List.getD_eq_getElem?_getD, List.getElem?_eq_getElem hlt])
      have hts : l.take (i + 1) = l.take i ++ [l.getD i (0, false)] := by
        rw [List.take_add_one, List.getElem?_eq_getElem hlt]; simp [List.getD_eq_getElem?_getD, List.getElem?_eq_getElem hlt]
      have HT := Lib.hid hts
      clear hts hb
      generalize l.getD i (0, false) = xy at *
      obtain ⟨x, y⟩ := xy
      generalize ps.getD i 0 = p at *
      generalize qs.getD i 0 = q at *
      simp only [closV] at hc1
      simp only at hx1 hy1 hbi
      have hsum : sumOf (l.take (i + 1)) = sumOf (l.take i) + if y then x else 0 := by rw [HT.out, sumOf_snoc]
      have HS := Lib.hid hsum
      clear hsum
      generalize sumOf (l.take i) = acc at *
      go_wp2_with (go_at_call 198; refine (stat_so1 p q x y _ hx1 hy1).mono ?_; rintro e w1 ⟨rfl, hA1⟩)
      all_goals
        go_roundw
        case rel => exact ⟨i + 1, by omega, by go_num, by rw [HS.out]; simp [*], alike_trans hA hA1⟩
        case measure => simp [intOf]; omega
    · have hieq : i = l.length := by omega
      go_wp2
      go_ret
      refine ⟨?_, hA⟩
      rw [hieq, List.take_length]; rfl
def firstL (x y z : Bool) : List (Int × Bool) := [(1, x), (2, y), (4, z)]
set_option maxHeartbeats 1000000 in
theorem stat_first (x y z : Bool) (w : World) :
    Calls Tryz.prog 109 #[.bool x, .bool y, .bool z] w fun e w' => e = .returned (.int .i64 (first x y z)) ∧ Upd none' w w' := by
  have hfin : first x y z = sumOf [(1, x), (2, y), (4, z)] := by cases x <;> cases y <;> cases z <;> rfl
  have HF := Lib.hid hfin
  clear hfin
  go_enter Tryz.func109, Tryz.ntmps109
  go_wp2_with fail
  refine (stat_so 1 x w).mono ?_
  rintro e w1 ⟨p1, q1, rfl, hU1, hp1, hq1, hP1, hQ1⟩
  simp only [closV]
  go_wp2_with fail
  refine (stat_so 2 y w1).mono ?_
  rintro e w2 ⟨p2, q2, rfl, hU2, hp2, hq2, hP2, hQ2⟩
  simp only [closV]
  go_wp2_with fail
  refine (stat_so 4 z w2).mono ?_
  rintro e w3 ⟨p3, q3, rfl, hU3, hp3, hq3, hP3, hQ3⟩
  simp only [closV]
  have hP1' := (hP1.upd hU2 (fun f => f)).upd hU3 (fun f => f)
  have hQ1' := (hQ1.upd hU2 (fun f => f)).upd hU3 (fun f => f)
  have hP2' := hP2.upd hU3 (fun f => f)
  have hQ2' := hQ2.upd hU3 (fun f => f)
  have hUw := (hU1.trans hU2 (fun _ _ f => f)).trans hU3 (fun _ _ f => f)
  go_wp2_with fail
  have hN := Blk.new w3 [closV p1 q1, closV p2 q2, closV p3 q3] 201
  refine (stat_sum w3.heap.size 3 [(1, x), (2, y), (4, z)] [p1, p2, p3] [q1, q2, q3] _ (by simp) (by simp) ?_ ?_ ?_).mono ?_
  · intro j hj
    match j, hj with
    | 0, _ => exact hN.cell 0
    | 1, _ => exact hN.cell 1
    | 2, _ => exact hN.cell 2
  · intro j hj
    match j, hj with
    | 0, _ => exact (hP1'.alloc _).cell 0
    | 1, _ => exact (hP2'.alloc _).cell 0
    | 2, _ => exact (hP3.alloc _).cell 0
  · intro j hj
    match j, hj with
    | 0, _ => exact (hQ1'.alloc _).cell 0
    | 1, _ => exact (hQ2'.alloc _).cell 0
    | 2, _ => exact (hQ3.alloc _).cell 0
  rintro e w4 ⟨rfl, hA⟩
  go_wp2
  go_ret
  exact ⟨by rw [HF.out]; rfl, (hUw.alloc _).alike hA⟩
set_option maxHeartbeats 1000000 in
theorem stat_second (x y : Bool) (w : World) :
    Calls Tryz.prog 111 #[.bool x, .bool y] w fun e w' => e = .returned (.int .i64 (second x y)) ∧ Upd none' w w' := by
  have hfin : second x y = sumOf [(2, x), (128, y)] := by cases x <;> cases y <;> rfl
  have HF := Lib.hid hfin
  clear hfin
  go_enter Tryz.func111, Tryz.ntmps111
  go_wp2_with fail
  refine (stat_so 2 x w).mono ?_
  rintro e w1 ⟨p1, q1, rfl, hU1, hp1, hq1, hP1, hQ1⟩
  simp only [closV]
  go_wp2_with fail
  refine (stat_so 128 y w1).mono ?_
  rintro e w2 ⟨p2, q2, rfl, hU2, hp2, hq2, hP2, hQ2⟩
  simp only [closV]
  have hP1' := hP1.upd hU2 (fun f => f)
  have hQ1' := hQ1.upd hU2 (fun f => f)
  have hUw := hU1.trans hU2 (fun _ _ f => f)
  go_wp2_with fail
  have hN := Blk.new w2 [closV p1 q1, closV p2 q2] 201
  refine (stat_sum w2.heap.size 2 [(2, x), (128, y)] [p1, p2] [q1, q2] _ (by simp) (by simp) ?_ ?_ ?_).mono ?_
  · intro j hj
    match j, hj with
    | 0, _ => exact hN.cell 0
    | 1, _ => exact hN.cell 1
  · intro j hj
    match j, hj with
    | 0, _ => exact (hP1'.alloc _).cell 0
    | 1, _ => exact (hP2.alloc _).cell 0
  · intro j hj
    match j, hj with
    | 0, _ => exact (hQ1'.alloc _).cell 0
    | 1, _ => exact (hQ2.alloc _).cell 0
  rintro e w4 ⟨rfl, hA⟩
  go_wp2
  go_ret
  exact ⟨by rw [HF.out]; rfl, (hUw.alloc _).alike hA⟩
end Go.Proofs.YteombggfmeilaaaGreat
