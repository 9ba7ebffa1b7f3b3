/- The walks over Blank, fresh. · The walk over fresh. -/
import Derived.Test.YtjdjdfllggpckaaGreatChip
import Derived.Test.YtjdjdfllggpckaaGreatLow
import Derived.Laws.MakeOwn
namespace Go.Proofs.YtjdjdfllggpckaaGreat
open Go.RowKit
def zeroL : List UInt8 := List.replicate 4096 0
def blankL : List UInt8 := List.replicate 4096 255
theorem zeroL_len : zeroL.length = 4096 := List.length_replicate
theorem made_gen (z : Value) (n : Nat) : madeCells #[z] n = (List.replicate n z).toArray := by
  apply Array.ext
  · simp [madeCells]
  · intro i h1 h2
    simp [madeCells, Nat.mod_one]
theorem made_zero : madeCells (Value.int .u8 0).cells (Int.toNat 4096 * Tryz.t5.size) = (bytesV zeroL).toArray := by
  rw [show Tryz.t5.size = 1 from by kernel_rfl, show (Value.int .u8 0).cells = #[Value.int .u8 0] from rfl, made_gen, Nat.mul_one]
  unfold zeroL bytesV
  rw [List.map_replicate]
  rfl
theorem make_bytes4096 (u : World) : (Instr.makeSlice 52 (.int .i64 4096) (.int .i64 4096)).run Tryz.prog u = .ok (.slice (some ⟨u.heap.size, 0, none⟩) 4096 4096) (u.alloc (.cells (bytesV zeroL).toArray 5)) := by
  have := run_make (P := Tryz.prog) u 52 5 Tryz.t5 (.int .u8 0) Tryz.underlying52 (by kernel_rfl) (by kernel_rfl) .i64 .i64 4096 4096 (by decide) (by decide) (by show ((1 : Nat) : Int) * 4096 ≤ _; decide) (by decide)
  rw [this, made_zero]
  rfl
theorem fillN (n i : Nat) (h : i < n) : (List.replicate i (255 : UInt8) ++ List.replicate (n - i) 0).set i 255 = List.replicate (i + 1) 255 ++ List.replicate (n - (i + 1)) 0 := by
  apply List.ext_getElem
  · simp; omega
  · intro j h1 h2
    simp only [List.getElem_set, List.getElem_append, List.length_replicate, List.getElem_replicate]
    split
    · subst_vars; simp
    · split <;> split <;> first | rfl | omega
set_option maxRecDepth 100000 in
set_option maxHeartbeats 1000000 in
theorem ref_blank (w : World) :
    Calls Tryz.prog 29 #[] w fun e w' => e = .returned (.string ⟨blankL.toArray⟩) ∧ Upd none' w w' := by
  have hfull : Calls Tryz.prog 52 #[.int .i64 4096] w fun e w' => e = .returned (.string ⟨blankL.toArray⟩) ∧ Upd none' w w' := by
    have hmk := make_bytes4096
    go_enter Tryz.func52, Tryz.ntmps52
    go_wp2_with fail
    clear hmk
    obtain ⟨Z, hZ⟩ : ∃ Z, zeroL = Z := ⟨_, rfl⟩
    rw [hZ]
    have hBz : Buf (w.alloc (.cells (bytesV Z).toArray 5)) w.heap.size Z 5 := ⟨[], (0, 0), by rw [List.append_nil]; exact heap_alloc_new w _, .inl rfl⟩
    have hUz := (Upd.refl none' w).alloc (.cells (bytesV Z).toArray 5)
    generalize w.alloc (.cells (bytesV Z).toArray 5) = W at *
    go_loopw [4] (fun iv wr => ∃ (i : Nat) (l : List UInt8), i ≤ 4096 ∧ iv = .int .i64 i ∧ Upd none' w wr ∧ Buf wr w.heap.size l 5 ∧ Hid (l = List.replicate i 255 ++ List.replicate (4096 - i) 0)) (fun iv _ => 4096 - (intOf iv).toNat)
    case atStart => exact ⟨0, Z, by omega, rfl, hUz, hBz, Lib.hid (by rw [← hZ, List.replicate_zero, List.nil_append]; rfl)⟩
    case round =>
      clear hBz hUz
      obtain ⟨i, l, hi, rfl, hU, hB, hl⟩ := hrel
      have hll : l.length = 4096 := by rw [hl.out]; simp; omega
      by_cases hlt : i < 4096
      · have hc := hB.cell (j := i) (by omega)
        have hf := hB.frozen (j := i) (by omega)
        have HB := Lib.hid (hB.set (j := i) (by omega) 255)
        have HU := Lib.hid (hU.setCell ⟨w.heap.size, i, none⟩ (.int .u8 255) (fun h => absurd h (by dsimp only; omega)))
        clear hB hU hZ
        go_wp2
        exact ⟨⟨i + 1, _, by omega, by go_num, HU.out, HB.out, Lib.hid (by rw [hl.out, fillN 4096 i hlt])⟩, by simp [intOf]; omega⟩
      · have hieq : i = 4096 := by omega
        subst hieq
        have hle : l = blankL := by rw [hl.out, Nat.sub_self, List.replicate_zero, List.append_nil]; rfl
        subst hle
        have hst := run_string_buf hB 52 5 9 Tryz.underlying52 Tryz.underlying5 Tryz.underlying9 4096 4096 hll
        clear hZ
        go_wp2
        go_ret
        exact ⟨rfl, hU⟩
  go_enter Tryz.func29, Tryz.ntmps29
  go_wp2_with fail
  refine hfull.mono ?_
  rintro e w1 ⟨rfl, hU⟩
  go_wp2
  go_ret
  exact ⟨rfl, hU⟩
end Go.Proofs.YtjdjdfllggpckaaGreat
namespace Go.Proofs.YtjdjdfllggpckaaGreat
open Go.RowKit
def freshAt (s : ByteArray) (i : Nat) : UInt8 := s.data.toList.getD (i % s.size) 0
def freshL (s : ByteArray) : List UInt8 := if s.size = 0 then blankL else (List.range 4096).map (freshAt s)
theorem freshL_len (s : ByteArray) : (freshL s).length = 4096 := by
  unfold freshL
  split
  · exact List.length_replicate
  · rw [List.length_map, List.length_range]
theorem fresh_step (s : ByteArray) (l : List UInt8) (i : Nat) (hi : i < 4096) (h : l = ((List.range 4096).map (freshAt s)).take i ++ blankL.drop i) : l.set i (freshAt s i) = ((List.range 4096).map (freshAt s)).take (i + 1) ++ blankL.drop (i + 1) := by
  have hb : blankL.length = 4096 := List.length_replicate
  have hr : ((List.range 4096).map (freshAt s)).length = 4096 := by rw [List.length_map, List.length_range]
  have hg : ∀ k (hk : k < ((List.range 4096).map (freshAt s)).length), ((List.range 4096).map (freshAt s))[k] = freshAt s k := fun k hk => by rw [List.getElem_map, List.getElem_range]
  subst h
  generalize (List.range 4096).map (freshAt s) = fl at *
  generalize blankL = bl at *
  apply List.ext_getElem
  · simp [hb, hr]; omega
  · intro j h1 h2
    rw [List.getElem_set]
    by_cases hj : i = j
    · subst hj
      rw [if_pos rfl, List.getElem_append_left (by rw [List.length_take]; omega), List.getElem_take, hg]
    · rw [if_neg hj]
      by_cases hlt : j < i
      · rw [List.getElem_append_left (by rw [List.length_take]; omega), List.getElem_append_left (by rw [List.length_take]; omega), List.getElem_take, List.getElem_take]
      · rw [List.getElem_append_right (by rw [List.length_take]; omega), List.getElem_append_right (by rw [List.length_take]; omega)]
        simp only [List.getElem_drop, List.length_take]
        congr 1
        omega
set_option maxRecDepth 100000 in
set_option maxHeartbeats 2000000 in
theorem law_fresh (s : ByteArray) (w : World) (hs : s.size ≤ 9223372036854775807) :
    Calls Tryz.prog 12 #[.string s] w fun e w' => ∃ b S, e = .returned (.pointer (some ⟨b, 0, none⟩)) ∧ ChipAt w' b (St.new ⟨(freshL s).toArray⟩) S ∧ (∀ k, S k → w.heap.size ≤ k) ∧ Upd none' w w' := by
  have hbk := ref_blank w
  obtain ⟨bl, hbl⟩ : ∃ bl : ByteArray, bl = ⟨blankL.toArray⟩ := ⟨_, rfl⟩
  have hsz : bl.size = 4096 := by rw [hbl]; exact List.length_replicate
  have hdl : bl.data.toList = blankL := by rw [hbl]
  rw [← hbl] at hbk
  have HDL := Lib.hid hdl
  clear hbl hdl
  go_enter Tryz.func12, Tryz.ntmps12
  go_wp2_with (go_at_call 29; refine hbk.mono ?_; rintro e w1 ⟨rfl, hU1⟩; have kc := Lib.run_convert_string_bytes (P := Tryz.prog) w1 9 52 5 bl Tryz.underlying9 Tryz.underlying52 Tryz.underlying5)
  have hBz := Buf.of_bytes w1 5 bl
  have hUz := hU1.trans (upd_bytes w1 5 bl) (fun _ _ f => f)
  have hs1 := hU1.size
  clear kc hbk hU1
  go_loopw [4] (fun iv wr => ∃ (i : Nat) (l : List UInt8), i ≤ 4096 ∧ iv = .int .i64 i ∧ Upd none' w wr ∧ Buf wr w1.heap.size l 5 ∧ (s.size = 0 → i = 0) ∧ Hid (l = ((List.range 4096).map (freshAt s)).take i ++ blankL.drop i)) (fun iv _ => 4096 - (intOf iv).toNat)
  case atStart => exact ⟨0, _, by omega, rfl, hUz, hBz, fun _ => rfl, Lib.hid (by rw [HDL.out, List.take_zero, List.drop_zero, List.nil_append])⟩
  case round =>
    clear hBz hUz
    obtain ⟨i, l, hi, rfl, hU, hB, hs0, hl⟩ := hrel
    have hll : l.length = 4096 := by
      rw [hl.out, List.length_append, List.length_take, List.length_drop, List.length_map, List.length_range, show blankL.length = 4096 from List.length_replicate]
      omega
    by_cases hz : s.size = 0
    · have hi0 := hs0 hz
      subst hi0
      have hse : s = ⟨#[]⟩ := by
        obtain ⟨d⟩ := s
        simp only [ByteArray.size] at hz
        rw [Array.eq_empty_of_size_eq_zero hz]
      have hfin : l = freshL s := by
        rw [hl.out, List.take_zero, List.drop_zero, List.nil_append]
        unfold freshL
        rw [if_pos hz]
      · clear hs0
        subst hse
        have hst := fun cap => run_string_buf hB 52 5 9 Tryz.underlying52 Tryz.underlying5 Tryz.underlying9 4096 cap hll
        have HN := Lib.hid (chip_new ⟨l.toArray⟩ wr (by simpa [ByteArray.size] using hll))
        have HU := Lib.hid hU
        have HL := Lib.hid hfin
        clear hB hU hfin hl
        go_wp2_with (go_at_call 30; refine HN.out.mono ?_; rintro e w2 ⟨b, S, rfl, hA, hS, hU2⟩)
        go_ret
        refine ⟨b, S, rfl, by rw [← HL.out]; exact hA, fun k hk => ?_, HU.out.trans hU2 (fun _ _ f => f)⟩
        have := hS k hk
        have := HU.out.size
        omega
    · have hpos : 0 < s.size := by omega
      have hne := str_nonempty s hpos
      by_cases hlt : i < 4096
      · have hq : i % s.size < s.size := Nat.mod_lt _ hpos
        have hfa : freshAt s i = s[i % s.size] := by unfold freshAt; rw [str_at s _ hq]
        have hc := hB.cell (j := i) (by omega)
        have hf := hB.frozen (j := i) (by omega)
        have HB := Lib.hid (hB.set (j := i) (by omega) (freshAt s i))
        have HU := Lib.hid (hU.setCell ⟨w1.heap.size, i, none⟩ (.int .u8 (freshAt s i).toNat) (fun h => absurd h (by dsimp only; omega)))
        have HFA := Lib.hid hfa
        clear hB hU hfa hs0
        go_wp2
        refine ⟨⟨i + 1, _, by omega, by go_num, ?_, ?_, fun h => absurd h hz, Lib.hid (fresh_step s l i hlt hl.out)⟩, by simp [intOf]; omega⟩
        · have := HU.out
          rw [HFA.out] at this
          exact this
        · have := HB.out
          rw [HFA.out] at this ⊢
          exact this
      · have hieq : i = 4096 := by omega
        subst hieq
        have hfin : l = freshL s := by
          rw [hl.out]
          unfold freshL
          rw [if_neg hz, List.take_of_length_le (by rw [List.length_map, List.length_range]; exact Nat.le_refl _), List.drop_of_length_le (by rw [show blankL.length = 4096 from List.length_replicate]; exact Nat.le_refl _), List.append_nil]
        clear hs0
        have hst := fun cap => run_string_buf hB 52 5 9 Tryz.underlying52 Tryz.underlying5 Tryz.underlying9 4096 cap hll
        have HN := Lib.hid (chip_new ⟨l.toArray⟩ wr (by simpa [ByteArray.size] using hll))
        have HU := Lib.hid hU
        have HL := Lib.hid hfin
        clear hB hU hfin hl
        go_wp2_with (go_at_call 30; refine HN.out.mono ?_; rintro e w2 ⟨b, S, rfl, hA, hS, hU2⟩)
        go_ret
        refine ⟨b, S, rfl, by rw [← HL.out]; exact hA, fun k hk => ?_, HU.out.trans hU2 (fun _ _ f => f)⟩
        have := hS k hk
        have := HU.out.size
        omega
end Go.Proofs.YtjdjdfllggpckaaGreat
