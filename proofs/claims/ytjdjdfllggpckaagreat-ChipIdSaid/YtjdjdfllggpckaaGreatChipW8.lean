/- The walk over byteAt. -/
import Derived.Test.YtjdjdfllggpckaaGreatChipW7
import Derived.Test.YtjdjdfllggpckaaGreatBuf
namespace Go.Proofs.YtjdjdfllggpckaaGreat
open Go.RowKit
theorem wrap_byte (c : UInt8) : IntKind.i64.wrap (c.toNat : Int) = (c.toNat : Int) := IntWalk.i64_in _ (by have := c.toNat_lt; omega)
theorem wrap64_byte' (c : UInt8) : wrap64 (c.toNat : Int) = (c.toNat : Int) := IntWalk.wrap64_in _ (by have := c.toNat_lt; omega)
theorem ret_int {a b : Int} (h : a = b) : Ending.returned (.int .i64 a) = .returned (.int .i64 b) := by rw [h]
/-- The contract of 'table' that byteAt leans on. -/
def TableSaid : Prop := ∀ (b : Nat) (s : St) (jv bv dv : Value) (w : World), CB w b s jv bv dv → Calls Tryz.prog 98 #[.pointer (some ⟨b, 0, none⟩)] w fun e w' =>
  e = .returned (.string sfdpTab) ∧ CB w' b { s with tabled := true } jv bv dv ∧ Upd (fun k => k = b) w w'
set_option maxHeartbeats 1000000 in
theorem chip_byteAt (ht : TableSaid) (b : Nat) (i : Int) (s : St) (jv bv dv : Value) (w : World) (h : CB w b s jv bv dv) (hj : JobV w jv s.job) (ha : s.a.size = 4096) (hi : 0 ≤ i ∧ i ≤ 1099511627776) (had : 0 ≤ s.addr ∧ s.addr < 4096) :
    Calls Tryz.prog 87 #[.pointer (some ⟨b, 0, none⟩), .int .i64 i] w fun e w' =>
      e = .returned (.int .i64 (s.byteAt i)) ∧ CB w' b { s with tabled := s.tabled || decide (s.op.byte = 90) } jv bv dv ∧ Upd (fun k => k = b) w w' := by
  have hst := chip_status b s jv bv dv w h hj
  by_cases h159 : s.op.byte = 159
  · have htb : (s.tabled || decide (s.op.byte = 90)) = s.tabled := by simp [h159]
    have HT := Lib.hid htb
    have HST := Lib.hid hst
    have i0 : ∀ w, (Instr.index 130 (.agg #[.int .i64 239, .int .i64 64, .int .i64 12]) (.int .i64 0)).run Tryz.prog w = .ok (.int .i64 239) w := fun _ => by kernel_rfl
    have i1 : ∀ w, (Instr.index 130 (.agg #[.int .i64 239, .int .i64 64, .int .i64 12]) (.int .i64 1)).run Tryz.prog w = .ok (.int .i64 64) w := fun _ => by kernel_rfl
    have i2 : ∀ w, (Instr.index 130 (.agg #[.int .i64 239, .int .i64 64, .int .i64 12]) (.int .i64 2)).run Tryz.prog w = .ok (.int .i64 12) w := fun _ => by kernel_rfl
    clear htb hst
    rcases (show i % 3 = 0 ∨ i % 3 = 1 ∨ i % 3 = 2 by omega) with h3 | h3 | h3
    all_goals
      have hfin : s.byteAt i = ([239, 64, 12] : List Int).getD (i % 3).toNat 0 := by simp [St.byteAt, h159]
      rw [h3] at hfin
      have HF := Lib.hid hfin
      have c20' := h.cell 20
      simp only [St.list, List.getElem?_cons_succ, List.getElem?_cons_zero] at c20'
      rw [h159] at c20'
      have H159 := Lib.hid h159
      clear hfin
      clear h159
      go_enter Tryz.func87, Tryz.ntmps87
      go_wp2_with fail
      refine HST.out.mono ?_
      rintro e w1 ⟨rfl, hU1⟩
      have h1 := h.upd hU1 (fun f => f)
      have c20 := (hU1.cell (p := ⟨b, 20, none⟩) h.lt (fun f => f)).trans c20'
      go_wp2
      go_ret
      refine ⟨by rw [HF.out]; rfl, by rw [HT.out]; exact h1, hU1.mono (fun _ _ f => f.elim)⟩
  · have hst' := Lib.hid hst
    clear hst
    have n159 : (s.op.byte == 159) = false := by simpa using h159
    by_cases h5 : s.op.byte = 5
    · have htb : (s.tabled || decide (s.op.byte = 90)) = s.tabled := by simp [h5]
      have hfin : s.byteAt i = s.first := by simp [St.byteAt, h5]
      have HT := Lib.hid htb
      have HF := Lib.hid hfin
      have c20' := h.cell 20
      simp only [St.list, List.getElem?_cons_succ, List.getElem?_cons_zero] at c20'
      rw [h5] at c20'
      clear htb hfin h5 n159 h159
      go_enter Tryz.func87, Tryz.ntmps87
      go_wp2_with fail
      refine hst'.out.mono ?_
      rintro e w1 ⟨rfl, hU1⟩
      have h1 := h.upd hU1 (fun f => f)
      have c20 := (hU1.cell (p := ⟨b, 20, none⟩) h.lt (fun f => f)).trans c20'
      go_wp2
      go_ret
      refine ⟨by rw [HF.out]; rfl, by rw [HT.out]; exact h1, hU1.mono (fun _ _ f => f.elim)⟩
    · have n5 : (s.op.byte == 5) = false := by simpa using h5
      by_cases h53 : s.op.byte = 53
      · have htb : (s.tabled || decide (s.op.byte = 90)) = s.tabled := by simp [h53]
        have hfin : s.byteAt i = s.second := by simp [St.byteAt, h53]
        have HT := Lib.hid htb
        have HF := Lib.hid hfin
        have c20' := h.cell 20
        simp only [St.list, List.getElem?_cons_succ, List.getElem?_cons_zero] at c20'
        rw [h53] at c20'
        clear htb hfin h5 n159 h159 n5 h53
        go_enter Tryz.func87, Tryz.ntmps87
        go_wp2_with fail
        refine hst'.out.mono ?_
        rintro e w1 ⟨rfl, hU1⟩
        have h1 := h.upd hU1 (fun f => f)
        have c20 := (hU1.cell (p := ⟨b, 20, none⟩) h.lt (fun f => f)).trans c20'
        go_wp2
        go_ret
        refine ⟨by rw [HF.out]; rfl, by rw [HT.out]; exact h1, hU1.mono (fun _ _ f => f.elim)⟩
      · have n53 : (s.op.byte == 53) = false := by simpa using h53
        by_cases h90 : s.op.byte = 90
        · have htb : (s.tabled || decide (s.op.byte = 90)) = true := by simp [h90]
          have hfin : s.byteAt i = byteOf sfdpTab ((s.addr + i) % 32).toNat := by simp [St.byteAt, h90]
          have HT := Lib.hid htb
          have HF := Lib.hid hfin
          have c20' := h.cell 20
          have c29' := h.cell 29
          simp only [St.list, List.getElem?_cons_succ, List.getElem?_cons_zero] at c20' c29'
          rw [h90] at c20'
          obtain ⟨k, hk⟩ : ∃ k : Nat, (k : Int) = (s.addr + i) % 32 := ⟨((s.addr + i) % 32).toNat, by omega⟩
          have hsum : IntKind.i64.wrap (s.addr + i) = s.addr + i := IntWalk.i64_in _ (by omega)
          have htm : (s.addr + i).tmod 32 = (k : Int) := by rw [Int.tmod_eq_emod_of_nonneg (by omega)]; exact hk.symm
          have hmd : (s.addr + i) % 32 = (k : Int) := hk.symm
          have hk32 : k < 32 := by omega
          have hsz : sfdpTab.size = 32 := rfl
          have hk33 : (k : Int) < 32 := by omega
          have hk34 : k < sfdpTab.size := by omega
          have hx : (sfdpTab.data.toList.getD k 0) = sfdpTab[k]'(by exact hk32) := str_at sfdpTab k (by exact hk32)
          have hv : s.byteAt i = ((sfdpTab[k]'hk34).toNat : Int) := by rw [hfin, byteOf, ← hk, Int.toNat_natCast]; exact congrArg (fun c : UInt8 => ((c.toNat : Nat) : Int)) hx
          have HV := Lib.hid hv
          clear htb hfin h5 n159 h159 n5 h53 n53 h90 hk hx hv HF
          go_enter Tryz.func87, Tryz.ntmps87
          go_wp2_with fail
          refine hst'.out.mono ?_
          rintro e w1 ⟨rfl, hU1⟩
          have h1 := h.upd hU1 (fun f => f)
          have c20 := (hU1.cell (p := ⟨b, 20, none⟩) h.lt (fun f => f)).trans c20'
          have c29 := (hU1.cell (p := ⟨b, 29, none⟩) h.lt (fun f => f)).trans c29'
          go_wp2_with fail
          go_region_with (go_at_call 98; go_must (refine (ht b s jv bv dv _ ?_).mono ?_; exact h1.drew; rintro e w2 ⟨rfl, hB2, hU2⟩; have d29 := hB2.cell 29; simp only [St.list, List.getElem?_cons_succ, List.getElem?_cons_zero] at d29))
          all_goals go_wp2
          all_goals go_ret
          all_goals
            refine ⟨ret_int ?_, by rw [HT.out]; exact hB2, (hU1.drew.mono (fun _ _ f => f.elim)).trans hU2 (fun _ _ k => k)⟩
            rw [HV.out]; exact wrap_byte _
        · have htb : (s.tabled || decide (s.op.byte = 90)) = s.tabled := by simp [h90]
          have n90 : (s.op.byte == 90) = false := by simpa using h90
          have hfin : s.byteAt i = byteOf s.a ((s.addr + i) % 4096).toNat := by simp [St.byteAt, h159, h5, h53, h90]
          have HT := Lib.hid htb
          have HF := Lib.hid hfin
          have c0' := h.cell 0
          have c20' := h.cell 20
          have c29' := h.cell 29
          simp only [St.list, List.getElem?_cons_succ, List.getElem?_cons_zero] at c0' c20' c29'
          obtain ⟨k, hk⟩ : ∃ k : Nat, (k : Int) = (s.addr + i) % 4096 := ⟨((s.addr + i) % 4096).toNat, by omega⟩
          have hsum : IntKind.i64.wrap (s.addr + i) = s.addr + i := IntWalk.i64_in _ (by omega)
          have htm : (s.addr + i).tmod 4096 = (k : Int) := by rw [Int.tmod_eq_emod_of_nonneg (by omega)]; exact hk.symm
          have hmd : (s.addr + i) % 4096 = (k : Int) := hk.symm
          have hk32 : k < s.a.size := by omega
          have hk33 : (k : Int) < 4096 := by omega
          have hx : (s.a.data.toList.getD k 0) = s.a[k] := str_at s.a k hk32
          have hv : s.byteAt i = ((s.a[k]).toNat : Int) := by rw [hfin, byteOf, ← hk, Int.toNat_natCast]; exact congrArg (fun c : UInt8 => ((c.toNat : Nat) : Int)) hx
          have HV := Lib.hid hv
          clear htb hfin h5 h159 h53 h90 hk hx hv HF
          go_enter Tryz.func87, Tryz.ntmps87
          go_wp2_with fail
          refine hst'.out.mono ?_
          rintro e w1 ⟨rfl, hU1⟩
          have h1 := h.upd hU1 (fun f => f)
          have c0 := (hU1.cell (p := ⟨b, 0, none⟩) h.lt (fun f => f)).trans c0'
          have c20 := (hU1.cell (p := ⟨b, 20, none⟩) h.lt (fun f => f)).trans c20'
          have c29 := (hU1.cell (p := ⟨b, 29, none⟩) h.lt (fun f => f)).trans c29'
          go_wp2_with fail
          go_region
          all_goals go_wp2
          all_goals go_ret
          all_goals refine ⟨ret_int ?_, by rw [HT.out]; exact h1.drew, hU1.drew.mono (fun _ _ f => f.elim)⟩
          all_goals rw [HV.out]
          all_goals exact wrap64_byte' _
end Go.Proofs.YtjdjdfllggpckaaGreat
