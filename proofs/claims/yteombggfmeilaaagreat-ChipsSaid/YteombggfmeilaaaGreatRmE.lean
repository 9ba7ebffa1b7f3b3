/- The walks over lichenref1's Program, and over what is done. · The walks over the document's chip's byteOut, data, part1. · The walk over the document's chip's data. · The walk over the document's chip's data that go; its data whole. · The walk over the document's chip's part1. · The walk over the document's chip's Clock. -/
import Derived.Test.YteombggfmeilaaaGreatRmA
import Derived.Test.YteombggfmeilaaaGreatRefErase
import Derived.Test.YteombggfmeilaaaGreatRefSfdp
namespace Go.Proofs.YteombggfmeilaaaGreat
open Go.RowKit
theorem ref_program (a : ByteArray) (lo : Nat) (data : ByteArray) (w : World) (ha : a.size = 4096) (hlo : lo + data.size ≤ 4096) :
    Calls Tryz.prog 160 #[.string a, .int .i64 lo, .string data] w fun e w' => e = .returned (.tuple #[.string (progCut a lo data all255), .int .i64 0]) ∧ Upd none' w w' := by
  have H := Lib.hid (ref_programcut a lo data all255 w ha hlo (by decide))
  go_enter Tryz.func160, Tryz.ntmps160
  go_wp2_with (go_at_call 107; refine H.out.mono ?_; rintro e w1 ⟨rfl, hU⟩)
  go_ret2
  exact ⟨rfl, hU⟩
/-- What is under way is of a form. -/
def RSt.Kept (r : RSt) : Prop := r.a.size = 4096 ∧ (r.kind = 2 ∧ 0 ≤ r.att ∧ r.att + 32 ≤ 4096 ∧ r.jdata.size = 32 ∨ r.kind ≠ 2 ∧ 0 ≤ r.att ∧ r.att < 4096)
theorem tdiv512 {z : Int} (h : 0 ≤ z) : z.tdiv 512 = z / 512 := Int.tdiv_eq_ediv_of_nonneg h
set_option maxHeartbeats 1000000 in
theorem ref_done (b : Nat) (r : RSt) (wv bv iv : Value) (w : World) (h : RB w b r wv bv iv) (hk : r.Kept) :
    Calls Tryz.prog 100 #[.pointer (some ⟨b, 0, none⟩)] w fun e w' => e = .returned (.tuple #[]) ∧ RB w' b r.done wv bv iv ∧ Upd (fun k => k = b) w w' := by
  obtain ⟨ha, hk⟩ := hk
  have l0 : ∀ u : UW w, u.val.cell? ⟨b, 0, none⟩ = some (.string r.a) := fun u => (h.upd u.upd (fun f => f)).cell 0
  have l8 : ∀ u : UW w, u.val.cell? ⟨b, 8, none⟩ = some (.int .i64 r.att) := fun u => (h.upd u.upd (fun f => f)).cell 8
  have l9 : ∀ u : UW w, u.val.cell? ⟨b, 9, none⟩ = some (.string r.jdata) := fun u => (h.upd u.upd (fun f => f)).cell 9
  have c7 := h.cell 7
  simp only [RSt.list, List.getElem?_cons_succ, List.getElem?_cons_zero] at c7
  have HB : Hid _ := Lib.hid h
  have hlt := h.lt
  have fin : ∀ (A : ByteArray) (w1 : World), Upd none' w w1 → RB (((w1.setCell ⟨b, 0, none⟩ (.string A)).setCell ⟨b, 7, none⟩ (.int .i64 0)).setCell ⟨b, 5, none⟩ (.bool false)) b { r with a := A, kind := 0, en := false } wv bv iv ∧ Upd (fun k => k = b) w (((w1.setCell ⟨b, 0, none⟩ (.string A)).setCell ⟨b, 7, none⟩ (.int .i64 0)).setCell ⟨b, 5, none⟩ (.bool false)) := by
    intro A w1 hu
    have h1 := h.upd hu (fun f => f)
    refine ⟨((h1.set 0 _).set 7 _).set 5 _, ?_⟩
    exact (((hu.mono (T := fun k => k = b) (fun _ _ f => f.elim)).setCell ⟨b, 0, none⟩ _ (fun _ => rfl)).setCell ⟨b, 7, none⟩ _ (fun _ => rfl)).setCell ⟨b, 5, none⟩ _ (fun _ => rfl)
  have HF := Lib.hid fin
  clear fin h
  rcases hk with ⟨h1, h2, h3, h4⟩ | ⟨h1, h2, h3⟩
  · rw [h1] at c7
    have hR : r.done = { r with a := progCut r.a r.att.toNat r.jdata all255, kind := 0, en := false } := by unfold RSt.done; rw [if_pos h1]
    have HR := Lib.hid hR
    obtain ⟨n, hn⟩ : ∃ n : Nat, r.att = (n : Int) := ⟨r.att.toNat, by omega⟩
    have hnn : r.att.toNat = n := by omega
    have HP := Lib.hid (fun W => ref_program r.a n r.jdata W ha (by omega))
    rw [hn] at l8
    rw [hnn] at HR
    clear hR h1 h2 h3 h4 hn hnn ha
    go_enter Tryz.func100, Tryz.ntmps100
    go_upto_region 1 with fail
    refine wp_region_upd_lit w (Upd.refl none' w) (by kernel_rfl) (by kernel_rfl) ?_
    repeat (go_big_quiet_step ((go_at_call 160; exact quiet_upd (HP.out _))))
    refine wpQuiet_nil ?_
    rintro _ ⟨⟨w1, hU1⟩, rfl⟩
    have hB1 := HB.out.upd hU1 (fun f => f)
    have d0 := hB1.cell 0
    have d7 := hB1.cell 7
    have d5 := hB1.cell 5
    have g0 := hB1.frozen 0
    have g7 := hB1.frozen 7
    have g5 := hB1.frozen 5
    have hlt1 := hB1.lt
    simp only [RSt.list, List.getElem?_cons_succ, List.getElem?_cons_zero] at d0 d7 d5
    have HU1 := Lib.hid hU1
    clear hB1 hU1
    go_wp2
    go_end0
    rw [HR.out]
    exact ⟨rfl, HF.out _ _ HU1.out⟩
  · have h1b : (r.kind == 2) = false := by simpa using h1
    have hR : r.done = { r with a := eraseCut r.a (r.att / 512).toNat all255, kind := 0, en := false } := by unfold RSt.done; rw [if_neg h1]
    have HR := Lib.hid hR
    obtain ⟨n, hn⟩ : ∃ n : Nat, r.att / 512 = (n : Int) := ⟨(r.att / 512).toNat, by omega⟩
    have hnn : (r.att / 512).toNat = n := by omega
    have htd : r.att.tdiv 512 = (n : Int) := by rw [tdiv512 h2, hn]
    have hwr : IntKind.i64.wrap (n : Int) = (n : Int) := IntWalk.i64_in _ (by omega)
    have HP := Lib.hid (fun W => ref_erase r.a n W ha (by omega))
    rw [hnn] at HR
    clear hR h1 h3 hn hnn ha
    go_enter Tryz.func100, Tryz.ntmps100
    go_upto_region 3 with fail
    refine wp_region_upd_lit w (Upd.refl none' w) (by kernel_rfl) (by kernel_rfl) ?_
    repeat (go_big_quiet_step ((go_at_call 161; exact quiet_upd (HP.out _))))
    refine wpQuiet_nil ?_
    rintro _ ⟨⟨w1, hU1⟩, rfl⟩
    have hB1 := HB.out.upd hU1 (fun f => f)
    have d0 := hB1.cell 0
    have d7 := hB1.cell 7
    have d5 := hB1.cell 5
    have g0 := hB1.frozen 0
    have g7 := hB1.frozen 7
    have g5 := hB1.frozen 5
    have hlt1 := hB1.lt
    simp only [RSt.list, List.getElem?_cons_succ, List.getElem?_cons_zero] at d0 d7 d5
    have HU1 := Lib.hid hU1
    clear hB1 hU1
    go_wp2
    go_end0
    rw [HR.out]
    exact ⟨rfl, HF.out _ _ HU1.out⟩
end Go.Proofs.YteombggfmeilaaaGreat
namespace Go.Proofs.YteombggfmeilaaaGreat
open Go.RowKit
set_option maxRecDepth 100000 in
set_option maxHeartbeats 2000000 in
theorem ref_byteout (b : Nat) (r : RSt) (wv bv iv : Value) (w : World) (h : RB w b r wv bv iv) (ha : r.a.size = 4096) (hse : 0 ≤ r.sent ∧ r.sent ≤ 1099511627776) (had : 0 ≤ r.addr ∧ r.addr < 4096) :
    Calls Tryz.prog 192 #[.pointer (some ⟨b, 0, none⟩)] w fun e w' => e = .returned (.int .i64 r.byteOut) ∧ Upd none' w w' := by
  have c13 := h.cell 13
  simp only [RSt.list, List.getElem?_cons_succ, List.getElem?_cons_zero] at c13
  have HST : Hid _ := Lib.hid (ref_status b r wv bv iv w h)
  have HB := Lib.hid h
  have hlt := h.lt
  by_cases e1 : r.op.byte = 159
  · rcases (show r.sent % 3 = 0 ∨ r.sent % 3 = 1 ∨ r.sent % 3 = 2 by omega) with h3 | h3 | h3
    all_goals
      have hR : r.byteOut = ([239, 64, 12] : List Int).getD (r.sent % 3).toNat 0 := by unfold RSt.byteOut; rw [if_pos e1]
      rw [h3] at hR
      have htm : r.sent.tmod 3 = r.sent % 3 := Int.tmod_eq_emod_of_nonneg (by omega)
      rw [h3] at htm
      have HR := Lib.hid hR
      have HE := Lib.hid e1
      have HTM := Lib.hid htm
      clear hR e1 h htm
      go_enter Tryz.func192, Tryz.ntmps192
      go_wp2_with fail
      refine HST.out.mono ?_
      rintro e w1 ⟨rfl, hU1⟩
      have hB1 := HB.out.upd hU1 (fun f => f)
      have d13 := hB1.cell 13
      have d30 := hB1.cell 30
      simp only [RSt.list, List.getElem?_cons_succ, List.getElem?_cons_zero] at d13 d30
      rw [HE.out] at d13
      have htm := HTM.out
      have hlt1 := hB1.lt
      clear c13 hB1
      go_wp2
      go_ret
      exact ⟨by rw [HR.out]; rfl, hU1.alloc _⟩
  · by_cases e2 : r.op.byte = 5
    · have hR : r.byteOut = r.first := by unfold RSt.byteOut; rw [if_neg e1, if_pos e2]
      have HR := Lib.hid hR
      have HE := Lib.hid e2
      clear hR e1 h
      go_enter Tryz.func192, Tryz.ntmps192
      go_wp2_with fail
      refine HST.out.mono ?_
      rintro e w1 ⟨rfl, hU1⟩
      have d13 := (HB.out.upd hU1 (fun f => f)).cell 13
      simp only [RSt.list, List.getElem?_cons_succ, List.getElem?_cons_zero] at d13
      rw [HE.out] at d13
      clear c13 e2
      go_wp2
      go_ret
      exact ⟨by rw [HR.out]; rfl, hU1⟩
    · by_cases e3 : r.op.byte = 53
      · have hR : r.byteOut = r.second := by unfold RSt.byteOut; rw [if_neg e1, if_neg e2, if_pos e3]
        have HR := Lib.hid hR
        have HE := Lib.hid e3
        clear hR e1 e2 h
        go_enter Tryz.func192, Tryz.ntmps192
        go_wp2_with fail
        refine HST.out.mono ?_
        rintro e w1 ⟨rfl, hU1⟩
        have d13 := (HB.out.upd hU1 (fun f => f)).cell 13
        simp only [RSt.list, List.getElem?_cons_succ, List.getElem?_cons_zero] at d13
        rw [HE.out] at d13
        clear c13 e3
        go_wp2
        go_ret
        exact ⟨by rw [HR.out]; rfl, hU1⟩
      · by_cases e4 : r.op.byte = 90
        · have hR : r.byteOut = byteOf sfdpTab ((r.addr + r.sent) % 32).toNat := by unfold RSt.byteOut; rw [if_neg e1, if_neg e2, if_neg e3, if_pos e4]
          obtain ⟨k, hk⟩ : ∃ k : Nat, (k : Int) = (r.addr + r.sent) % 32 := ⟨((r.addr + r.sent) % 32).toNat, by omega⟩
          have hsum : IntKind.i64.wrap (r.addr + r.sent) = r.addr + r.sent := IntWalk.i64_in _ (by omega)
          have htm : (r.addr + r.sent).tmod 32 = (k : Int) := by rw [Int.tmod_eq_emod_of_nonneg (by omega)]; exact hk.symm
          have hmd : (r.addr + r.sent) % 32 = (k : Int) := hk.symm
          have hk32 : k < 32 := by omega
          have hsz : sfdpTab.size = 32 := rfl
          have hk33 : (k : Int) < 32 := by omega
          have hk34 : k < sfdpTab.size := by omega
          have hx : (sfdpTab.data.toList.getD k 0) = sfdpTab[k]'(by exact hk32) := str_at sfdpTab k (by exact hk32)
          have hv : r.byteOut = ((sfdpTab[k]'hk34).toNat : Int) := by rw [hR, byteOf, ← hk, Int.toNat_natCast]; exact congrArg (fun c : UInt8 => ((c.toNat : Nat) : Int)) hx
          have HV := Lib.hid hv
          have HE := Lib.hid e4
          clear hR e1 e2 e3 h hk hx hv
          go_enter Tryz.func192, Tryz.ntmps192
          go_wp2_with fail
          refine HST.out.mono ?_
          rintro e w1 ⟨rfl, hU1⟩
          have hB1 := HB.out.upd hU1 (fun f => f)
          have d13 := hB1.cell 13
          simp only [RSt.list, List.getElem?_cons_succ, List.getElem?_cons_zero] at d13
          rw [HE.out] at d13
          clear c13 e4
          go_wp2_with fail
          refine (ref_sfdp w1).mono ?_
          rintro e w2 ⟨rfl, hU2⟩
          have hB2 := hB1.upd hU2 (fun f => f)
          have d24 := hB2.cell 24
          have d30 := hB2.cell 30
          simp only [RSt.list, List.getElem?_cons_succ, List.getElem?_cons_zero] at d24 d30
          clear hB1 d13 hB2
          generalize sfdpTab = tab at *
          go_wp2_with fail
          go_region
          all_goals go_wp2
          all_goals go_ret
          all_goals refine ⟨ret_int ?_, (hU1.trans hU2 (fun _ _ f => f)).drew⟩
          all_goals rw [HV.out]
          all_goals exact wrap64_byte' _
        · have hR : r.byteOut = byteOf r.a ((r.addr + r.sent) % 4096).toNat := by unfold RSt.byteOut; rw [if_neg e1, if_neg e2, if_neg e3, if_neg e4]
          have n1 : (r.op.byte == 159) = false := by simpa using e1
          have n2 : (r.op.byte == 5) = false := by simpa using e2
          have n3 : (r.op.byte == 53) = false := by simpa using e3
          have n4 : (r.op.byte == 90) = false := by simpa using e4
          obtain ⟨k, hk⟩ : ∃ k : Nat, (k : Int) = (r.addr + r.sent) % 4096 := ⟨((r.addr + r.sent) % 4096).toNat, by omega⟩
          have hsum : IntKind.i64.wrap (r.addr + r.sent) = r.addr + r.sent := IntWalk.i64_in _ (by omega)
          have htm : (r.addr + r.sent).tmod 4096 = (k : Int) := by rw [Int.tmod_eq_emod_of_nonneg (by omega)]; exact hk.symm
          have hmd : (r.addr + r.sent) % 4096 = (k : Int) := hk.symm
          have hk32 : k < r.a.size := by omega
          have hk33 : (k : Int) < 4096 := by omega
          have hx : (r.a.data.toList.getD k 0) = r.a[k] := str_at r.a k hk32
          have hv : r.byteOut = ((r.a[k]).toNat : Int) := by rw [hR, byteOf, ← hk, Int.toNat_natCast]; exact congrArg (fun c : UInt8 => ((c.toNat : Nat) : Int)) hx
          have HV := Lib.hid hv
          clear hR e1 e2 e3 e4 h hk hx hv
          go_enter Tryz.func192, Tryz.ntmps192
          go_wp2_with fail
          refine HST.out.mono ?_
          rintro e w1 ⟨rfl, hU1⟩
          have hB1 := HB.out.upd hU1 (fun f => f)
          have d13 := hB1.cell 13
          have d0 := hB1.cell 0
          have d24 := hB1.cell 24
          have d30 := hB1.cell 30
          simp only [RSt.list, List.getElem?_cons_succ, List.getElem?_cons_zero] at d13 d24 d30 d0
          clear c13 hB1
          go_wp2_with fail
          go_region
          all_goals go_wp2
          all_goals go_ret
          all_goals refine ⟨ret_int ?_, hU1.drew⟩
          all_goals rw [HV.out]
          all_goals exact wrap64_byte' _
end Go.Proofs.YteombggfmeilaaaGreat
namespace Go.Proofs.YteombggfmeilaaaGreat
open Go.RowKit
/-- What a clock of the document's chip leaves. -/
def RPost (b : Nat) (iv : Value) (w : World) (res : Value) (r' : RSt) (wv bv : Value) (e : Ending) (w' : World) : Prop :=
  e = .returned res ∧ ∃ iv', RB w' b r' wv bv iv' ∧ Row w' 3 iv' (ints r'.inn) ∧ (∀ k, iv'.ownBlock = some k → iv.ownBlock = some k ∨ w.heap.size ≤ k) ∧ Upd (fun k => k = b ∨ iv.ownBlock = some k) w w'
theorem rpost_same {b : Nat} {iv : Value} {w w' : World} {r' : RSt} {wv bv : Value} {res : Value} {e : Ending} (he : e = .returned res) (hB : RB w' b r' wv bv iv) (hU : Upd (fun k => k = b) w w') {l : List Int} (hd : Row w 3 iv (ints l)) (hl : r'.inn = l) (hdb : ∀ k, iv.ownBlock = some k → k ≠ b) : RPost b iv w res r' wv bv e w' := by
  subst hl
  exact ⟨he, iv, hB, hd.upd hU hdb, fun k hk => .inl hk, hU.mono (fun k _ e => .inl e)⟩
theorem or2 (z x : Int) (hz : 0 ≤ z ∧ z ≤ 1073741824) : bits .or .i64 (z * 2) (bits .and .i64 x 1) = z * 2 + x % 2 := by
  rw [i64_and1, i64_or1 _ _ (by omega) (by omega) (by omega) (by omega) (by omega)]
theorem or16 (z x : Int) (hz : 0 ≤ z ∧ z ≤ 1073741824) : bits .or .i64 (z * 16) (bits .and .i64 x 15) = z * 16 + x % 16 := by
  rw [i64_and15, i64_or4 _ _ (by omega) (by omega) (by omega) (by omega) (by omega)]
theorem ref_says1_cases (r : RSt) : r.says1.op = r.op ∧ r.says1.inn = r.inn := by unfold RSt.says1; split <;> exact ⟨rfl, rfl⟩
set_option maxRecDepth 100000 in
set_option maxHeartbeats 2000000 in
theorem ref_says (b : Nat) (x : Int) (r : RSt) (wv bv iv : Value) (w : World) (h : RB w b r wv bv iv) (hd : Row w 3 iv (ints r.inn)) (hdb : ∀ k, iv.ownBlock = some k → k ≠ b) (ha : r.a.size = 4096)
    (hi : r.op.inn = false) (hk : r.op.data = 1 ∧ 0 ≤ r.bits ∧ r.bits ≤ 7 ∨ r.op.data = 4 ∧ (r.bits = 0 ∨ r.bits = 4)) (hse : 0 ≤ r.sent ∧ r.sent ≤ 1099511627776) (had : 0 ≤ r.addr ∧ r.addr < 4096) (ho : 0 ≤ r.out ∧ r.out ≤ 255) (hby : 0 ≤ r.byteOut ∧ r.byteOut ≤ 255) :
    Calls Tryz.prog 162 #[.pointer (some ⟨b, 0, none⟩), .int .i64 x] w (RPost b iv w (.int .i64 r.says.2) r.says.1 wv bv) := by
  have c17 := h.cell 17
  have c18 := h.cell 18
  have c21 := h.cell 21
  simp only [RSt.list, List.getElem?_cons_succ, List.getElem?_cons_zero] at c17 c18 c21
  rw [hi] at c18
  have hdn : (r.op.data == 0) = false := by
    have : ¬ r.op.data = 0 := by omega
    simpa using this
  have hlt := h.lt
  go_enter Tryz.func162, Tryz.ntmps162
  go_upto_if 65 with (fail)
  go_cut [] (fun wx => RB wx b r.says1 wv bv iv ∧ Upd (fun k => k = b) w wx)
  case first =>
    by_cases hl : r.bits = 0
    · have hs1 : r.says1 = { r with out := r.byteOut, sent := r.sent + 1 } := by unfold RSt.says1; rw [if_pos hl]
      have hl0 : (r.bits == 0) = true := by simpa using hl
      have HS := Lib.hid hs1
      have HBY := Lib.hid (ref_byteout b r wv bv iv w h ha hse had)
      have HB := Lib.hid h
      have hwr : IntKind.i64.wrap (r.sent + 1) = r.sent + 1 := IntWalk.i64_in _ (by omega)
      clear hl hs1 hk hby hdn hd h
      go_wp2_with fail
      refine HBY.out.mono ?_
      rintro e w1 ⟨rfl, hU1⟩
      have hB1 := HB.out.upd hU1 (fun f => f)
      have d29 := hB1.cell 29
      have d30 := hB1.cell 30
      have f29 := hB1.frozen 29
      have f30 := hB1.frozen 30
      simp only [RSt.list, List.getElem?_cons_succ, List.getElem?_cons_zero] at d29 d30
      have hlt1 := hB1.lt
      have HB1 := Lib.hid hB1
      have HU1 := Lib.hid hU1
      clear hB1 hU1
      go_wp2_with fail
      go_meet
      refine ⟨?_, ?_⟩
      · rw [HS.out]; exact (HB1.out.set 29 (.int .i64 r.byteOut)).set 30 (.int .i64 (r.sent + 1))
      · exact ((HU1.out.mono (T := fun k => k = b) (fun _ _ f => f.elim)).setCell ⟨b, 29, none⟩ _ (fun _ => rfl)).setCell ⟨b, 30, none⟩ _ (fun _ => rfl)
    · have hs1 : r.says1 = r := by unfold RSt.says1; rw [if_neg hl]
      have hl0 : (r.bits == 0) = false := by simpa using hl
      have HS := Lib.hid hs1
      clear hl hs1
      go_wp2_with fail
      go_meet
      exact ⟨by rw [HS.out]; exact h, Upd.refl _ _⟩
  case rest =>
    obtain ⟨hB, hU⟩ := hcut
    obtain ⟨hop, hinn⟩ := ref_says1_cases r
    have hbi : r.says1.bits = r.bits := by unfold RSt.says1; split <;> rfl
    have hout : 0 ≤ r.says1.out ∧ r.says1.out ≤ 255 := by
      unfold RSt.says1
      split
      · exact hby
      · exact ho
    have hsay : r.says = (let r1 := r.says1; let r2 := { r1 with bits := r1.bits + r1.op.data }; let r3 := if r2.bits = 8 then { r2 with bits := 0 } else r2; if r.op.data = 1 then (r3, 13 + 2 * (r1.out / 2 ^ (8 - r2.bits).toNat % 2)) else (r3, r1.out / 2 ^ (8 - r2.bits).toNat % 16)) := rfl
    have HY := Lib.hid hsay
    have HD := Lib.hid hd
    have HIN := Lib.hid hinn
    have e21 := hB.cell 21
    have e29 := hB.cell 29
    have f21 := hB.frozen 21
    have hlt1 := hB.lt
    simp only [RSt.list, List.getElem?_cons_succ, List.getElem?_cons_zero] at e21 e29
    rw [hbi] at e21
    have HOP := Lib.hid hop
    have HBI := Lib.hid hbi
    clear hsay hd hinn hop hbi hi hdn h c17 c18 c21
    generalize r.says1 = r1 at *
    rcases hk with ⟨h1, hl1, hl2⟩ | ⟨h1, hl⟩
    · have hw1 : IntKind.i64.wrap (r.bits + 1) = r.bits + 1 := IntWalk.i64_in _ (by omega)
      have hw2 : IntKind.i64.wrap (8 - (r.bits + 1)) = 8 - (r.bits + 1) := IntWalk.i64_in _ (by omega)
      have hw3 : (0 : Int) ≤ 8 - (r.bits + 1) := by omega
      have hw4 := hl1
      rw [h1]
      have hod : r1.op.data = 1 := by rw [HOP.out]; exact h1
      have H1 := Lib.hid h1
      by_cases h8 : r.bits + 1 = 8
      · have h8b : (r.bits + 1 == 8) = true := by simpa using h8
        have e0 : r1.out / 2 ^ (8 - (r.bits + 1)).toNat = r1.out := by
          rw [h8]
          show r1.out / 2 ^ 0 = r1.out
          simp
        have hs : r.says = ({ r1 with bits := 0 }, 13 + 2 * (r1.out % 2)) := by
          rw [HY.out]
          dsimp only
          rw [h1, hod, HBI.out, if_pos rfl, if_pos h8, e0]
        have HS := Lib.hid hs
        have H8 := Lib.hid h8
        clear hs hod h1 hw4 e0
        go_wp2_with fail
        go_region
        all_goals go_wp2
        all_goals go_ret
        all_goals
          rw [HS.out]
          refine rpost_same (l := r.inn) (ret_int ?_) ?_ ?_ HD.out HIN.out hdb
          · rw [i64_and1]; exact or13 _
          · exact (Blk.drew (hB.set 21 (.int .i64 8))).set 21 (.int .i64 0)
          · exact ((hU.setCell ⟨b, 21, none⟩ _ (fun _ => rfl)).drew).setCell ⟨b, 21, none⟩ _ (fun _ => rfl)
      · have h8b : (r.bits + 1 == 8) = false := by simpa using h8
        have hs : r.says = ({ r1 with bits := r.bits + 1 }, 13 + 2 * (r1.out / 2 ^ (8 - (r.bits + 1)).toNat % 2)) := by
          rw [HY.out]
          dsimp only
          rw [h1, hod, HBI.out, if_pos rfl, if_neg h8]
        have HS := Lib.hid hs
        clear hs hod h1 hw4 h8
        go_wp2_with fail
        go_region
        all_goals go_wp2
        all_goals go_ret
        all_goals
          rw [HS.out]
          refine rpost_same (l := r.inn) (ret_int ?_) ?_ ?_ HD.out HIN.out hdb
          · rw [i64_and1]; exact or13 _
          · exact hB.set 21 (.int .i64 (r.bits + 1))
          · exact (hU.setCell ⟨b, 21, none⟩ _ (fun _ => rfl)).drew
    · have hw1 : IntKind.i64.wrap (r.bits + 4) = r.bits + 4 := IntWalk.i64_in _ (by omega)
      have hw2 : IntKind.i64.wrap (8 - (r.bits + 4)) = 8 - (r.bits + 4) := IntWalk.i64_in _ (by omega)
      have hw3 : (0 : Int) ≤ 8 - (r.bits + 4) := by omega
      have hw4 := hl
      rw [h1]
      have hod : r1.op.data = 4 := by rw [HOP.out]; exact h1
      have H1 := Lib.hid h1
      by_cases h8 : r.bits + 4 = 8
      · have h8b : (r.bits + 4 == 8) = true := by simpa using h8
        have e0 : r1.out / 2 ^ (8 - (r.bits + 4)).toNat = r1.out := by
          rw [h8]
          show r1.out / 2 ^ 0 = r1.out
          simp
        have hs : r.says = ({ r1 with bits := 0 }, r1.out % 16) := by
          rw [HY.out]
          dsimp only
          rw [h1, hod, HBI.out, if_neg (show ¬ (4 : Int) = 1 by decide), if_pos h8, e0]
        have HS := Lib.hid hs
        have H8 := Lib.hid h8
        clear hs hod h1 hw4 e0
        go_wp2_with fail
        go_region
        all_goals go_wp2
        all_goals go_ret
        all_goals
          rw [HS.out]
          refine rpost_same (l := r.inn) (ret_int ?_) ?_ ?_ HD.out HIN.out hdb
          · rw [i64_and15]
          · exact (Blk.drew (hB.set 21 (.int .i64 8))).set 21 (.int .i64 0)
          · exact ((hU.setCell ⟨b, 21, none⟩ _ (fun _ => rfl)).drew).setCell ⟨b, 21, none⟩ _ (fun _ => rfl)
      · have h8b : (r.bits + 4 == 8) = false := by simpa using h8
        have hs : r.says = ({ r1 with bits := r.bits + 4 }, r1.out / 2 ^ (8 - (r.bits + 4)).toNat % 16) := by
          rw [HY.out]
          dsimp only
          rw [h1, hod, HBI.out, if_neg (show ¬ (4 : Int) = 1 by decide), if_neg h8]
        have HS := Lib.hid hs
        clear hs hod h1 hw4 h8
        go_wp2_with fail
        go_region
        all_goals go_wp2
        all_goals go_ret
        all_goals
          rw [HS.out]
          refine rpost_same (l := r.inn) (ret_int ?_) ?_ ?_ HD.out HIN.out hdb
          · rw [i64_and15]
          · exact hB.set 21 (.int .i64 (r.bits + 4))
          · exact (hU.setCell ⟨b, 21, none⟩ _ (fun _ => rfl)).drew
end Go.Proofs.YteombggfmeilaaaGreat
namespace Go.Proofs.YteombggfmeilaaaGreat
open Go.RowKit
theorem append_mk {b : Nat} {r : RSt} {wv bv iv : Value} {w w1 w2 : World} {g1 : Int} {g n cap : Nat} (hn : (ints r.inn).length = n) (hU1 : Upd (fun k => k = b) w w1) (h2 : w2.ownsRow 0 3 1 (.slice (some ⟨g, 0, none⟩) (n + 1) cap) (n + 1) (ints r.inn ++ [.int .i64 g1]))
    (hB2 : RB w2 b r wv bv iv) (U3 : Upd (fun k => iv.ownBlock = some k) w1 w2) (h4 : iv.ownBlock = some g ∨ w1.heap.size ≤ g) (hdb : ∀ k, iv.ownBlock = some k → k ≠ b) (hbl : b < w1.heap.size) :
    ∃ iv', RB (w2.setCell ⟨b, 27, none⟩ (.slice (some ⟨g, 0, none⟩) (n + 1) cap)) b { r with inn := r.inn ++ [g1] } wv bv iv' ∧ Row (w2.setCell ⟨b, 27, none⟩ (.slice (some ⟨g, 0, none⟩) (n + 1) cap)) 3 iv' (ints (r.inn ++ [g1])) ∧ (∀ k, iv'.ownBlock = some k → iv.ownBlock = some k ∨ w.heap.size ≤ k) ∧
      Upd (fun k => k = b ∨ iv.ownBlock = some k) w (w2.setCell ⟨b, 27, none⟩ (.slice (some ⟨g, 0, none⟩) (n + 1) cap)) := by
  have hgb : g ≠ b := by
    rcases h4 with h4 | h4
    · exact hdb g h4
    · omega
  have hs := (Upd.refl (fun k => k = b) w2).setCell ⟨b, 27, none⟩ (.slice (some ⟨g, 0, none⟩) (n + 1) cap) (fun _ => rfl)
  have hw := hU1.size
  refine ⟨_, hB2.set 27 (.slice (some ⟨g, 0, none⟩) (n + 1) cap), ?_, ?_, ?_⟩
  · have hR : Row w2 3 (.slice (some ⟨g, 0, none⟩) (n + 1) cap) (ints (r.inn ++ [g1])) := by
      unfold Row
      rw [ints_app, show ints [g1] = [Value.int .i64 g1] from rfl, List.length_append, hn]
      exact h2
    exact hR.upd hs (fun k hk e => hgb (by simp [Value.ownBlock] at hk; rw [hk, e]))
  · intro k hk
    simp [Value.ownBlock] at hk
    subst hk
    rcases h4 with h4 | h4
    · exact .inl h4
    · exact .inr (by omega)
  · exact ((hU1.mono (T := fun k => k = b ∨ iv.ownBlock = some k) (fun _ _ e => .inl e)).trans U3 (fun _ _ e => .inr e)).trans hs (fun _ _ e => .inl e)
set_option maxRecDepth 100000 in
set_option maxHeartbeats 2000000 in
theorem ref_takes (b : Nat) (x : Int) (r : RSt) (wv bv iv : Value) (w : World) (h : RB w b r wv bv iv) (hd : Row w 3 iv (ints r.inn)) (hdb : ∀ k, iv.ownBlock = some k → k ≠ b)
    (hi : r.op.inn = true) (hk : r.op.data ≠ 0) (hx : 0 ≤ r.x ∧ r.x ≤ 1073741824) (hbi : 0 ≤ r.bits ∧ r.bits ≤ 100) (hlen : r.inn.length ≤ 1048576) :
    Calls Tryz.prog 162 #[.pointer (some ⟨b, 0, none⟩), .int .i64 x] w (RPost b iv w (.int .i64 (r.dataC x).2) (r.dataC x).1 wv bv) := by
  have c17 := h.cell 17
  have c18 := h.cell 18
  have c21 := h.cell 21
  have c22 := h.cell 22
  have f21 := h.frozen 21
  have f22 := h.frozen 22
  simp only [RSt.list, List.getElem?_cons_succ, List.getElem?_cons_zero] at c17 c18 c21 c22
  rw [hi] at c18
  have hdn : (r.op.data == 0) = false := by simpa using hk
  have hlt := h.lt
  obtain ⟨g1, hg1⟩ : ∃ g1, (r.takesIn x 1).x = g1 := ⟨_, rfl⟩
  have hgv : bits .or .i64 (r.x * 2) (bits .and .i64 x 1) = g1 := by rw [or2 _ _ hx, ← hg1]; rfl
  have hw1 : IntKind.i64.wrap (r.bits + 1) = r.bits + 1 := IntWalk.i64_in _ (by omega)
  have hU1 : Upd (fun k => k = b) w ((w.setCell ⟨b, 22, none⟩ (.int .i64 g1)).setCell ⟨b, 21, none⟩ (.int .i64 (r.bits + 1))) := ((Upd.refl (fun k => k = b) w).setCell ⟨b, 22, none⟩ _ (fun _ => rfl)).setCell ⟨b, 21, none⟩ _ (fun _ => rfl)
  have hB1 : RB ((w.setCell ⟨b, 22, none⟩ (.int .i64 g1)).setCell ⟨b, 21, none⟩ (.int .i64 (r.bits + 1))) b { r with x := g1, bits := r.bits + 1 } wv bv iv := (h.set 22 _).set 21 _
  have hR0 : r.dataC x = (if r.bits + 1 = 8 then { r with inn := r.inn ++ [g1], bits := 0, x := 0 } else { r with x := g1, bits := r.bits + 1 }, 15) := by
    unfold RSt.dataC
    rw [if_neg hk, if_pos hi]
    subst hg1
    rfl
  have HR0 := Lib.hid hR0
  clear hR0 hg1 h
  go_enter Tryz.func162, Tryz.ntmps162
  go_upto_region 7 with fail
  generalize (w.setCell ⟨b, 22, none⟩ (.int .i64 g1)).setCell ⟨b, 21, none⟩ (.int .i64 (r.bits + 1)) = w1 at *
  by_cases h8 : r.bits + 1 = 8
  · have h8b : (r.bits + 1 == 8) = true := by simpa using h8
    have hR : r.dataC x = ({ r with inn := r.inn ++ [g1], bits := 0, x := 0 }, 15) := by rw [HR0.out, if_pos h8]
    have HR := Lib.hid hR
    clear hR HR0
    obtain ⟨da, dc, rfl, -⟩ := hd.form
    have e21 := hB1.cell 21
    have e22 := hB1.cell 22
    have e27 := hB1.cell 27
    have y27 := hB1.frozen 27
    simp only [RSt.list, List.getElem?_cons_succ, List.getElem?_cons_zero] at e21 e22 e27
    go_upto_region 8 with fail
    have hd1 := Lib.hid (hd.upd hU1 hdb)
    obtain ⟨i0, hi0, hz0, hz1, hz2⟩ := info_parts info_int
    have HB1 := Lib.hid hB1
    go_cut [] (fun wx => ∃ iv', RB wx b { r with x := g1, bits := r.bits + 1, inn := r.inn ++ [g1] } wv bv iv' ∧ Row wx 3 iv' (ints (r.inn ++ [g1])) ∧ (∀ k, iv'.ownBlock = some k → (Value.slice da (ints r.inn).length dc).ownBlock = some k ∨ w.heap.size ≤ k) ∧ Upd (fun k => k = b ∨ (Value.slice da (ints r.inn).length dc).ownBlock = some k) w wx)
    case first =>
      have U0 : Upd none' w1 (w1.alloc (.cells #[.int .i64 g1] 3)).drew := ((Upd.refl none' w1).alloc _).drew
      have hown := Lib.hid (hd1.out.upd U0 (fun _ _ f => f))
      have hnews : ∀ j u, [Value.int .i64 g1][j]? = some u → (w1.alloc (.cells #[.int .i64 g1] 3)).drew.cell? ((⟨w1.heap.size, 0, none⟩ : Addr).add j) = some u := World.news_of_block (cs := #[.int .i64 g1]) (Blk.new w1 [.int .i64 g1] 3).drew
      have HN := Lib.hid hnews
      have hbl := hB1.lt
      clear hnews
      go_region_law (refine step_append_lies _ rfl _ _ 33 rfl 0 3 i0 (.int .i64 0) 1 8 Tryz.underlying33 hi0 hz0 hz1 hz2 rfl (by decide) _ _ (ints r.inn) rfl hown.out _ 1 1 [.int .i64 g1] rfl rfl HN.out (by intro u hu; simp at hu; subst hu; rfl) (by decide) (by simp [ints, maxLen]; omega) (by simp [ints]; omega) (Nat.zero_le _) _ rfl ?_; intro g cap w2 h2 h3 h4 h5; have U2 := (Upd.refl none' w1).trans U0 (fun _ _ f => f); have U3 := (U2.mono (T := fun k => (Value.slice da (ints r.inn).length dc).ownBlock = some k) (fun _ _ f => f.elim)).grown h3 (fun k hk _ => hk); have HB2 := Lib.hid (HB1.out.upd U3 (fun e => hdb b e rfl)); have m27 := HB2.out.cell 27; have n27 := HB2.out.frozen 27; simp only [RSt.list, List.getElem?_cons_succ, List.getElem?_cons_zero] at m27)
      all_goals
        have h4' : (Value.slice da (ints r.inn).length dc).ownBlock = some g ∨ w1.heap.size ≤ g := h4.imp_right (fun e => by rw [e]; simp)
        go_wp2_with fail
        go_meet
        exact append_mk (r := { r with x := g1, bits := r.bits + 1 }) rfl hU1 h2 HB2.out U3 h4' hdb hbl
    case rest =>
      obtain ⟨iv', hB3, hR3, hf3, hU3⟩ := hcut
      have d21 := hB3.cell 21
      have d22 := hB3.cell 22
      have f21 := hB3.frozen 21
      have f22 := hB3.frozen 22
      simp only [RSt.list, List.getElem?_cons_succ, List.getElem?_cons_zero] at d21 d22
      have HB3 := Lib.hid hB3
      have HR3 := Lib.hid hR3
      have HF3 := Lib.hid hf3
      have HU3 := Lib.hid hU3
      clear hB3 hR3 hf3 hU3
      go_wp2
      go_ret
      have hs : ∀ wx, Upd (fun k => k = b) wx ((wx.setCell ⟨b, 21, none⟩ (.int .i64 0)).setCell ⟨b, 22, none⟩ (.int .i64 0)) := fun wx => ((Upd.refl (fun k => k = b) wx).setCell ⟨b, 21, none⟩ _ (fun _ => rfl)).setCell ⟨b, 22, none⟩ _ (fun _ => rfl)
      have hne : ∀ k, iv'.ownBlock = some k → k ≠ b := fun k hk => by
        rcases HF3.out k hk with h5 | h5
        · exact hdb k h5
        · omega
      rw [HR.out]
      exact ⟨rfl, iv', (HB3.out.set 21 (.int .i64 0)).set 22 (.int .i64 0), HR3.out.upd (hs _) hne, HF3.out, HU3.out.trans (hs _) (fun _ _ e => .inl e)⟩
  · have h8b : (r.bits + 1 == 8) = false := by simpa using h8
    have hR : r.dataC x = ({ r with x := g1, bits := r.bits + 1 }, 15) := by rw [HR0.out, if_neg h8]
    have HR := Lib.hid hR
    clear hR HR0
    have e21 := hB1.cell 21
    simp only [RSt.list, List.getElem?_cons_succ, List.getElem?_cons_zero] at e21
    go_wp2
    go_ret
    rw [HR.out]
    exact rpost_same (l := r.inn) rfl hB1 hU1 hd rfl hdb
theorem ref_data (b : Nat) (x : Int) (r : RSt) (wv bv iv : Value) (w : World) (h : RB w b r wv bv iv) (hd : Row w 3 iv (ints r.inn)) (hdb : ∀ k, iv.ownBlock = some k → k ≠ b) (ha : r.a.size = 4096)
    (hk : r.op.data = 0 ∨ r.op.inn = true ∧ r.op.data ≠ 0 ∧ (0 ≤ r.x ∧ r.x ≤ 1073741824) ∧ (0 ≤ r.bits ∧ r.bits ≤ 100) ∧ r.inn.length ≤ 1048576 ∨
      r.op.inn = false ∧ (r.op.data = 1 ∧ 0 ≤ r.bits ∧ r.bits ≤ 7 ∨ r.op.data = 4 ∧ (r.bits = 0 ∨ r.bits = 4)) ∧ (0 ≤ r.sent ∧ r.sent ≤ 1099511627776) ∧ (0 ≤ r.addr ∧ r.addr < 4096) ∧ (0 ≤ r.out ∧ r.out ≤ 255) ∧ (0 ≤ r.byteOut ∧ r.byteOut ≤ 255)) :
    Calls Tryz.prog 162 #[.pointer (some ⟨b, 0, none⟩), .int .i64 x] w (RPost b iv w (.int .i64 (r.dataC x).2) (r.dataC x).1 wv bv) := by
  by_cases h0 : r.op.data = 0
  · have hR : r.dataC x = (r, 15) := by unfold RSt.dataC; rw [if_pos h0]
    rw [hR]
    have c17 := h.cell 17
    simp only [RSt.list, List.getElem?_cons_succ, List.getElem?_cons_zero] at c17
    rw [h0] at c17
    clear hR hk h0
    go_enter Tryz.func162, Tryz.ntmps162
    go_wp2
    go_ret
    exact rpost_same (l := r.inn) rfl h (Upd.refl _ _) hd rfl hdb
  · rcases hk with hk | ⟨h1, h2, h3, h4, h5⟩ | ⟨h1, h2, h3, h4, h5, h6⟩
    · exact absurd hk h0
    · exact ref_takes b x r wv bv iv w h hd hdb h1 h2 h3 h4 h5
    · have hR : r.dataC x = r.says := by unfold RSt.dataC; rw [if_neg h0, if_neg (by rw [h1]; decide)]
      rw [hR]
      exact ref_says b x r wv bv iv w h hd hdb ha h1 h2 h3 h4 h5 h6
end Go.Proofs.YteombggfmeilaaaGreat
namespace Go.Proofs.YteombggfmeilaaaGreat
open Go.RowKit
/-- What a clock asks of a command that was taken. -/
def RSt.Fit (r : RSt) : Prop :=
  r.part = 1 ∧ (r.op.addr = 1 ∨ r.op.addr = 4) ∧ (0 ≤ r.x ∧ r.x ≤ 1073741824) ∧ (0 ≤ r.bits ∧ r.bits ≤ 100) ∨
  r.part = 2 ∧ r.op.addr = 4 ∧ (0 ≤ r.x ∧ r.x ≤ 1073741824) ∧ (0 ≤ r.bits ∧ r.bits ≤ 100) ∨
  r.part = 3 ∨
  r.part = 4 ∧ (r.op.data = 0 ∨ r.op.inn = true ∧ r.op.data ≠ 0 ∧ (0 ≤ r.x ∧ r.x ≤ 1073741824) ∧ (0 ≤ r.bits ∧ r.bits ≤ 100) ∧ r.inn.length ≤ 1048576 ∨
      r.op.inn = false ∧ (r.op.data = 1 ∧ 0 ≤ r.bits ∧ r.bits ≤ 7 ∨ r.op.data = 4 ∧ (r.bits = 0 ∨ r.bits = 4)) ∧ (0 ≤ r.sent ∧ r.sent ≤ 1099511627776) ∧ (0 ≤ r.addr ∧ r.addr < 4096) ∧ (0 ≤ r.out ∧ r.out ≤ 255) ∧ (0 ≤ r.byteOut ∧ r.byteOut ≤ 255))
set_option maxRecDepth 100000 in
set_option maxHeartbeats 2000000 in
theorem ref_part_addr (b : Nat) (x : Int) (r : RSt) (wv bv iv : Value) (w : World) (h : RB w b r wv bv iv) (hd : Row w 3 iv (ints r.inn)) (hdb : ∀ k, iv.ownBlock = some k → k ≠ b)
    (hp : r.part = 1) (a : Int) (ha : r.op.addr = a) (haa : a = 1 ∨ a = 4) (hx : 0 ≤ r.x ∧ r.x ≤ 1073741824) (hbi : 0 ≤ r.bits ∧ r.bits ≤ 100) (hcl : 0 ≤ r.clocks ∧ r.clocks ≤ 1099511627776) :
    Calls Tryz.prog 101 #[.pointer (some ⟨b, 0, none⟩), .int .i64 x] w (RPost b iv w (.int .i64 (r.part1 x).2) (r.part1 x).1 wv bv) := by
  have c14 := h.cell 14
  have c21 := h.cell 21
  have c22 := h.cell 22
  have c23 := h.cell 23
  have c24 := h.cell 24
  have c28 := h.cell 28
  have f21 := h.frozen 21
  have f22 := h.frozen 22
  have f24 := h.frozen 24
  have f28 := h.frozen 28
  simp only [RSt.list, List.getElem?_cons_succ, List.getElem?_cons_zero] at c14 c21 c22 c23 c24 c28
  rw [hp] at c23
  have hlt := h.lt
  have hR0 : r.part1 x = (if r.bits + a = 24 then ({ r with clocks := r.clocks + 1, x := (r.takesIn x a).x, bits := r.bits + a, addr := (r.takesIn x a).x % 4096 } : RSt).goOn 1 else { r with clocks := r.clocks + 1, x := (r.takesIn x a).x, bits := r.bits + a }, 15) := by
    unfold RSt.part1
    dsimp only
    rw [if_pos hp]
    subst ha
    rfl
  rw [ha] at c14
  have hw1 : IntKind.i64.wrap (r.clocks + 1) = r.clocks + 1 := IntWalk.i64_in _ (by omega)
  have hw2 : IntKind.i64.wrap (r.bits + a) = r.bits + a := IntWalk.i64_in _ (by omega)
  obtain ⟨g1, hg1⟩ : ∃ g1, (r.takesIn x a).x = g1 := ⟨_, rfl⟩
  have hg0 : 0 ≤ g1 := by
    rw [← hg1]
    show 0 ≤ (if a = 1 then r.x * 2 + x % 2 else r.x * 16 + x % 16)
    split <;> omega
  have htm : g1.tmod 4096 = g1 % 4096 := tmod4096 hg0
  rw [hg1] at hR0
  have HR0 := Lib.hid hR0
  have HB := Lib.hid h
  have HD := Lib.hid hd
  have hgv : (a = 1 → bits .or .i64 (r.x * 2) (bits .and .i64 x 1) = g1) ∧ (a = 4 → bits .or .i64 (r.x * 16) (bits .and .i64 x 15) = g1) := by
    refine ⟨fun e => ?_, fun e => ?_⟩
    · rw [or2 _ _ hx, ← hg1, e]; rfl
    · rw [or16 _ _ hx, ← hg1, e]; rfl
  obtain ⟨hgv1, hgv2⟩ := hgv
  clear hR0 hg1 h hd ha
  rcases haa with rfl | rfl
  · have hgv := hgv1 rfl
    clear hgv1 hgv2
    have HB1 : Hid (RB ((((w.setCell ⟨b, 28, none⟩ (.int .i64 (r.clocks + 1))).setCell ⟨b, 22, none⟩ (.int .i64 g1)).setCell ⟨b, 21, none⟩ (.int .i64 (r.bits + 1))).drew.drew) b { r with clocks := r.clocks + 1, x := g1, bits := r.bits + 1 } wv bv iv) := Lib.hid (((HB.out.set 28 _).set 22 _).set 21 _).drew.drew
    have HU1 : Hid (Upd (fun k => k = b) w ((((w.setCell ⟨b, 28, none⟩ (.int .i64 (r.clocks + 1))).setCell ⟨b, 22, none⟩ (.int .i64 g1)).setCell ⟨b, 21, none⟩ (.int .i64 (r.bits + 1))).drew.drew)) := Lib.hid ((((Upd.refl (fun k => k = b) w).setCell ⟨b, 28, none⟩ _ (fun _ => rfl)).setCell ⟨b, 22, none⟩ _ (fun _ => rfl)).setCell ⟨b, 21, none⟩ _ (fun _ => rfl)).drew.drew
    by_cases h24 : r.bits + 1 = 24
    · have h24b : (r.bits + 1 == 24) = true := by simpa using h24
      have hR : r.part1 x = (({ r with clocks := r.clocks + 1, x := g1, bits := r.bits + 1, addr := g1 % 4096 } : RSt).goOn 1, 15) := by rw [HR0.out, if_pos h24]
      have HR := Lib.hid hR
      have HGO : Hid (∀ W, RB W b { r with clocks := r.clocks + 1, x := g1, bits := r.bits + 1, addr := g1 % 4096 } wv bv iv → _) := Lib.hid (fun W hW => ref_goon b { r with clocks := r.clocks + 1, x := g1, bits := r.bits + 1, addr := g1 % 4096 } wv bv iv 1 (.inr (.inl rfl)) W hW)
      have H24 := Lib.hid h24
      clear hR HR0 h24
      go_enter Tryz.func101, Tryz.ntmps101
      go_upto_region 5 with fail
      go_region
      go_upto_region 6 with fail
      go_region
      generalize (((w.setCell ⟨b, 28, none⟩ (.int .i64 (r.clocks + 1))).setCell ⟨b, 22, none⟩ (.int .i64 g1)).setCell ⟨b, 21, none⟩ (.int .i64 (r.bits + 1))).drew.drew = w1 at *
      have d21 := HB1.out.cell 21
      have d22 := HB1.out.cell 22
      have d24 := HB1.out.cell 24
      have y24 := HB1.out.frozen 24
      simp only [RSt.list, List.getElem?_cons_succ, List.getElem?_cons_zero] at d21 d22 d24
      have hl1 := HB1.out.lt
      clear c14 c21 c22 c23 c24 c28 f21 f22 f24 f28
      go_wp2_with fail
      refine (HGO.out _ (HB1.out.set 24 (.int .i64 (g1 % 4096)))).mono ?_
      rintro e w2 ⟨rfl, hB2, hU2⟩
      go_wp2
      go_ret
      rw [HR.out]
      exact rpost_same (l := r.inn) rfl hB2 ((HU1.out.setCell ⟨b, 24, none⟩ (.int .i64 (g1 % 4096)) (fun _ => rfl)).trans hU2 (fun _ _ k => k)) HD.out rfl hdb
    · have h24b : (r.bits + 1 == 24) = false := by simpa using h24
      have hR : r.part1 x = ({ r with clocks := r.clocks + 1, x := g1, bits := r.bits + 1 }, 15) := by rw [HR0.out, if_neg h24]
      have HR := Lib.hid hR
      clear hR HR0 h24
      go_enter Tryz.func101, Tryz.ntmps101
      go_upto_region 5 with fail
      go_region
      go_upto_region 6 with fail
      go_region
      generalize (((w.setCell ⟨b, 28, none⟩ (.int .i64 (r.clocks + 1))).setCell ⟨b, 22, none⟩ (.int .i64 g1)).setCell ⟨b, 21, none⟩ (.int .i64 (r.bits + 1))).drew.drew = w1 at *
      have d21 := HB1.out.cell 21
      simp only [RSt.list, List.getElem?_cons_succ, List.getElem?_cons_zero] at d21
      clear c14 c21 c22 c23 c24 c28 f21 f22 f24 f28
      go_wp2
      go_ret
      rw [HR.out]
      exact rpost_same (l := r.inn) rfl HB1.out HU1.out HD.out rfl hdb
  · have hgv := hgv2 rfl
    clear hgv1 hgv2
    have HB1 : Hid (RB ((((w.setCell ⟨b, 28, none⟩ (.int .i64 (r.clocks + 1))).setCell ⟨b, 22, none⟩ (.int .i64 g1)).setCell ⟨b, 21, none⟩ (.int .i64 (r.bits + 4))).drew.drew) b { r with clocks := r.clocks + 1, x := g1, bits := r.bits + 4 } wv bv iv) := Lib.hid (((HB.out.set 28 _).set 22 _).set 21 _).drew.drew
    have HU1 : Hid (Upd (fun k => k = b) w ((((w.setCell ⟨b, 28, none⟩ (.int .i64 (r.clocks + 1))).setCell ⟨b, 22, none⟩ (.int .i64 g1)).setCell ⟨b, 21, none⟩ (.int .i64 (r.bits + 4))).drew.drew)) := Lib.hid ((((Upd.refl (fun k => k = b) w).setCell ⟨b, 28, none⟩ _ (fun _ => rfl)).setCell ⟨b, 22, none⟩ _ (fun _ => rfl)).setCell ⟨b, 21, none⟩ _ (fun _ => rfl)).drew.drew
    by_cases h24 : r.bits + 4 = 24
    · have h24b : (r.bits + 4 == 24) = true := by simpa using h24
      have hR : r.part1 x = (({ r with clocks := r.clocks + 1, x := g1, bits := r.bits + 4, addr := g1 % 4096 } : RSt).goOn 1, 15) := by rw [HR0.out, if_pos h24]
      have HR := Lib.hid hR
      have HGO : Hid (∀ W, RB W b { r with clocks := r.clocks + 1, x := g1, bits := r.bits + 4, addr := g1 % 4096 } wv bv iv → _) := Lib.hid (fun W hW => ref_goon b { r with clocks := r.clocks + 1, x := g1, bits := r.bits + 4, addr := g1 % 4096 } wv bv iv 1 (.inr (.inl rfl)) W hW)
      have H24 := Lib.hid h24
      clear hR HR0 h24
      go_enter Tryz.func101, Tryz.ntmps101
      go_upto_region 5 with fail
      go_region
      go_upto_region 6 with fail
      go_region
      generalize (((w.setCell ⟨b, 28, none⟩ (.int .i64 (r.clocks + 1))).setCell ⟨b, 22, none⟩ (.int .i64 g1)).setCell ⟨b, 21, none⟩ (.int .i64 (r.bits + 4))).drew.drew = w1 at *
      have d21 := HB1.out.cell 21
      have d22 := HB1.out.cell 22
      have d24 := HB1.out.cell 24
      have y24 := HB1.out.frozen 24
      simp only [RSt.list, List.getElem?_cons_succ, List.getElem?_cons_zero] at d21 d22 d24
      have hl1 := HB1.out.lt
      clear c14 c21 c22 c23 c24 c28 f21 f22 f24 f28
      go_wp2_with fail
      refine (HGO.out _ (HB1.out.set 24 (.int .i64 (g1 % 4096)))).mono ?_
      rintro e w2 ⟨rfl, hB2, hU2⟩
      go_wp2
      go_ret
      rw [HR.out]
      exact rpost_same (l := r.inn) rfl hB2 ((HU1.out.setCell ⟨b, 24, none⟩ (.int .i64 (g1 % 4096)) (fun _ => rfl)).trans hU2 (fun _ _ k => k)) HD.out rfl hdb
    · have h24b : (r.bits + 4 == 24) = false := by simpa using h24
      have hR : r.part1 x = ({ r with clocks := r.clocks + 1, x := g1, bits := r.bits + 4 }, 15) := by rw [HR0.out, if_neg h24]
      have HR := Lib.hid hR
      clear hR HR0 h24
      go_enter Tryz.func101, Tryz.ntmps101
      go_upto_region 5 with fail
      go_region
      go_upto_region 6 with fail
      go_region
      generalize (((w.setCell ⟨b, 28, none⟩ (.int .i64 (r.clocks + 1))).setCell ⟨b, 22, none⟩ (.int .i64 g1)).setCell ⟨b, 21, none⟩ (.int .i64 (r.bits + 4))).drew.drew = w1 at *
      have d21 := HB1.out.cell 21
      simp only [RSt.list, List.getElem?_cons_succ, List.getElem?_cons_zero] at d21
      clear c14 c21 c22 c23 c24 c28 f21 f22 f24 f28
      go_wp2
      go_ret
      rw [HR.out]
      exact rpost_same (l := r.inn) rfl HB1.out HU1.out HD.out rfl hdb
set_option maxRecDepth 100000 in
set_option maxHeartbeats 2000000 in
theorem ref_part_mode (b : Nat) (x : Int) (r : RSt) (wv bv iv : Value) (w : World) (h : RB w b r wv bv iv) (hd : Row w 3 iv (ints r.inn)) (hdb : ∀ k, iv.ownBlock = some k → k ≠ b)
    (hp : r.part = 2) (a : Int) (ha : r.op.addr = a) (haa : a = 4) (hx : 0 ≤ r.x ∧ r.x ≤ 1073741824) (hbi : 0 ≤ r.bits ∧ r.bits ≤ 100) (hcl : 0 ≤ r.clocks ∧ r.clocks ≤ 1099511627776) :
    Calls Tryz.prog 101 #[.pointer (some ⟨b, 0, none⟩), .int .i64 x] w (RPost b iv w (.int .i64 (r.part1 x).2) (r.part1 x).1 wv bv) := by
  have c14 := h.cell 14
  have c21 := h.cell 21
  have c22 := h.cell 22
  have c23 := h.cell 23
  have c25 := h.cell 25
  have c26 := h.cell 26
  have c28 := h.cell 28
  have f21 := h.frozen 21
  have f22 := h.frozen 22
  have f25 := h.frozen 25
  have f26 := h.frozen 26
  have f28 := h.frozen 28
  simp only [RSt.list, List.getElem?_cons_succ, List.getElem?_cons_zero] at c14 c21 c22 c23 c25 c26 c28
  rw [hp] at c23
  have hlt := h.lt
  have hR0 : r.part1 x = (if r.bits + a = 8 then ({ r with clocks := r.clocks + 1, x := (r.takesIn x a).x, bits := r.bits + a, mode := (r.takesIn x a).x, modes := true } : RSt).goOn 2 else { r with clocks := r.clocks + 1, x := (r.takesIn x a).x, bits := r.bits + a }, 15) := by
    unfold RSt.part1
    dsimp only
    rw [if_neg (by rw [hp]; decide), if_pos hp]
    subst ha
    rfl
  rw [ha] at c14
  have hw1 : IntKind.i64.wrap (r.clocks + 1) = r.clocks + 1 := IntWalk.i64_in _ (by omega)
  have hw2 : IntKind.i64.wrap (r.bits + a) = r.bits + a := IntWalk.i64_in _ (by omega)
  obtain ⟨g1, hg1⟩ : ∃ g1, (r.takesIn x a).x = g1 := ⟨_, rfl⟩
  rw [hg1] at hR0
  have HR0 := Lib.hid hR0
  have HB := Lib.hid h
  have HD := Lib.hid hd
  have hgv2 : a = 4 → bits .or .i64 (r.x * 16) (bits .and .i64 x 15) = g1 := fun e => by rw [or16 _ _ hx, ← hg1, e]; rfl
  clear hR0 hg1 h hd ha
  subst haa
  · have hgv := hgv2 rfl
    clear hgv2
    have HB1 : Hid (RB ((((w.setCell ⟨b, 28, none⟩ (.int .i64 (r.clocks + 1))).setCell ⟨b, 22, none⟩ (.int .i64 g1)).setCell ⟨b, 21, none⟩ (.int .i64 (r.bits + 4))).drew.drew) b { r with clocks := r.clocks + 1, x := g1, bits := r.bits + 4 } wv bv iv) := Lib.hid (((HB.out.set 28 _).set 22 _).set 21 _).drew.drew
    have HU1 : Hid (Upd (fun k => k = b) w ((((w.setCell ⟨b, 28, none⟩ (.int .i64 (r.clocks + 1))).setCell ⟨b, 22, none⟩ (.int .i64 g1)).setCell ⟨b, 21, none⟩ (.int .i64 (r.bits + 4))).drew.drew)) := Lib.hid ((((Upd.refl (fun k => k = b) w).setCell ⟨b, 28, none⟩ _ (fun _ => rfl)).setCell ⟨b, 22, none⟩ _ (fun _ => rfl)).setCell ⟨b, 21, none⟩ _ (fun _ => rfl)).drew.drew
    by_cases h24 : r.bits + 4 = 8
    · have h24b : (r.bits + 4 == 8) = true := by simpa using h24
      have hR : r.part1 x = (({ r with clocks := r.clocks + 1, x := g1, bits := r.bits + 4, mode := g1, modes := true } : RSt).goOn 2, 15) := by rw [HR0.out, if_pos h24]
      have HR := Lib.hid hR
      have HGO : Hid (∀ W, RB W b { r with clocks := r.clocks + 1, x := g1, bits := r.bits + 4, mode := g1, modes := true } wv bv iv → _) := Lib.hid (fun W hW => ref_goon b { r with clocks := r.clocks + 1, x := g1, bits := r.bits + 4, mode := g1, modes := true } wv bv iv 2 (.inr (.inr (.inl rfl))) W hW)
      have H24 := Lib.hid h24
      clear hR HR0 h24
      go_enter Tryz.func101, Tryz.ntmps101
      go_upto_region 11 with fail
      go_region
      go_upto_region 12 with fail
      go_region
      generalize (((w.setCell ⟨b, 28, none⟩ (.int .i64 (r.clocks + 1))).setCell ⟨b, 22, none⟩ (.int .i64 g1)).setCell ⟨b, 21, none⟩ (.int .i64 (r.bits + 4))).drew.drew = w1 at *
      have d21 := HB1.out.cell 21
      have d22 := HB1.out.cell 22
      have d25 := HB1.out.cell 25
      have y25 := HB1.out.frozen 25
      have d26 := HB1.out.cell 26
      have y26 := HB1.out.frozen 26
      simp only [RSt.list, List.getElem?_cons_succ, List.getElem?_cons_zero] at d21 d22 d25 d26
      have hl1 := HB1.out.lt
      clear c14 c21 c22 c23 c25 c26 c28 f21 f22 f25 f26 f28
      go_wp2_with fail
      refine (HGO.out _ ((HB1.out.set 25 (.int .i64 g1)).set 26 (.bool true))).mono ?_
      rintro e w2 ⟨rfl, hB2, hU2⟩
      go_wp2
      go_ret
      rw [HR.out]
      exact rpost_same (l := r.inn) rfl hB2 (((HU1.out.setCell ⟨b, 25, none⟩ (.int .i64 g1) (fun _ => rfl)).setCell ⟨b, 26, none⟩ (.bool true) (fun _ => rfl)).trans hU2 (fun _ _ k => k)) HD.out rfl hdb
    · have h24b : (r.bits + 4 == 8) = false := by simpa using h24
      have hR : r.part1 x = ({ r with clocks := r.clocks + 1, x := g1, bits := r.bits + 4 }, 15) := by rw [HR0.out, if_neg h24]
      have HR := Lib.hid hR
      clear hR HR0 h24
      go_enter Tryz.func101, Tryz.ntmps101
      go_upto_region 11 with fail
      go_region
      go_upto_region 12 with fail
      go_region
      generalize (((w.setCell ⟨b, 28, none⟩ (.int .i64 (r.clocks + 1))).setCell ⟨b, 22, none⟩ (.int .i64 g1)).setCell ⟨b, 21, none⟩ (.int .i64 (r.bits + 4))).drew.drew = w1 at *
      have d21 := HB1.out.cell 21
      simp only [RSt.list, List.getElem?_cons_succ, List.getElem?_cons_zero] at d21
      clear c14 c21 c22 c23 c25 c26 c28 f21 f22 f25 f26 f28
      go_wp2
      go_ret
      rw [HR.out]
      exact rpost_same (l := r.inn) rfl HB1.out HU1.out HD.out rfl hdb
set_option maxHeartbeats 2000000 in
theorem ref_part_dummy (b : Nat) (x : Int) (r : RSt) (wv bv iv : Value) (w : World) (h : RB w b r wv bv iv) (hd : Row w 3 iv (ints r.inn)) (hdb : ∀ k, iv.ownBlock = some k → k ≠ b)
    (hp : r.part = 3) (hcl : 0 ≤ r.clocks ∧ r.clocks ≤ 1099511627776) :
    Calls Tryz.prog 101 #[.pointer (some ⟨b, 0, none⟩), .int .i64 x] w (RPost b iv w (.int .i64 (r.part1 x).2) (r.part1 x).1 wv bv) := by
  have c16 := h.cell 16
  have c23 := h.cell 23
  have c28 := h.cell 28
  have f28 := h.frozen 28
  simp only [RSt.list, List.getElem?_cons_succ, List.getElem?_cons_zero] at c16 c23 c28
  rw [hp] at c23
  have hlt := h.lt
  have hw1 : IntKind.i64.wrap (r.clocks + 1) = r.clocks + 1 := IntWalk.i64_in _ (by omega)
  have HB1 : Hid (RB (w.setCell ⟨b, 28, none⟩ (.int .i64 (r.clocks + 1))).drew b { r with clocks := r.clocks + 1 } wv bv iv) := Lib.hid (h.set 28 _).drew
  have HU1 : Hid (Upd (fun k => k = b) w (w.setCell ⟨b, 28, none⟩ (.int .i64 (r.clocks + 1))).drew) := Lib.hid ((Upd.refl (fun k => k = b) w).setCell ⟨b, 28, none⟩ _ (fun _ => rfl)).drew
  have HD := Lib.hid hd
  have hR0 : r.part1 x = (if r.clocks + 1 = r.op.dummy then ({ r with clocks := r.clocks + 1 } : RSt).goOn 3 else { r with clocks := r.clocks + 1 }, 15) := by
    unfold RSt.part1
    dsimp only
    rw [if_neg (by rw [hp]; decide), if_neg (by rw [hp]; decide), if_pos hp]
  clear h hd
  by_cases h24 : r.clocks + 1 = r.op.dummy
  · have h24b : (r.clocks + 1 == r.op.dummy) = true := by simpa using h24
    have hR : r.part1 x = (({ r with clocks := r.clocks + 1 } : RSt).goOn 3, 15) := by rw [hR0, if_pos h24]
    have HR := Lib.hid hR
    have HGO : Hid (∀ W, RB W b { r with clocks := r.clocks + 1 } wv bv iv → _) := Lib.hid (fun W hW => ref_goon b { r with clocks := r.clocks + 1 } wv bv iv 3 (.inr (.inr (.inr rfl))) W hW)
    clear hR hR0 h24
    go_enter Tryz.func101, Tryz.ntmps101
    go_upto_region 18 with fail
    go_region
    go_wp2_with fail
    refine (HGO.out _ HB1.out).mono ?_
    rintro e w2 ⟨rfl, hB2, hU2⟩
    go_wp2
    go_ret
    rw [HR.out]
    exact rpost_same (l := r.inn) rfl hB2 (HU1.out.trans hU2 (fun _ _ k => k)) HD.out rfl hdb
  · have h24b : (r.clocks + 1 == r.op.dummy) = false := by simpa using h24
    have hR : r.part1 x = ({ r with clocks := r.clocks + 1 }, 15) := by rw [hR0, if_neg h24]
    have HR := Lib.hid hR
    clear hR hR0 h24
    go_enter Tryz.func101, Tryz.ntmps101
    go_upto_region 18 with fail
    go_region
    go_wp2
    go_ret
    rw [HR.out]
    exact rpost_same (l := r.inn) rfl HB1.out HU1.out HD.out rfl hdb
set_option maxHeartbeats 2000000 in
theorem ref_part1 (b : Nat) (x : Int) (r : RSt) (wv bv iv : Value) (w : World) (h : RB w b r wv bv iv) (hd : Row w 3 iv (ints r.inn)) (hdb : ∀ k, iv.ownBlock = some k → k ≠ b) (ha : r.a.size = 4096) (hf : r.Fit) (hcl : 0 ≤ r.clocks ∧ r.clocks ≤ 1099511627776) :
    Calls Tryz.prog 101 #[.pointer (some ⟨b, 0, none⟩), .int .i64 x] w (RPost b iv w (.int .i64 (r.part1 x).2) (r.part1 x).1 wv bv) := by
  rcases hf with ⟨h1, h2, h3, h4⟩ | ⟨h1, h2, h3, h4⟩ | h1 | ⟨h1, h2⟩
  · exact ref_part_addr b x r wv bv iv w h hd hdb h1 _ rfl h2 h3 h4 hcl
  · exact ref_part_mode b x r wv bv iv w h hd hdb h1 _ rfl h2 h3 h4 hcl
  · exact ref_part_dummy b x r wv bv iv w h hd hdb h1 hcl
  · have c23 := h.cell 23
    have c28 := h.cell 28
    have f28 := h.frozen 28
    simp only [RSt.list, List.getElem?_cons_succ, List.getElem?_cons_zero] at c23 c28
    rw [h1] at c23
    have hlt := h.lt
    have hw1 : IntKind.i64.wrap (r.clocks + 1) = r.clocks + 1 := IntWalk.i64_in _ (by omega)
    have hB1 : RB (w.setCell ⟨b, 28, none⟩ (.int .i64 (r.clocks + 1))) b { r with clocks := r.clocks + 1 } wv bv iv := h.set 28 _
    have hU1 : Upd (fun k => k = b) w (w.setCell ⟨b, 28, none⟩ (.int .i64 (r.clocks + 1))) := (Upd.refl (fun k => k = b) w).setCell ⟨b, 28, none⟩ _ (fun _ => rfl)
    have hR : r.part1 x = ({ r with clocks := r.clocks + 1 } : RSt).dataC x := by
      unfold RSt.part1
      dsimp only
      rw [if_neg (by rw [h1]; decide), if_neg (by rw [h1]; decide), if_neg (by rw [h1]; decide)]
    have HR := Lib.hid hR
    have HDA := Lib.hid (ref_data b x { r with clocks := r.clocks + 1 } wv bv iv _ hB1 (hd.upd hU1 hdb) hdb ha h2)
    have HU1 := Lib.hid hU1
    clear hR h2 hB1 hU1 h hd h1
    go_enter Tryz.func101, Tryz.ntmps101
    go_wp2_with fail
    refine HDA.out.mono ?_
    rintro e w2 ⟨rfl, iv', hB2, hR2, hf2, hU2⟩
    go_wp2
    go_ret
    rw [HR.out]
    have hsz := HU1.out.size
    exact ⟨rfl, iv', hB2, hR2, fun k hk => (hf2 k hk).imp_right (fun e => Nat.le_trans hsz e), (HU1.out.mono (T := fun k => k = b ∨ iv.ownBlock = some k) (fun _ _ e => .inl e)).trans hU2 (fun _ _ e => e)⟩
end Go.Proofs.YteombggfmeilaaaGreat
namespace Go.Proofs.YteombggfmeilaaaGreat
open Go.RowKit
theorem rpass_same (r : RSt) : r.pass.sel = r.sel ∧ r.pass.known = r.known ∧ r.pass.taken = r.taken ∧ r.pass.inn = r.inn ∧ r.pass.x = r.x ∧ r.pass.bits = r.bits ∧ r.pass.clocks = r.clocks := by
  unfold RSt.pass
  split
  · split <;> exact ⟨rfl, rfl, rfl, rfl, rfl, rfl, rfl⟩
  · exact ⟨rfl, rfl, rfl, rfl, rfl, rfl, rfl⟩
set_option maxRecDepth 100000 in
set_option maxHeartbeats 4000000 in
theorem ref_clock (b : Nat) (x : Int) (r : RSt) (wv bv iv : Value) (w : World) (h : RB w b r wv bv iv) (hd : Row w 3 iv (ints r.inn)) (hdb : ∀ k, iv.ownBlock = some k → k ≠ b) (hx : 0 ≤ x ∧ x ≤ 15)
    (hK : r.works = true → r.Kept ∧ 1 ≤ r.left ∧ r.left ≤ 400) (hA : r.pass.a.size = 4096)
    (hF : r.sel = true → (r.known = false → (0 ≤ r.x ∧ r.x ≤ 1073741824) ∧ (0 ≤ r.bits ∧ r.bits ≤ 100)) ∧ (r.known = true → r.taken = true → r.pass.Fit ∧ 0 ≤ r.clocks ∧ r.clocks ≤ 1099511627776)) :
    Calls Tryz.prog 22 #[.pointer (some ⟨b, 0, none⟩), .int .i64 x] w (RPost b iv w (.tuple #[.int .i64 (r.clock x).2, .int .i64 0]) (r.clock x).1 wv bv) := by
  have hx1 : ¬ x < 0 := by omega
  have hx2 : ¬ x > 15 := by omega
  have HX := Lib.hid hx
  have HF := Lib.hid hF
  have HA := Lib.hid hA
  have HD := Lib.hid hd
  clear hx hF hA hd
  have HBU := Lib.hid (ref_busy b r wv bv iv w h)
  go_enter Tryz.func22, Tryz.ntmps22
  go_upto_if 13 with (go_at_call 99; refine HBU.out.mono ?_; rintro e w1 ⟨rfl, rfl⟩)
  go_cut [] (fun wx => RB wx b r.pass wv bv iv ∧ Upd (fun k => k = b) w wx)
  case first =>
    cases hw : r.works with
    | false =>
      have hp : r.pass = r := by unfold RSt.pass; rw [hw]; rfl
      have HP := Lib.hid hp
      clear hp hw hK
      go_wp2_with fail
      go_meet
      exact ⟨by rw [HP.out]; exact h, Upd.refl _ _⟩
    | true =>
      obtain ⟨hk, hl1, hl2⟩ := hK hw
      have c10 := h.cell 10
      have f10 := h.frozen 10
      simp only [RSt.list, List.getElem?_cons_succ, List.getElem?_cons_zero] at c10
      have hlt := h.lt
      have hwr : IntKind.i64.wrap (r.left - 1) = r.left - 1 := IntWalk.i64_in _ (by omega)
      have HB1 : Hid (RB (w.setCell ⟨b, 10, none⟩ (.int .i64 (r.left - 1))) b { r with left := r.left - 1 } wv bv iv) := Lib.hid (h.set 10 _)
      have HU1 : Hid (Upd (fun k => k = b) w (w.setCell ⟨b, 10, none⟩ (.int .i64 (r.left - 1)))) := Lib.hid ((Upd.refl (fun k => k = b) w).setCell ⟨b, 10, none⟩ _ (fun _ => rfl))
      by_cases h0 : r.left - 1 = 0
      · have h0b : (r.left - 1 == 0) = true := by simpa using h0
        have hp : r.pass = ({ r with left := r.left - 1 } : RSt).done := by unfold RSt.pass; rw [hw, if_pos rfl, if_pos h0]
        have HP := Lib.hid hp
        have HDO := Lib.hid (ref_done b { r with left := r.left - 1 } wv bv iv _ HB1.out hk)
        clear hp hw hK hk h h0
        go_wp2_with fail
        refine HDO.out.mono ?_
        rintro e w2 ⟨rfl, hB2, hU2⟩
        go_wp2_with fail
        go_meet
        exact ⟨by rw [HP.out]; exact hB2, HU1.out.trans hU2 (fun _ _ k => k)⟩
      · have h0b : (r.left - 1 == 0) = false := by simpa using h0
        have hp : r.pass = { r with left := r.left - 1 } := by unfold RSt.pass; rw [hw, if_pos rfl, if_neg h0]
        have HP := Lib.hid hp
        clear hp hw hK hk h h0
        go_wp2_with fail
        go_meet
        exact ⟨by rw [HP.out]; exact HB1.out, HU1.out⟩
  case rest =>
    obtain ⟨hB, hU⟩ := hcut
    obtain ⟨e1, e2, e3, e4, e5, e6, e7⟩ := rpass_same r
    have hR0 : r.clock x = (if r.pass.sel then r.pass.clockIn x else (r.pass, 15)) := rfl
    have hd := HD.out.upd hU hdb
    rw [← e4] at hd
    have hF := HF.out
    rw [← e1, ← e2, ← e3, ← e5, ← e6, ← e7] at hF
    clear HF HD e1 e2 e3 e4 e5 e6 e7 h hK
    have hA := HA.out
    clear HA
    generalize r.pass = r1 at *
    have c4 := hB.cell 4
    have c19 := hB.cell 19
    have c20 := hB.cell 20
    have c21 := hB.cell 21
    have c22 := hB.cell 22
    have f21 := hB.frozen 21
    have f22 := hB.frozen 22
    simp only [RSt.list, List.getElem?_cons_succ, List.getElem?_cons_zero] at c4 c19 c20 c21 c22
    have hlt := hB.lt
    have HB := Lib.hid hB
    have HU := Lib.hid hU
    have HD := Lib.hid hd
    have HDB := Lib.hid hdb
    clear hB hU hd hdb
    have hsz : Hid (w.heap.size ≤ wc.heap.size) := Lib.hid HU.out.size
    have fin : ∀ (res : Value) (r' : RSt) (e : Ending) (w' : World), RPost b iv wc res r' wv bv e w' → RPost b iv w res r' wv bv e w' := by
      rintro res r' e w' ⟨he, iv', q1, q2, q3, q4⟩
      exact ⟨he, iv', q1, q2, fun k hk => (q3 k hk).imp_right (fun g => Nat.le_trans hsz.out g), (HU.out.mono (T := fun k => k = b ∨ iv.ownBlock = some k) (fun _ _ e => .inl e)).trans q4 (fun _ _ e => e)⟩
    have FIN := Lib.hid fin
    clear fin
    cases hs : r1.sel with
    | false =>
      rw [hs] at c4
      have hR : r.clock x = (r1, 15) := by rw [hR0, hs]; rfl
      have HR := Lib.hid hR
      clear hR hR0 hs hF
      go_wp2
      go_ret2
      rw [HR.out]
      exact FIN.out _ _ _ _ (rpost_same rfl HB.out (Upd.refl _ _) HD.out rfl HDB.out)
    | true =>
      rw [hs] at c4
      obtain ⟨hF1, hF2⟩ := hF hs
      have hR1 : r.clock x = r1.clockIn x := by rw [hR0, hs]; rfl
      clear hR0 hF hs
      cases hk : r1.known with
      | false =>
        rw [hk] at c20
        obtain ⟨hx, hbi⟩ := hF1 hk
        obtain ⟨g1, hg1⟩ : ∃ g1, (r1.takesIn x 1).x = g1 := ⟨_, rfl⟩
        have hgv : bits .or .i64 (r1.x * 2) (bits .and .i64 x 1) = g1 := by rw [or2 _ _ hx, ← hg1]; rfl
        have hw1 : IntKind.i64.wrap (r1.bits + 1) = r1.bits + 1 := IntWalk.i64_in _ (by omega)
        have HB1 : Hid (RB ((wc.setCell ⟨b, 22, none⟩ (.int .i64 g1)).setCell ⟨b, 21, none⟩ (.int .i64 (r1.bits + 1))) b { r1 with x := g1, bits := r1.bits + 1 } wv bv iv) := Lib.hid ((HB.out.set 22 _).set 21 _)
        have HU1 : Hid (Upd (fun k => k = b) wc ((wc.setCell ⟨b, 22, none⟩ (.int .i64 g1)).setCell ⟨b, 21, none⟩ (.int .i64 (r1.bits + 1)))) := Lib.hid (((Upd.refl (fun k => k = b) wc).setCell ⟨b, 22, none⟩ _ (fun _ => rfl)).setCell ⟨b, 21, none⟩ _ (fun _ => rfl))
        have hR2 : r.clock x = (if r1.bits + 1 = 8 then ({ r1 with x := g1, bits := r1.bits + 1 } : RSt).command g1 else { r1 with x := g1, bits := r1.bits + 1 }, 15) := by
          rw [hR1]
          unfold RSt.clockIn
          rw [if_pos hk]
          subst hg1
          rfl
        have HK := Lib.hid hk
        clear hR1 hg1 hF1 hF2 hk
        by_cases h8 : r1.bits + 1 = 8
        · have h8b : (r1.bits + 1 == 8) = true := by simpa using h8
          have hR : r.clock x = (({ r1 with x := g1, bits := r1.bits + 1 } : RSt).command g1, 15) := by rw [hR2, if_pos h8]
          have HR := Lib.hid hR
          have HC := Lib.hid (ref_command b g1 { r1 with x := g1, bits := r1.bits + 1 } wv bv iv _ HB1.out _ rfl)
          clear hR hR2 h8
          go_wp2_with fail
          refine HC.out.mono ?_
          rintro e w2 ⟨rfl, hB2, hU2⟩
          go_wp2
          go_ret2
          rw [HR.out]
          exact FIN.out _ _ _ _ (rpost_same rfl hB2 (HU1.out.trans hU2 (fun _ _ k => k)) HD.out rfl HDB.out)
        · have h8b : (r1.bits + 1 == 8) = false := by simpa using h8
          have hR : r.clock x = ({ r1 with x := g1, bits := r1.bits + 1 }, 15) := by rw [hR2, if_neg h8]
          have HR := Lib.hid hR
          clear hR hR2 h8
          go_wp2
          go_ret2
          rw [HR.out]
          exact FIN.out _ _ _ _ (rpost_same rfl HB1.out HU1.out HD.out rfl HDB.out)
      | true =>
        rw [hk] at c20
        cases ht : r1.taken with
        | false =>
          rw [ht] at c19
          have hR : r.clock x = (r1, 15) := by
            rw [hR1]
            unfold RSt.clockIn
            rw [if_neg (by rw [hk]; decide), if_pos ht]
          have HR := Lib.hid hR
          clear hR hR1 hk ht hF1 hF2
          go_wp2
          go_ret2
          rw [HR.out]
          exact FIN.out _ _ _ _ (rpost_same rfl HB.out (Upd.refl _ _) HD.out rfl HDB.out)
        | true =>
          rw [ht] at c19
          have hR : r.clock x = r1.part1 x := by
            rw [hR1]
            unfold RSt.clockIn
            rw [if_neg (by rw [hk]; decide), if_neg (by rw [ht]; decide)]
          have HR := Lib.hid hR
          have HP := Lib.hid (ref_part1 b x r1 wv bv iv wc HB.out HD.out HDB.out hA (hF2 hk ht).1 (hF2 hk ht).2)
          clear hR hR1 hk ht hF1 hF2
          go_wp2_with fail
          refine HP.out.mono ?_
          rintro e w2 ⟨rfl, iv', hB2, hR2, hf2, hU2⟩
          go_wp2
          go_ret2
          rw [HR.out]
          exact FIN.out _ _ _ _ ⟨rfl, iv', hB2, hR2, hf2, hU2⟩
end Go.Proofs.YteombggfmeilaaaGreat
