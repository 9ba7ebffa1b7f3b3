/- The walk over Loss. -/
import Derived.Test.YteombggfmeilaaaGreatCtx
import Derived.Deep.MidRow
namespace Go.Proofs.YteombggfmeilaaaGreat
open Go.RowKit
def St.pw (s : St) : St := { (St.new s.a) with prot := s.prot, quad := s.quad, wipes := s.wipes, tabled := s.tabled }
def pwL : List Value := [.bool false, .bool false, .bool false, .pointer none, .slice none 0 0, .int .i64 0, .int .i64 0, .bool false, .int .i64 0, .int .i64 0, .bool false, .int .i64 0, .int .i64 0, .int .i64 0, .int .i64 0, .int .i64 0, .bool false, .slice none 0 0, .int .i64 0, .int .i64 0, .bool false]
theorem pow0_world {w : World} {b : Nat} {s : St} {jv bv dv : Value} (h : CB w b s jv bv dv) :
    CB (w.setCells b 15 pwL) b s.pw (.pointer none) (.slice none 0 0) (.slice none 0 0) := by
  show CB (((((((((((((((((((((w.setCell ⟨b, 15, none⟩ (.bool false)).setCell ⟨b, 16, none⟩ (.bool false)).setCell ⟨b, 17, none⟩ (.bool false)).setCell ⟨b, 18, none⟩ (.pointer none)).setCell ⟨b, 19, none⟩ (.slice none 0 0)).setCell ⟨b, 20, none⟩ (.int .i64 0)).setCell ⟨b, 21, none⟩ (.int .i64 0)).setCell ⟨b, 22, none⟩ (.bool false)).setCell ⟨b, 23, none⟩ (.int .i64 0)).setCell ⟨b, 24, none⟩ (.int .i64 0)).setCell ⟨b, 25, none⟩ (.bool false)).setCell ⟨b, 26, none⟩ (.int .i64 0)).setCell ⟨b, 27, none⟩ (.int .i64 0)).setCell ⟨b, 28, none⟩ (.int .i64 0)).setCell ⟨b, 29, none⟩ (.int .i64 0)).setCell ⟨b, 30, none⟩ (.int .i64 0)).setCell ⟨b, 31, none⟩ (.bool false)).setCell ⟨b, 32, none⟩ (.slice none 0 0)).setCell ⟨b, 33, none⟩ (.int .i64 0)).setCell ⟨b, 34, none⟩ (.int .i64 0)).setCell ⟨b, 35, none⟩ (.bool false)) b s.pw (.pointer none) (.slice none 0 0) (.slice none 0 0)
  have := (((((((((((((((((((((h.set 15 (.bool false)).set 16 (.bool false)).set 17 (.bool false)).set 18 (.pointer none)).set 19 (.slice none 0 0)).set 20 (.int .i64 0)).set 21 (.int .i64 0)).set 22 (.bool false)).set 23 (.int .i64 0)).set 24 (.int .i64 0)).set 25 (.bool false)).set 26 (.int .i64 0)).set 27 (.int .i64 0)).set 28 (.int .i64 0)).set 29 (.int .i64 0)).set 30 (.int .i64 0)).set 31 (.bool false)).set 32 (.slice none 0 0)).set 33 (.int .i64 0)).set 34 (.int .i64 0)).set 35 (.bool false))
  simp only [St.list, List.set_cons_zero, List.set_cons_succ] at this
  exact this
theorem pow0_upd (w : World) (b : Nat) : Upd (fun k => k = b) w (w.setCells b 15 pwL) := by
  show Upd (fun k => k = b) w (((((((((((((((((((((w.setCell ⟨b, 15, none⟩ (.bool false)).setCell ⟨b, 16, none⟩ (.bool false)).setCell ⟨b, 17, none⟩ (.bool false)).setCell ⟨b, 18, none⟩ (.pointer none)).setCell ⟨b, 19, none⟩ (.slice none 0 0)).setCell ⟨b, 20, none⟩ (.int .i64 0)).setCell ⟨b, 21, none⟩ (.int .i64 0)).setCell ⟨b, 22, none⟩ (.bool false)).setCell ⟨b, 23, none⟩ (.int .i64 0)).setCell ⟨b, 24, none⟩ (.int .i64 0)).setCell ⟨b, 25, none⟩ (.bool false)).setCell ⟨b, 26, none⟩ (.int .i64 0)).setCell ⟨b, 27, none⟩ (.int .i64 0)).setCell ⟨b, 28, none⟩ (.int .i64 0)).setCell ⟨b, 29, none⟩ (.int .i64 0)).setCell ⟨b, 30, none⟩ (.int .i64 0)).setCell ⟨b, 31, none⟩ (.bool false)).setCell ⟨b, 32, none⟩ (.slice none 0 0)).setCell ⟨b, 33, none⟩ (.int .i64 0)).setCell ⟨b, 34, none⟩ (.int .i64 0)).setCell ⟨b, 35, none⟩ (.bool false))
  exact ((((((((((((((((((((((Upd.refl (fun k => k = b) w).setCell ⟨b, 15, none⟩ (.bool false) (fun _ => rfl)).setCell ⟨b, 16, none⟩ (.bool false) (fun _ => rfl)).setCell ⟨b, 17, none⟩ (.bool false) (fun _ => rfl)).setCell ⟨b, 18, none⟩ (.pointer none) (fun _ => rfl)).setCell ⟨b, 19, none⟩ (.slice none 0 0) (fun _ => rfl)).setCell ⟨b, 20, none⟩ (.int .i64 0) (fun _ => rfl)).setCell ⟨b, 21, none⟩ (.int .i64 0) (fun _ => rfl)).setCell ⟨b, 22, none⟩ (.bool false) (fun _ => rfl)).setCell ⟨b, 23, none⟩ (.int .i64 0) (fun _ => rfl)).setCell ⟨b, 24, none⟩ (.int .i64 0) (fun _ => rfl)).setCell ⟨b, 25, none⟩ (.bool false) (fun _ => rfl)).setCell ⟨b, 26, none⟩ (.int .i64 0) (fun _ => rfl)).setCell ⟨b, 27, none⟩ (.int .i64 0) (fun _ => rfl)).setCell ⟨b, 28, none⟩ (.int .i64 0) (fun _ => rfl)).setCell ⟨b, 29, none⟩ (.int .i64 0) (fun _ => rfl)).setCell ⟨b, 30, none⟩ (.int .i64 0) (fun _ => rfl)).setCell ⟨b, 31, none⟩ (.bool false) (fun _ => rfl)).setCell ⟨b, 32, none⟩ (.slice none 0 0) (fun _ => rfl)).setCell ⟨b, 33, none⟩ (.int .i64 0) (fun _ => rfl)).setCell ⟨b, 34, none⟩ (.int .i64 0) (fun _ => rfl)).setCell ⟨b, 35, none⟩ (.bool false) (fun _ => rfl))
theorem pow0_there {w : World} {b : Nat} {s : St} {jv bv dv : Value} (h : CB w b s jv bv dv) : w.there b 15 21 := by
  intro j hj
  refine ⟨?_, h.frozen _⟩
  rw [h.cell]
  unfold St.list
  rw [List.getElem?_eq_getElem (by simp; omega)]
  rfl
theorem pow0_post {w w1 : World} {b : Nat} {s : St} {S : Nat → Prop} (hb : S b) (hB : CB w1 b s.pw (.pointer none) (.slice none 0 0) (.slice none 0 0)) (hU : Upd S w w1) : ChipPost b s.pw S w w1 := by
  refine ⟨chipSet b (.pointer none) (.slice none 0 0) (.slice none 0 0), ⟨.pointer none, .slice none 0 0, .slice none 0 0, ⟨hB, rfl, RS.nil _, fun k hk => by simp [Value.ownBlock] at hk, Row.nil _ _, fun k hk => by simp at hk, fun k hk => by simp [Value.ownBlock] at hk, fun k hk => by simp [Value.ownBlock] at hk⟩, rfl⟩, ?_, hU⟩
  rintro k (rfl | hk | hk | hk)
  · exact .inl hb
  · simp at hk
  · simp [Value.ownBlock] at hk
  · simp [Value.ownBlock] at hk
set_option maxRecDepth 100000 in
set_option maxHeartbeats 1000000 in
theorem chip_loss_none (b : Nat) (s : St) (S : Nat → Prop) (w : World) (hA : ChipAt w b s S) (hj : s.job = none) (mask : ByteArray) :
    Calls Tryz.prog 28 #[.pointer (some ⟨b, 0, none⟩), .string mask] w fun e w' => e = .returned (.int .i64 0) ∧ ChipPost b (s.loss mask) S w w' := by
  obtain ⟨jv, bv, dv, hv, rfl⟩ := hA
  have hjv := hv.job
  rw [hj] at hjv
  obtain rfl : jv = .pointer none := hjv
  have HL : Hid (s.loss mask = s.pw) := by
    show s.loss mask = s.pw
    unfold St.loss St.pw
    rw [hj]
  have hB := hv.cb
  have c18 := hB.cell 18
  simp only [St.list, List.getElem?_cons_zero, List.getElem?_cons_succ] at c18
  have HTH := Lib.hid (pow0_there hB)
  have HW := Lib.hid (pow0_world hB)
  have HU := Lib.hid (pow0_upd w b)
  clear hv hB hj
  go_enter Tryz.func28, Tryz.ntmps28
  go_upto_region 5 with fail
  go_wp2_with (refine wpList_store_mid rfl 140 _ _ rfl b 15 pwL.toArray rfl rfl HTH.out (by kernel_rfl) (by kernel_rfl) ?_)
  go_ret
  refine ⟨rfl, ?_⟩
  rw [HL.out]
  exact pow0_post (.inl rfl) HW.out (HU.out.mono (fun k _ hk => .inl hk))
set_option maxRecDepth 100000 in
set_option maxHeartbeats 2000000 in
theorem chip_loss_some (b : Nat) (s : St) (S : Nat → Prop) (w : World) (hA : ChipAt w b s S) (ha : s.a.size = 4096) (j : Job) (hj : s.job = some j) (hf : j.Form) (mask : ByteArray) (hm : mask.size ≤ 9223372036854775807) :
    Calls Tryz.prog 28 #[.pointer (some ⟨b, 0, none⟩), .string mask] w fun e w' => e = .returned (.int .i64 0) ∧ ChipPost b (s.loss mask) S w w' := by
  obtain ⟨jv, bv, dv, hv, rfl⟩ := hA
  have hjv := hv.job
  rw [hj] at hjv
  obtain ⟨g, rfl, hG⟩ := hjv
  have HL : Hid (s.loss mask = ({ s with a := j.cells s.a mask } : St).pw) := by
    show s.loss mask = ({ s with a := j.cells s.a mask } : St).pw
    unfold St.loss St.pw
    rw [hj]
  have HB := Lib.hid hv.cb
  have HJC := fun W (u : Upd none' w W) => job_cells g j s.a mask W (hG.upd u (fun f => f)) hf ha hm
  have HJ := Lib.hid HJC
  have c0 := hv.cb.cell 0
  have c18 := hv.cb.cell 18
  have f0 := hv.cb.frozen 0
  simp only [St.list, List.getElem?_cons_zero, List.getElem?_cons_succ] at c0 c18
  clear hv hj hG HJC ha hm
  go_enter Tryz.func28, Tryz.ntmps28
  go_upto_region 4 with fail
  go_region_with (go_at_call 106; go_must (refine (HJ.out _ (Upd.refl none' w).drew).mono ?_; rintro e w3 ⟨rfl, hU3⟩; have hC3 := Blk.upd (S := none') (w := w) HB.out ((Upd.refl none' w).drew.trans hU3 (fun _ _ f => f)) (fun f => f); have hc3 := hC3.cell 0; have hf3 := hC3.frozen 0; simp only [St.list, List.getElem?_cons_zero] at hc3))
  all_goals
    clear c0 c18 f0 hc3 hf3
    have hB := hC3.set 0 (.string (j.cells s.a mask))
    have hU4 : Upd (fun k => k = b) w (w3.setCell ⟨b, 0, none⟩ (.string (j.cells s.a mask))) := ((((Upd.refl none' w).drew.trans hU3 (fun _ _ f => f)).mono (fun _ _ f => f.elim))).setCell ⟨b, 0, none⟩ _ (fun _ => rfl)
    replace hB : CB (w3.setCell ⟨b, 0, none⟩ (.string (j.cells s.a mask))) b ({ s with a := j.cells s.a mask } : St) (.pointer (some ⟨g, 0, none⟩)) bv dv := hB
    generalize w3.setCell ⟨b, 0, none⟩ (.string (j.cells s.a mask)) = W at *
    have HTH := Lib.hid (pow0_there hB)
    have HW := Lib.hid (pow0_world hB)
    have HU := Lib.hid (pow0_upd W b)
    clear hB hC3 hU3
    go_wp2_with (refine wpList_store_mid rfl 140 _ _ rfl b 15 pwL.toArray rfl rfl HTH.out (by kernel_rfl) (by kernel_rfl) ?_)
    go_ret
    refine ⟨rfl, ?_⟩
    rw [HL.out]
    exact pow0_post (.inl rfl) HW.out ((hU4.trans HU.out (fun _ _ h => h)).mono (fun k _ hk => .inl hk))
theorem chip_loss (b : Nat) (s : St) (S : Nat → Prop) (w : World) (hA : ChipAt w b s S) (N : Int) (hI : s.InvW N) (mask : ByteArray) (hm : mask.size ≤ 9223372036854775807) :
    Calls Tryz.prog 28 #[.pointer (some ⟨b, 0, none⟩), .string mask] w fun e w' => e = .returned (.int .i64 0) ∧ ChipPost b (s.loss mask) S w w' := by
  cases hj : s.job with
  | none => exact chip_loss_none b s S w hA hj mask
  | some j => exact chip_loss_some b s S w hA hI.1.size j hj (hI.1.job j hj).1 mask hm
theorem loss_inv {s : St} {N : Int} (h : s.InvW N) (mask : ByteArray) : (s.loss mask).InvW N := by
  have h0 : 0 ≤ N := by have := h.1.told; omega
  have ha : (match s.job with | some j => j.cells s.a mask | none => s.a).size = 4096 := by
    cases s.job with
    | none => exact h.1.size
    | some j => exact (Job.cells_size j s.a mask).trans h.1.size
  obtain ⟨n1, n2⟩ := (new_inv _ ha).mono h0
  exact ⟨⟨n1.size, n1.job, n1.addr, n1.told, n1.len, n1.data, n1.now, n1.mode, n1.op, h.1.wipes, n1.busy⟩, fun hs => by cases hs⟩
theorem c_loss {Q : Own} {w0 w : World} {b : Nat} {s : St} {N : Int} {rows : List (Value × List Value)} (hC : Ctx (ChipP b s N) Q w0 w rows) (mask : ByteArray) (hm : mask.size ≤ 9223372036854775807) (t : St) (ht : s.loss mask = t) :
    Calls Tryz.prog 28 #[.pointer (some ⟨b, 0, none⟩), .string mask] w fun e w' => e = .returned (.int .i64 0) ∧ Ctx (ChipP b t N) Q w0 w' rows := by
  subst ht
  exact c_post hC (s.loss mask) (fun h => loss_inv h mask) (fun S hA hI => chip_loss b s S w hA N hI mask hm)
end Go.Proofs.YteombggfmeilaaaGreat
