/- The walks over whole, stat.Protected. · The walk over a page's bytes. · The walk over starts. · The walk over ends: what is no program, no erase. -/
import Derived.Test.YtepnljeojlbliaaGreatChipD
import Derived.Test.YtepnljeojlbliaaGreatLow
import Derived.Laws.MakeOwn
namespace Go.Proofs.YtepnljeojlbliaaGreat
open Go.RowKit
theorem quiet_eq {P : Program} {f : FuncId} {args : Array Value} {w0 : World} {u : UW w0} {v : Value} (h : Calls P f args u.val fun e w' => e = .returned v ∧ u.val = w') :
    Calls P f args u.val fun e w'' => e = .returned v ∧ ∃ u' : UW w0, w'' = u'.val :=
  h.mono fun _ _ ⟨he, hu⟩ => ⟨he, u, hu.symm⟩
set_option maxHeartbeats 1000000 in
theorem cmd_whole (b : Nat) (s : St) (jv bv dv : Value) (w : World) (h : CB w b s jv bv dv) (hda : s.op.inn = true → s.op.data = 1) :
    Calls Tryz.prog 154 #[.pointer (some ⟨b, 20, none⟩)] w fun e w' => e = .returned (.bool s.whole) ∧ Upd none' w w' := by
  have c25 := h.cell 25
  have c24 := h.cell 24
  have c26 := h.cell 26
  have c27 := h.cell 27
  have c35 := h.cell 35
  simp only [St.list, List.getElem?_cons_succ, List.getElem?_cons_zero] at c24 c25 c26 c27 c35
  cases hi : s.op.inn with
  | true =>
    have hd := hda hi
    rw [hi] at c25
    rw [hd] at c24
    by_cases h5 : s.stage = 5
    · rw [h5] at c26
      obtain ⟨q, hq⟩ : ∃ q, (s.left == 8) = q := ⟨_, rfl⟩
      have hR : s.whole = q := by
        rw [← hq]
        simp only [St.whole, hi, hd, h5, if_true, true_and]
        rfl
      have HR := Lib.hid hR
      have l24 : ∀ u : UW w, u.val.cell? ⟨b, 24, none⟩ = some (.int .i64 1) := fun u => by rw [← c24]; exact u.upd.cell h.lt (fun f => f)
      have l26 : ∀ u : UW w, u.val.cell? ⟨b, 26, none⟩ = some (.int .i64 5) := fun u => by rw [← c26]; exact u.upd.cell h.lt (fun f => f)
      have l27 : ∀ u : UW w, u.val.cell? ⟨b, 27, none⟩ = some (.int .i64 s.left) := fun u => by rw [← c27]; exact u.upd.cell h.lt (fun f => f)
      clear hR hi hd h5 hda
      go_enter Tryz.func154, Tryz.ntmps154
      go_upto_region 2 with fail
      refine wp_region_upd_lit w (Upd.refl none' w) (by kernel_rfl) (by kernel_rfl) ?_
      repeat (go_big_quiet_step ((go_at_call 92; exact quiet_eq (lane_many 1 (.inl rfl) _))))
      refine wpQuiet_nil ?_
      rintro _ ⟨⟨w1, hU1⟩, rfl⟩
      go_wp2
      go_ret
      exact ⟨by rw [HR.out]; rfl, hU1⟩
    · have hb5 : (s.stage == 5) = false := by simpa using h5
      have hR : s.whole = false := by
        simp only [St.whole, hi, hd, if_true]
        exact decide_eq_false (fun e => h5 e.1)
      have HR := Lib.hid hR
      have l26 : ∀ u : UW w, u.val.cell? ⟨b, 26, none⟩ = some (.int .i64 s.stage) := fun u => by rw [← c26]; exact u.upd.cell h.lt (fun f => f)
      clear hR hi hd hda
      go_enter Tryz.func154, Tryz.ntmps154
      go_upto_region 2 with fail
      refine wp_region_upd_lit w (Upd.refl none' w) (by kernel_rfl) (by kernel_rfl) ?_
      repeat (go_big_quiet_step (fail))
      refine wpQuiet_nil ?_
      rintro _ ⟨⟨w1, hU1⟩, rfl⟩
      go_wp2
      go_ret
      exact ⟨by rw [HR.out]; rfl, hU1⟩
  | false =>
    rw [hi] at c25
    by_cases hd : s.op.data = 0
    · rw [hd] at c24
      by_cases h7 : s.stage = 7
      · rw [h7] at c26
        have hR : s.whole = !s.beyond := by
          simp only [St.whole, hi, hd, h7]
          simp
        have HR := Lib.hid hR
        clear hR hi hd h7 hda
        cases hb : s.beyond with
        | true =>
          rw [hb] at c35
          have HB := Lib.hid hb
          clear hb
          go_enter Tryz.func154, Tryz.ntmps154
          go_wp2
          go_ret
          exact ⟨by rw [HR.out, HB.out]; rfl, Upd.refl _ _⟩
        | false =>
          rw [hb] at c35
          have HB := Lib.hid hb
          clear hb
          go_enter Tryz.func154, Tryz.ntmps154
          go_wp2
          go_ret
          exact ⟨by rw [HR.out, HB.out]; rfl, Upd.refl _ _⟩
      · have hb7 : (s.stage == 7) = false := by simpa using h7
        have hR : s.whole = false := by
          simp only [St.whole, hi, hd]
          simp [h7]
        have HR := Lib.hid hR
        clear hR hi hd hda
        go_enter Tryz.func154, Tryz.ntmps154
        go_wp2
        go_ret
        exact ⟨by rw [HR.out]; rfl, Upd.refl _ _⟩
    · have hbd : (s.op.data == 0) = false := by simpa using hd
      have hR : s.whole = true := by
        simp only [St.whole, hi]
        simp [hd]
      have HR := Lib.hid hR
      clear hR hi hda
      go_enter Tryz.func154, Tryz.ntmps154
      go_wp2
      go_ret
      exact ⟨by rw [HR.out]; rfl, Upd.refl _ _⟩
theorem stat_image (a : Int) (w : World) (h : 0 ≤ a) :
    Calls Tryz.prog 134 #[.int .i64 a] w fun e w' => e = .returned (.bool (decide (a < 2048))) ∧ w = w' := by
  by_cases h1 : a < 2048
  all_goals
    go_enter Tryz.func134, Tryz.ntmps134
    go_wp2
    go_ret
    exact ⟨by simp [h1], rfl⟩
theorem stat_protected (p : Bool) (a : Int) (w : World) (h : 0 ≤ a) (h2 : a < 4096) :
    Calls Tryz.prog 190 #[.bool p, .int .i64 a] w fun e w' => e = .returned (.tuple #[.bool (p && decide (a < 2048)), .int .i64 0]) ∧ w = w' := by
  cases p
  · go_enter Tryz.func190, Tryz.ntmps190
    go_wp2
    go_ret2
    exact ⟨rfl, rfl⟩
  · have hi := stat_image a w h
    go_enter Tryz.func190, Tryz.ntmps190
    go_wp2_with fail
    refine hi.mono ?_
    rintro e w' ⟨rfl, rfl⟩
    go_wp2
    go_ret2
    exact ⟨rfl, rfl⟩
end Go.Proofs.YtepnljeojlbliaaGreat
namespace Go.Proofs.YtepnljeojlbliaaGreat
open Go.RowKit
theorem make_bytes32 (u : World) : (Instr.makeSlice 23 (.int .i64 32) (.int .i64 32)).run Tryz.prog u = .ok (.slice (some ⟨u.heap.size, 0, none⟩) 32 32) (u.alloc (.cells (bytesV (List.replicate 32 0)).toArray 5)) := by
  have := run_make (P := Tryz.prog) u 23 5 Tryz.t5 (.int .u8 0) Tryz.underlying23 (by kernel_rfl) (by kernel_rfl) .i64 .i64 32 32 (by decide) (by decide) (by show ((1 : Nat) : Int) * 32 ≤ _; decide) (by decide)
  rw [this, show madeCells (Value.int .u8 0).cells (Int.toNat 32 * Tryz.t5.size) = (bytesV (List.replicate 32 0)).toArray from by kernel_rfl]
  rfl
theorem page_len (addr : Int) (data : List Int) : (pageOf addr data).length = 32 := by
  have key : ∀ (l : List (Int × Nat)) (a : List UInt8), (l.foldl (fun (l : List UInt8) (x : Int × Nat) => l.set ((addr + x.2) % 32).toNat (UInt8.ofNat (x.1 % 256).toNat)) a).length = a.length := by
    intro l
    induction l with
    | nil => intro a; rfl
    | cons x l ih => intro a; rw [List.foldl_cons, ih, List.length_set]
  unfold pageOf
  rw [key, List.length_replicate]
theorem page_snoc (addr : Int) (data : List Int) (x : Int) : pageOf addr (data ++ [x]) = (pageOf addr data).set ((addr + data.length) % 32).toNat (UInt8.ofNat (x % 256).toNat) := by
  unfold pageOf
  rw [List.zipIdx_append, List.foldl_append]
  simp
theorem fill_step (i : Nat) (h : i < 32) : (List.replicate i (255 : UInt8) ++ List.replicate (32 - i) 0).set i 255 = List.replicate (i + 1) 255 ++ List.replicate (32 - (i + 1)) 0 := by
  apply List.ext_getElem
  · simp; omega
  · intro j h1 h2
    simp only [List.getElem_set, List.getElem_append, List.length_replicate, List.getElem_replicate]
    split
    · subst_vars; simp
    · split <;> split <;> first | rfl | omega
theorem u8_wrap_of (x : Int) : IntKind.u8.wrap x = ((UInt8.ofNat (x % 256).toNat).toNat : Int) := by
  have h : IntKind.u8.wrap x = x % 256 := by first | exact IntKind.wrap_u8 x | rfl
  rw [h, UInt8.toNat_ofNat']
  omega
theorem page_at (addr : Int) (i : Nat) (h0 : 0 ≤ addr) : ∃ q : Nat, (addr + (i : Int)).tmod 32 = (q : Int) ∧ q < 32 ∧ ((addr + (i : Int)) % 32).toNat = q := by
  refine ⟨((addr + (i : Int)) % 32).toNat, ?_, by omega, rfl⟩
  rw [Int.tmod_eq_emod_of_nonneg (by omega)]
  omega
set_option maxHeartbeats 1000000 in
theorem cmd_page (b : Nat) (s : St) (jv bv dv : Value) (w : World) (h : CB w b s jv bv dv) (hd : Row w 3 dv (ints s.data)) (had : 0 ≤ s.addr ∧ s.addr < 4096) (hlen : s.data.length ≤ 1048577) :
    Calls Tryz.prog 156 #[.pointer (some ⟨b, 20, none⟩)] w fun e w' => e = .returned (.string ⟨(pageOf s.addr s.data).toArray⟩) ∧ Upd none' w w' := by
  have hmk := make_bytes32
  obtain ⟨da, dc, rfl, hdc, -, hform⟩ := hd.form
  rw [ints_len] at hdc h hd
  have HB := Lib.hid h
  have HD := Lib.hid hd
  clear hd h
  go_enter Tryz.func156, Tryz.ntmps156
  go_wp2_with fail
  clear hmk
  go_loopw [10] (fun iv wr => ∃ i : Nat, i ≤ 32 ∧ iv = .int .i64 i ∧ Upd none' w wr ∧ Buf wr w.heap.size (List.replicate i 255 ++ List.replicate (32 - i) 0) 5) (fun iv _ => 32 - (intOf iv).toNat)
  case atStart =>
    refine ⟨0, by omega, rfl, (Upd.refl none' w).alloc _, ?_⟩
    exact ⟨[], (0, 0), by simp only [List.replicate_zero, List.nil_append, List.append_nil]; exact heap_alloc_new w _, .inl rfl⟩
  case round =>
    obtain ⟨i, hi, rfl, hU, hB⟩ := hrel
    by_cases hlt : i < 32
    · have hl32 : (List.replicate i (255 : UInt8) ++ List.replicate (32 - i) 0).length = 32 := by simp; omega
      have hc := hB.cell (j := i) (by rw [hl32]; exact hlt)
      have hf := hB.frozen (j := i) (by rw [hl32]; exact hlt)
      have hB2 := hB.set (j := i) (by rw [hl32]; exact hlt) 255
      rw [fill_step i hlt] at hB2
      have HB2 := Lib.hid hB2
      have hU2 := hU.setCell ⟨w.heap.size, i, none⟩ (.int .u8 255) (fun h => absurd h (by dsimp only; omega))
      clear hB2 hl32
      go_wp2
      exact ⟨⟨i + 1, by omega, by go_num, hU2, HB2.out⟩, by simp [intOf]; omega⟩
    · have hieq : i = 32 := by omega
      subst hieq
      have hB' : Buf wr w.heap.size (pageOf s.addr []) 5 := by rw [Nat.sub_self, List.replicate_zero, List.append_nil] at hB; exact hB
      have hcb := HB.out.upd hU (fun f => f)
      have c32 := hcb.cell 32
      simp only [St.list, List.getElem?_cons_succ, List.getElem?_cons_zero] at c32
      have HU := Lib.hid hU
      have HB' := Lib.hid hB'
      clear hB hU hB' hcb
      go_wp2_with fail
      go_loopw [22] (fun iv w2 => ∃ i : Nat, i ≤ s.data.length ∧ iv = .int .i64 i ∧ Upd none' w w2 ∧ Buf w2 w.heap.size (pageOf s.addr (s.data.take i)) 5) (fun iv _ => s.data.length - (intOf iv).toNat)
      case atStart => exact ⟨0, by omega, rfl, HU.out, by rw [List.take_zero]; exact HB'.out⟩
      case round =>
        rename World => W2
        clear c32
        obtain ⟨i, hi, rfl, hU, hB⟩ := hrel
        by_cases hlt : i < s.data.length
        · obtain ⟨x, hx⟩ : ∃ x, s.data.getD i 0 = x := ⟨_, rfl⟩
          have hne : ∃ g, da = some ⟨g, 0, none⟩ ∧ W2.cell? ⟨g, i, none⟩ = some (.int .i64 x) := by
            cases da with
            | none =>
              have := HD.out.form
              obtain ⟨ao, cap, e1, _, hn, _⟩ := this
              simp only [Value.slice.injEq] at e1
              have := (hn e1.1.symm).1
              have hl := ints_len s.data
              rw [this] at hl
              simp at hl
              omega
            | some ad =>
              obtain ⟨g, rfl, h1, h2, h3, h4⟩ := hform ad rfl
              refine ⟨g, rfl, ?_⟩
              rw [hU.cell (p := ⟨g, i, none⟩) h2 (fun f => f), h3 i (by rw [ints_len]; exact hlt), ints_at _ _ hlt, hx]
          obtain ⟨g, rfl, hcx⟩ := hne
          obtain ⟨q, hq1, hq2, hq3⟩ := page_at s.addr i had.1
          have hcb := HB.out.upd hU (fun f => f)
          have c29 := hcb.cell 29
          simp only [St.list, List.getElem?_cons_succ, List.getElem?_cons_zero] at c29
          have hpl := page_len s.addr (s.data.take i)
          have hc := hB.cell (j := q) (by rw [hpl]; exact hq2)
          have hf := hB.frozen (j := q) (by rw [hpl]; exact hq2)
          have hB2 := hB.set (j := q) (by rw [hpl]; exact hq2) (UInt8.ofNat (x % 256).toNat)
          have htk : s.data.take (i + 1) = s.data.take i ++ [x] := by
            rw [List.take_add_one, ← hx]
            simp [List.getD_eq_getElem?_getD, List.getElem?_eq_getElem hlt]
          have hps : (pageOf s.addr (s.data.take i)).set q (UInt8.ofNat (x % 256).toNat) = pageOf s.addr (s.data.take (i + 1)) := by
            rw [htk, page_snoc, List.length_take, Nat.min_eq_left hi, hq3]
          rw [hps] at hB2
          have hx8 := u8_wrap_of x
          obtain ⟨v8, hv8⟩ : ∃ v8 : UInt8, UInt8.ofNat (x % 256).toNat = v8 := ⟨_, rfl⟩
          rw [hv8] at hx8 hB2
          have HB2 := Lib.hid hB2
          have hU2 := Lib.hid (hU.setCell ⟨w.heap.size, q, none⟩ (.int .u8 (v8.toNat : Int)) (fun h => absurd h (by dsimp only; omega)))
          clear hB2 hps htk hpl hcb hB hU hform hx hv8 hq3
          go_wp2
          exact ⟨⟨i + 1, by omega, by go_num, hU2.out, HB2.out⟩, by simp [intOf]; omega⟩
        · have hieq : i = s.data.length := by omega
          subst hieq
          rw [List.take_length] at hB
          have hst := run_string_buf hB 23 5 9 Tryz.underlying23 Tryz.underlying5 Tryz.underlying9 32 32 (page_len _ _)
          go_wp2
          go_ret
          exact ⟨rfl, hU⟩
end Go.Proofs.YtepnljeojlbliaaGreat
namespace Go.Proofs.YtepnljeojlbliaaGreat
open Go.RowKit
/-- What starts leaves. -/
def StartsPost (b g : Nat) (s : St) (j : Job) (jv bv dv : Value) (w w' : World) : Prop := ∃ jv' bv', ChipV w' b (s.starts j) jv' bv' dv ∧ (∀ k, chipSet b jv' bv' dv k → chipSet b jv bv dv k ∨ k = g) ∧ Upd (fun k => k = b ∨ k = g) w w'
theorem starts_keeps (s : St) (j : Job) : (s.starts j).data = s.data := by
  unfold St.starts
  repeat' split
  all_goals rfl
theorem starts_fin {w w' : World} {b g : Nat} {s : St} {jv bv bv' dv : Value} {j : Job} {L : Int} (hv : ChipV w b s jv bv dv) (sep : ¬ chipSet b jv bv dv g) (hB : CB w' b (s.starts j) (.pointer (some ⟨g, 0, none⟩)) bv' dv) (hG : Blk w' g (jobCells { j with left := L }) 152)
    (hj : (s.starts j).job = some { j with left := L }) (hbusy : RS w bv' (ints (s.starts j).busy)) (hbown : ∀ k, bv'.ownBlock = some k → bv.ownBlock = some k) (hU : Upd (fun k => k = b ∨ k = g) w w') : StartsPost b g s j jv bv dv w w' := by
  have hptr : ∀ k, (Value.pointer (some ⟨g, 0, none⟩) = .pointer (some ⟨k, 0, none⟩)) → k = g := by
    intro k hk
    simp only [Value.pointer.injEq, Option.some.injEq, Addr.mk.injEq, and_true] at hk
    exact hk.symm
  refine ⟨_, bv', ⟨hB, ?_, ?_, ?_, ?_, ?_, ?_, ?_⟩, ?_, hU⟩
  · rw [hj]; exact ⟨g, rfl, hG⟩
  · refine hbusy.upd hU (fun k _ hk e => ?_)
    have hk' := hbown k hk
    rcases e with e | e
    · exact (hv.sb k hk').1 e
    · exact sep (.inr (.inr (.inl (by rw [← e]; exact hk'))))
  · exact fun k hk => Nat.lt_of_lt_of_le (hv.busyLt k (hbown k hk)) hU.size
  · rw [starts_keeps]
    refine hv.data.upd hU (fun k hk e => ?_)
    rcases e with e | e
    · exact (hv.sd k hk).1 e
    · exact sep (.inr (.inr (.inr (by rw [← e]; exact hk))))
  · intro k hk e
    exact sep (.inl (by rw [← hptr k hk, e]))
  · intro k hk
    exact ⟨(hv.sb k (hbown k hk)).1, fun e => sep (.inr (.inr (.inl (by rw [← hptr k e]; exact hbown k hk))))⟩
  · intro k hk
    exact ⟨(hv.sd k hk).1, fun e => sep (.inr (.inr (.inr (by rw [← hptr k e]; exact hk)))), fun e => (hv.sd k hk).2.2 (hbown k e)⟩
  · rintro k (e | e | e | e)
    · exact .inl (.inl e)
    · exact .inr (hptr k e)
    · exact .inl (.inr (.inr (.inl (hbown k e))))
    · exact .inl (.inr (.inr (.inr e)))
theorem wipes_cell {w : World} {b : Nat} {s : St} {jv bv dv : Value} (h : CB w b s jv bv dv) (i : Nat) (hi : i < 8) : w.cell? ⟨b, 3 + i, none⟩ = some (.int .i64 (s.wipes i)) := by
  rw [h.cell]
  rcases (show i = 0 ∨ i = 1 ∨ i = 2 ∨ i = 3 ∨ i = 4 ∨ i = 5 ∨ i = 6 ∨ i = 7 by omega) with rfl | rfl | rfl | rfl | rfl | rfl | rfl | rfl <;> rfl
theorem wipes_set {w : World} {b : Nat} {s : St} {jv bv dv : Value} (h : CB w b s jv bv dv) (i : Nat) (hi : i < 8) (v : Int) : CB (w.setCell ⟨b, 3 + i, none⟩ (.int .i64 v)) b { s with wipes := fun k => if (k : Int) = (i : Int) then v else s.wipes k } jv bv dv := by
  have := h.set (3 + i) (.int .i64 v)
  rcases (show i = 0 ∨ i = 1 ∨ i = 2 ∨ i = 3 ∨ i = 4 ∨ i = 5 ∨ i = 6 ∨ i = 7 by omega) with rfl | rfl | rfl | rfl | rfl | rfl | rfl | rfl <;> exact this
theorem RS.tail {w : World} {a : Option Addr} {n c : Nat} {x : Value} {vs : List Value} (h : RS w (.slice a n c) (x :: vs)) : ∃ b o, a = some ⟨b, o, none⟩ ∧ n = vs.length + 1 ∧ n ≤ c ∧ w.cell? ⟨b, o, none⟩ = some x ∧ b < w.heap.size ∧ RS w (.slice (some ⟨b, o + 1, none⟩) vs.length (c - 1)) vs := by
  obtain ⟨hl, a', cap, e, h4, h5⟩ := h
  simp only [List.length_cons, Value.slice.injEq] at e h4 hl
  obtain ⟨rfl, rfl, rfl⟩ := e
  obtain ⟨b, o, rfl, h7, h8⟩ := h5 (by simp)
  refine ⟨b, o, rfl, rfl, h4, by have := h8 0 (by simp); simpa using this, h7, by omega, some ⟨b, o + 1, none⟩, c - 1, rfl, by omega, fun _ => ⟨b, o + 1, rfl, h7, fun j hj => ?_⟩⟩
  have := h8 (j + 1) (by simp; omega)
  rw [show o + 1 + j = o + (j + 1) by omega, this]
  simp
set_option maxRecDepth 100000 in
set_option maxHeartbeats 4000000 in
theorem chip_starts (b g : Nat) (j : Job) (s : St) (jv bv dv : Value) (w : World) (hv : ChipV w b s jv bv dv) (sep : ¬ chipSet b jv bv dv g) (hg : Blk w g (jobCells j) 152) (had : 0 ≤ s.addr ∧ s.addr < 4096) (hsec : j.sector = -1 ∨ 0 ≤ j.sector ∧ j.sector < 8)
    (hwp : ∀ k, 0 ≤ s.wipes k ∧ s.wipes k ≤ 1048577) :
    Calls Tryz.prog 155 #[.pointer (some ⟨b, 0, none⟩), .pointer (some ⟨g, 0, none⟩)] w fun e w' => e = .returned (.tuple #[]) ∧ StartsPost b g s j jv bv dv w w' := by
  have h := hv.cb
  have hgb : g ≠ b := fun e => sep (.inl e)
  have c1 := h.cell 1
  have c16 := h.cell 16
  have c29 := h.cell 29
  have f16 := h.frozen 16
  simp only [St.list, List.getElem?_cons_succ, List.getElem?_cons_zero] at c1 c16 c29
  have HV := Lib.hid hv
  have HS := Lib.hid sep
  have same : s.starts j = s → StartsPost b g s j jv bv dv w w := fun e => ⟨jv, bv, by rw [e]; exact HV.out, fun k hk => .inl hk, Upd.refl _ _⟩
  cases hen : s.en with
  | false =>
    have hR : s.starts j = s := by unfold St.starts; rw [if_pos (by rw [hen]; rfl)]
    rw [hen] at c16
    have HR := Lib.hid (same hR)
    clear same hR hv h sep
    go_enter Tryz.func155, Tryz.ntmps155
    go_wp2
    refine bodyPost_ret (results_none rfl _ _ _) rfl ?_
    exact ⟨rfl, HR.out⟩
  | true =>
    rw [hen] at c16
    clear same
    have l1 : ∀ u : UW w, u.val.cell? ⟨b, 1, none⟩ = some (.bool s.prot) := fun u => by rw [← c1]; exact u.upd.cell h.lt (fun f => f)
    have l29 : ∀ u : UW w, u.val.cell? ⟨b, 29, none⟩ = some (.int .i64 s.addr) := fun u => by rw [← c29]; exact u.upd.cell h.lt (fun f => f)
    obtain ⟨p, hp⟩ : ∃ p, (s.prot && decide (s.addr < 2048)) = p := ⟨_, rfl⟩
    have hpr : ∀ W, Calls Tryz.prog 190 #[.bool s.prot, .int .i64 s.addr] W fun e w' => e = .returned (.tuple #[.bool p, .int .i64 0]) ∧ W = w' := fun W => hp ▸ stat_protected s.prot s.addr W had.1 had.2
    have HP := Lib.hid hpr
    clear hpr hv h sep
    go_enter Tryz.func155, Tryz.ntmps155
    go_upto_region 1 with fail
    refine wp_region_upd_lit w (Upd.refl none' w) (by kernel_rfl) (by kernel_rfl) ?_
    repeat (go_big_quiet_step ((go_at_call 190; exact quiet_eq (HP.out _))))
    refine wpQuiet_nil ?_
    rintro w1 ⟨⟨w1', hU1⟩, hw1⟩
    have hw1' : w1 = w1' := hw1
    subst hw1'
    clear hw1
    have hv1 : ChipV w1 b s jv bv dv := ⟨HV.out.cb.upd hU1 (fun f => f), HV.out.job.upd hU1 (fun _ _ f => f), HV.out.busy.upd hU1 (fun _ _ _ f => f), fun k hk => Nat.lt_of_lt_of_le (HV.out.busyLt k hk) hU1.size, HV.out.data.upd hU1 (fun _ _ f => f), HV.out.sj, HV.out.sb, HV.out.sd⟩
    have hg1 := hg.upd hU1 (fun f => f)
    have mk : StartsPost b g s j jv bv dv w1 = StartsPost b g s j jv bv dv w1 := rfl
    clear mk
    have lift : ∀ w2, StartsPost b g s j jv bv dv w1 w2 → StartsPost b g s j jv bv dv w w2 := fun w2 ⟨a1, a2, a3, a4, a5⟩ => ⟨a1, a2, a3, a4, (hU1.mono (fun _ _ f => f.elim)).trans a5 (fun _ _ e => e)⟩
    have HL := Lib.hid lift
    have HV1 := Lib.hid hv1
    have hB1 := hv1.cb
    clear l1 l29 c1 c16 c29 f16 lift HV hU1 hg
    have c16 := hB1.cell 16
    have f16 := hB1.frozen 16
    have c18 := hB1.cell 18
    have f18 := hB1.frozen 18
    have c19 := hB1.cell 19
    have f19 := hB1.frozen 19
    simp only [St.list, List.getElem?_cons_succ, List.getElem?_cons_zero] at c16 c18 c19
    cases p with
    | true =>
      have hR : s.starts j = { s with en := false } := by
        unfold St.starts
        rw [if_neg (by rw [hen]; decide)]
        simp at hp
        rw [if_pos hp]
      have HR := Lib.hid hR
      have hfin := Lib.hid (hB1.set 16 (.bool false))
      clear hR hp hv1 hB1
      go_wp2
      refine bodyPost_ret (results_none rfl _ _ _) rfl ?_
      have hU2 := (Upd.refl (fun k => k = b ∨ k = g) w1).setCell ⟨b, 16, none⟩ (.bool false) (fun _ => .inl rfl)
      have hU3 := (Upd.refl (fun k => k = b) w1).setCell ⟨b, 16, none⟩ (.bool false) (fun _ => rfl)
      refine ⟨rfl, HL.out _ ⟨jv, bv, ?_, fun k hk => .inl hk, hU2⟩⟩
      rw [HR.out]
      exact ⟨hfin.out, HV1.out.job.upd hU3 (fun k hk => HV1.out.sj k hk), HV1.out.busy.upd hU3 (fun k _ hk => (HV1.out.sb k hk).1), fun k hk => Nat.lt_of_lt_of_le (HV1.out.busyLt k hk) hU3.size, HV1.out.data.upd hU3 (fun k hk => (HV1.out.sd k hk).1), HV1.out.sj, HV1.out.sb, HV1.out.sd⟩
    | false =>
      have hnp : ¬ (s.prot = true ∧ s.addr < 2048) := by simp at hp; intro e; have := hp e.1; omega
      have g0 := hg1.cell 0
      have g3 := hg1.cell 3
      have gf3 := hg1.frozen 3
      simp only [jobCells, List.getElem?_cons_succ, List.getElem?_cons_zero] at g0 g3
      have HG1 := Lib.hid hg1
      have HB1 := Lib.hid hB1
      have HNP := Lib.hid hnp
      have HEN := Lib.hid hen
      clear hp hv1 hB1 hg1 hnp hen
      obtain ⟨L, hL⟩ : ∃ L, (match s.busy with | [] => (8 : Int) | d :: _ => d) = L := ⟨_, rfl⟩
      have hb0 := HV1.out.busy
      obtain ⟨_, ba, bc, rfl, -⟩ := id hb0
      go_upto_if 40 with (fail)
      go_cut [] (fun wx => ∃ bv', CB wx b { s with busy := s.busy.tail } jv bv' dv ∧ Blk wx g (jobCells { j with left := L }) 152 ∧ RS w1 bv' (ints s.busy.tail) ∧ (∀ k, bv'.ownBlock = some k → (Value.slice ba (ints s.busy).length bc).ownBlock = some k) ∧ Upd (fun k => k = b ∨ k = g) w1 wx)
      case first =>
        cases hbz : s.busy with
        | nil =>
          rw [hbz] at hb0 hL
          have hL' : (8 : Int) = L := hL
          subst hL'
          clear hb0
          rw [hbz] at c19
          rw [show (ints []).length = 0 from rfl] at c19 ⊢
          have HC := Lib.hid (HB1.out.upd ((Upd.refl (fun k => k = g) w1).setCell ⟨g, 3, none⟩ (.int .i64 8) (fun _ => rfl)) (Ne.symm hgb))
          have HD := Lib.hid (HG1.out.set 3 (.int .i64 8))
          have HE := Lib.hid ((Upd.refl (fun k => k = b ∨ k = g) w1).setCell ⟨g, 3, none⟩ (.int .i64 8) (fun _ => .inr rfl))
          clear c16 f16 c18 f18 g0
          go_wp2_with fail
          go_meet
          try rw [hbz]
          exact ⟨(.slice ba (ints s.busy).length bc), HC.out, HD.out, by have hbb := HV1.out.busy; rw [show (ints ([] : List Int).tail) = ints s.busy by rw [hbz]; rfl]; exact hbb, fun k hk => by rw [hbz] at hk; exact hk, HE.out⟩
        | cons d ds =>
          rw [hbz] at hb0 hL
          have hL' : d = L := hL
          subst hL'
          rw [hbz] at c19
          obtain ⟨qb, qo, rfl, hn, hc, hq, hql, hbt⟩ := RS.tail hb0
          rw [show (ints (d :: ds)).length = ds.length + 1 by simp [ints]] at c19 hc ⊢
          rw [List.length_map] at hbt
          have hqb : qb ≠ b := (HV1.out.sb qb rfl).1
          have hqg : qb ≠ g := fun e => HS.out (.inr (.inr (.inl (by rw [← e]; rfl))))
          have hbg : b ≠ g := Ne.symm hgb
          clear hb0 hn
          by_cases hbc : bc = 1
          · have hds : ds = [] := List.eq_nil_of_length_eq_zero (by omega)
            subst hds
            subst hbc
            rw [show ([] : List Int).length + 1 = 1 from rfl] at c19 ⊢
            have HC := Lib.hid (((HB1.out.upd ((Upd.refl (fun k => k = g) w1).setCell ⟨g, 3, none⟩ (.int .i64 8) (fun _ => rfl)) (Ne.symm hgb)).upd ((Upd.refl (fun k => k = g) _).setCell ⟨g, 3, none⟩ (.int .i64 d) (fun _ => rfl)) (Ne.symm hgb)).set 19 (.slice (some ⟨qb, qo, none⟩) 0 0))
            have HD := Lib.hid (((HG1.out.set 3 (.int .i64 8)).set 3 (.int .i64 d)).set_ne (c := b) 19 (.slice (some ⟨qb, qo, none⟩) 0 0) hgb)
            have HE := Lib.hid ((((Upd.refl (fun k => k = b ∨ k = g) w1).setCell ⟨g, 3, none⟩ (.int .i64 8) (fun _ => .inr rfl)).setCell ⟨g, 3, none⟩ (.int .i64 d) (fun _ => .inr rfl)).setCell ⟨b, 19, none⟩ (.slice (some ⟨qb, qo, none⟩) 0 0) (fun _ => .inl rfl))
            clear c16 f16 c18 f18 g0
            go_wp2_with fail
            go_meet
            try rw [hbz]
            exact ⟨(.slice (some ⟨qb, qo, none⟩) 0 0), HC.out, HD.out, ⟨by simp [ints], some ⟨qb, qo, none⟩, 0, rfl, Nat.le_refl _, fun h => absurd rfl h⟩, fun k hk => hk, HE.out⟩
          · have hbc2 : bc - 1 ≠ 0 := by omega
            have HC := Lib.hid (((HB1.out.upd ((Upd.refl (fun k => k = g) w1).setCell ⟨g, 3, none⟩ (.int .i64 8) (fun _ => rfl)) (Ne.symm hgb)).upd ((Upd.refl (fun k => k = g) _).setCell ⟨g, 3, none⟩ (.int .i64 d) (fun _ => rfl)) (Ne.symm hgb)).set 19 (.slice (some ⟨qb, qo + 1, none⟩) ds.length (bc - 1)))
            have HD := Lib.hid (((HG1.out.set 3 (.int .i64 8)).set 3 (.int .i64 d)).set_ne (c := b) 19 (.slice (some ⟨qb, qo + 1, none⟩) ds.length (bc - 1)) hgb)
            have HE := Lib.hid ((((Upd.refl (fun k => k = b ∨ k = g) w1).setCell ⟨g, 3, none⟩ (.int .i64 8) (fun _ => .inr rfl)).setCell ⟨g, 3, none⟩ (.int .i64 d) (fun _ => .inr rfl)).setCell ⟨b, 19, none⟩ (.slice (some ⟨qb, qo + 1, none⟩) ds.length (bc - 1)) (fun _ => .inl rfl))
            clear c16 f16 c18 f18 g0
            go_wp2_with fail
            go_meet
            try rw [hbz]
            exact ⟨(.slice (some ⟨qb, qo + 1, none⟩) ds.length (bc - 1)), HC.out, HD.out, hbt, fun k hk => hk, HE.out⟩
      case rest =>
        obtain ⟨bv', hB2, hG2, hrs, hf, hU2⟩ := hcut
        rename World => X
        have HRS := Lib.hid hrs
        have HF := Lib.hid hf
        have HLL := Lib.hid hL
        clear hrs hf hL hb0 c16 f16 c18 f18 c19 f19 g0 g3 gf3
        have m0 := hG2.cell 0
        have m18 := hB2.cell 18
        have m18f := hB2.frozen 18
        simp only [jobCells, St.list, List.getElem?_cons_succ, List.getElem?_cons_zero] at m0 m18
        rcases hsec with hm1 | ⟨hs0, hs8⟩
        · rw [hm1] at m0
          have hB3 := hB2
          have hG3 := hG2
          have hU3 := hU2
          have HB4 := Lib.hid (hB3.set 18 (.pointer (some ⟨g, 0, none⟩)))
          have HG4 := Lib.hid (hG3.set_ne (c := b) 18 (.pointer (some ⟨g, 0, none⟩)) hgb)
          have HU4 := Lib.hid (hU3.setCell ⟨b, 18, none⟩ (.pointer (some ⟨g, 0, none⟩)) (fun _ => .inl rfl))
          clear hB2 hG2 hU2 hB3 hG3 hU3
          go_wp2
          go_end0
          have hR : s.starts j = { s with busy := s.busy.tail, wipes := s.wipes, job := some { j with left := L } } := by
            unfold St.starts
            rw [if_neg (by rw [HEN.out]; decide), if_neg HNP.out]
            dsimp only
            congr 1
            · funext k
              rw [if_neg (by omega)]
            · rw [← HLL.out]; cases s.busy <;> rfl
          refine ⟨rfl, HL.out _ (starts_fin (bv' := bv') (L := L) HV1.out HS.out ?_ HG4.out ?_ ?_ HF.out HU4.out)⟩
          · rw [hR]; exact HB4.out
          · rw [hR]
          · rw [hR]; exact HRS.out
        · obtain ⟨sn, hsn2⟩ : ∃ sn : Nat, j.sector = (sn : Int) := ⟨j.sector.toNat, by omega⟩
          rw [hsn2] at m0
          have hsn : sn < 8 := by omega
          have hB3 := wipes_set hB2 sn hsn (s.wipes sn + 1)
          have hG3 := hG2.set_ne (c := b) (3 + sn) (.int .i64 (s.wipes sn + 1)) hgb
          have hU3 := hU2.setCell ⟨b, 3 + sn, none⟩ (.int .i64 (s.wipes sn + 1)) (fun _ => .inl rfl)
          have hcw2 : X.cell? ⟨b, 3 + sn, none⟩ = some (.int .i64 (s.wipes sn)) := wipes_cell hB2 sn hsn
          have hcf2 := hB2.frozen (3 + sn)
          have hwb := hwp sn
          have HB4 := Lib.hid (hB3.set 18 (.pointer (some ⟨g, 0, none⟩)))
          have HG4 := Lib.hid (hG3.set_ne (c := b) 18 (.pointer (some ⟨g, 0, none⟩)) hgb)
          have HU4 := Lib.hid (hU3.setCell ⟨b, 18, none⟩ (.pointer (some ⟨g, 0, none⟩)) (fun _ => .inl rfl))
          clear hB2 hG2 hU2 hB3 hG3 hU3
          go_upto_region 9 with fail
          go_region
          go_wp2
          go_end0
          have hR : s.starts j = { s with busy := s.busy.tail, wipes := (fun k => if (k : Int) = (sn : Int) then s.wipes sn + 1 else s.wipes k), job := some { j with left := L } } := by
            unfold St.starts
            rw [if_neg (by rw [HEN.out]; decide), if_neg HNP.out]
            dsimp only
            congr 1
            · funext k
              rw [hsn2]
              by_cases hk : (k : Int) = (sn : Int)
              · rw [if_pos hk, if_pos hk]
                have : k = sn := by omega
                rw [this]
              · rw [if_neg hk, if_neg hk]
            · rw [← HLL.out]; cases s.busy <;> rfl
          refine ⟨rfl, HL.out _ (starts_fin (bv' := bv') (L := L) HV1.out HS.out ?_ HG4.out.drew ?_ ?_ HF.out HU4.out.drew)⟩
          · rw [hR]; exact HB4.out.drew
          · rw [hR]
          · rw [hR]; exact HRS.out
end Go.Proofs.YtepnljeojlbliaaGreat
namespace Go.Proofs.YtepnljeojlbliaaGreat
open Go.RowKit
theorem ChipV.cbSet {w w' : World} {b : Nat} {s t : St} {jv bv dv : Value} (hv : ChipV w b s jv bv dv) (hB : CB w' b t jv bv dv) (hU : Upd (fun k => k = b) w w') (e1 : t.job = s.job) (e2 : t.busy = s.busy) (e3 : t.data = s.data) : ChipPost b t (chipSet b jv bv dv) w w' := by
  refine ⟨chipSet b jv bv dv, ⟨jv, bv, dv, ⟨hB, ?_, ?_, fun k hk => Nat.lt_of_lt_of_le (hv.busyLt k hk) hU.size, ?_, hv.sj, hv.sb, hv.sd⟩, rfl⟩, fun k hk => .inl hk, hU.mono (fun k _ e => .inl e)⟩
  · rw [e1]; exact hv.job.upd hU (fun g hg => hv.sj g hg)
  · rw [e2]; exact hv.busy.upd hU (fun k _ hk => (hv.sb k hk).1)
  · rw [e3]; exact hv.data.upd hU (fun k hk => (hv.sd k hk).1)
theorem ChipV.post {w w' : World} {b : Nat} {s : St} {jv bv dv : Value} (hv : ChipV w b s jv bv dv) (hU : Upd none' w w') : ChipPost b s (chipSet b jv bv dv) w w' :=
  ⟨_, ⟨jv, bv, dv, ⟨hv.cb.upd hU (fun f => f), hv.job.upd hU (fun _ _ f => f), hv.busy.upd hU (fun _ _ _ f => f), fun k hk => Nat.lt_of_lt_of_le (hv.busyLt k hk) hU.size, hv.data.upd hU (fun _ _ f => f), hv.sj, hv.sb, hv.sd⟩, rfl⟩, fun _ hk => .inl hk, hU.mono (fun _ _ f => f.elim)⟩
theorem ChipV.upd0 {w w' : World} {b : Nat} {s : St} {jv bv dv : Value} (hv : ChipV w b s jv bv dv) (hU : Upd none' w w') : ChipV w' b s jv bv dv :=
  ⟨hv.cb.upd hU (fun f => f), hv.job.upd hU (fun _ _ f => f), hv.busy.upd hU (fun _ _ _ f => f), fun k hk => Nat.lt_of_lt_of_le (hv.busyLt k hk) hU.size, hv.data.upd hU (fun _ _ f => f), hv.sj, hv.sb, hv.sd⟩
set_option maxRecDepth 100000 in
set_option maxHeartbeats 2000000 in
theorem ends_none (b : Nat) (s : St) (jv bv dv : Value) (w : World) (hv : ChipV w b s jv bv dv) (hda : s.op.inn = true → s.op.data = 1) (hs : s.stage = 0 ∨ s.stage = 1 ∨ s.whole = false) :
    Calls Tryz.prog 95 #[.pointer (some ⟨b, 0, none⟩)] w fun e w' => e = .returned (.tuple #[]) ∧ ChipPost b s (chipSet b jv bv dv) w w' := by
  have h := hv.cb
  have c26 := h.cell 26
  simp only [St.list, List.getElem?_cons_succ, List.getElem?_cons_zero] at c26
  have HV := Lib.hid hv
  have hwh := fun W (hW : Upd none' w W) => cmd_whole b s jv bv dv W (h.upd hW (fun f => f)) hda
  by_cases h0 : s.stage = 0
  · rw [h0] at c26
    clear hwh hs
    go_enter Tryz.func95, Tryz.ntmps95
    go_wp2
    refine bodyPost_ret (results_none rfl _ _ _) rfl ?_
    exact ⟨rfl, HV.out.post (Upd.refl _ _)⟩
  · have b0 : (s.stage == 0) = false := by simpa using h0
    by_cases h1 : s.stage = 1
    · rw [h1] at c26
      clear hwh hs
      go_enter Tryz.func95, Tryz.ntmps95
      go_wp2
      refine bodyPost_ret (results_none rfl _ _ _) rfl ?_
      exact ⟨rfl, HV.out.post (Upd.refl _ _)⟩
    · have b1 : (s.stage == 1) = false := by simpa using h1
      have hw : s.whole = false := by rcases hs with h | h | h <;> first | exact absurd h h0 | exact absurd h h1 | exact h
      rw [hw] at hwh
      have HW := Lib.hid hwh
      clear hwh hs hw
      go_enter Tryz.func95, Tryz.ntmps95
      go_wp2_with fail
      refine (HW.out _ (Upd.refl _ _)).mono ?_
      rintro e w1 ⟨rfl, hU1⟩
      go_wp2
      refine bodyPost_ret (results_none rfl _ _ _) rfl ?_
      exact ⟨rfl, HV.out.post hU1⟩
end Go.Proofs.YtepnljeojlbliaaGreat
