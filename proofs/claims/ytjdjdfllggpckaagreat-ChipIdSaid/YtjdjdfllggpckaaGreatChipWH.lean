/- The walk over a page's bytes. -/
import Derived.Test.YtjdjdfllggpckaaGreatChipWG
import Derived.Test.YtjdjdfllggpckaaGreatBuf
import Derived.Laws.MakeOwn
namespace Go.Proofs.YtjdjdfllggpckaaGreat
open Go.RowKit
theorem make_bytes32 (u : World) : (Instr.makeSlice 52 (.int .i64 32) (.int .i64 32)).run Tryz.prog u = .ok (.slice (some ⟨u.heap.size, 0, none⟩) 32 32) (u.alloc (.cells (bytesV (List.replicate 32 0)).toArray 5)) := by
  have := run_make (P := Tryz.prog) u 52 5 Tryz.t5 (.int .u8 0) Tryz.underlying52 (by kernel_rfl) (by kernel_rfl) .i64 .i64 32 32 (by decide) (by decide) (by show ((1 : Nat) : Int) * 32 ≤ _; decide) (by decide)
  rw [this, show madeCells (Value.int .u8 0).cells (Int.toNat 32 * Tryz.t5.size) = (bytesV (List.replicate 32 0)).toArray from by kernel_rfl]
  rfl
theorem page_len (addr : Int) (data : List Int) : (pageOf addr data).length = 32 := by
  have key : ∀ (l : List (Int × Nat)) (a : List UInt8), (l.foldl (fun (l : List UInt8) (x : Int × Nat) => l.set ((addr + x.2) % 32).toNat (UInt8.ofNat (x.1 % 256).toNat)) a).length = a.length := by
    intro l
    induction l with
    | nil => intro a; rfl
    | cons x l ih => intro a; rw [List.foldl_cons, ih, List.length_set]
  unfold pageOf
  rw [key, List.length_replicate]
theorem page_snoc (addr : Int) (data : List Int) (x : Int) : pageOf addr (data ++ [x]) = (pageOf addr data).set ((addr + data.length) % 32).toNat (UInt8.ofNat (x % 256).toNat) := by
  unfold pageOf
  rw [List.zipIdx_append, List.foldl_append]
  simp
theorem fill_step (i : Nat) (h : i < 32) : (List.replicate i (255 : UInt8) ++ List.replicate (32 - i) 0).set i 255 = List.replicate (i + 1) 255 ++ List.replicate (32 - (i + 1)) 0 := by
  apply List.ext_getElem
  · simp; omega
  · intro j h1 h2
    simp only [List.getElem_set, List.getElem_append, List.length_replicate, List.getElem_replicate]
    split
    · subst_vars; simp
    · split <;> split <;> first | rfl | omega
theorem u8_wrap_of (x : Int) : IntKind.u8.wrap x = ((UInt8.ofNat (x % 256).toNat).toNat : Int) := by
  have h : IntKind.u8.wrap x = x % 256 := by first | exact IntKind.wrap_u8 x | rfl
  rw [h, UInt8.toNat_ofNat']
  omega
theorem page_at (addr : Int) (i : Nat) (h0 : 0 ≤ addr) : ∃ q : Nat, (addr + (i : Int)).tmod 32 = (q : Int) ∧ q < 32 ∧ ((addr + (i : Int)) % 32).toNat = q := by
  refine ⟨((addr + (i : Int)) % 32).toNat, ?_, by omega, rfl⟩
  rw [Int.tmod_eq_emod_of_nonneg (by omega)]
  omega
set_option maxHeartbeats 1000000 in
theorem cmd_page (b : Nat) (s : St) (jv bv dv : Value) (w : World) (h : CB w b s jv bv dv) (hd : Row w 3 dv (ints s.data)) (had : 0 ≤ s.addr ∧ s.addr < 4096) (hlen : s.data.length ≤ 1048577) :
    Calls Tryz.prog 81 #[.pointer (some ⟨b, 20, none⟩)] w fun e w' => e = .returned (.string ⟨(pageOf s.addr s.data).toArray⟩) ∧ Upd none' w w' := by
  have hmk := make_bytes32
  obtain ⟨da, dc, rfl, hdc, -, hform⟩ := hd.form
  rw [ints_len] at hdc h hd
  have HB := Lib.hid h
  have HD := Lib.hid hd
  clear hd h
  go_enter Tryz.func81, Tryz.ntmps81
  go_wp2_with fail
  clear hmk
  go_loopw [10] (fun iv wr => ∃ i : Nat, i ≤ 32 ∧ iv = .int .i64 i ∧ Upd none' w wr ∧ Buf wr w.heap.size (List.replicate i 255 ++ List.replicate (32 - i) 0) 5) (fun iv _ => 32 - (intOf iv).toNat)
  case atStart =>
    refine ⟨0, by omega, rfl, (Upd.refl none' w).alloc _, ?_⟩
    exact ⟨[], (0, 0), by simp only [List.replicate_zero, List.nil_append, List.append_nil]; exact heap_alloc_new w _, .inl rfl⟩
  case round =>
    obtain ⟨i, hi, rfl, hU, hB⟩ := hrel
    by_cases hlt : i < 32
    · have hl32 : (List.replicate i (255 : UInt8) ++ List.replicate (32 - i) 0).length = 32 := by simp; omega
      have hc := hB.cell (j := i) (by rw [hl32]; exact hlt)
      have hf := hB.frozen (j := i) (by rw [hl32]; exact hlt)
      have hB2 := hB.set (j := i) (by rw [hl32]; exact hlt) 255
      rw [fill_step i hlt] at hB2
      have HB2 := Lib.hid hB2
      have hU2 := hU.setCell ⟨w.heap.size, i, none⟩ (.int .u8 255) (fun h => absurd h (by dsimp only; omega))
      clear hB2 hl32
      go_wp2
      exact ⟨⟨i + 1, by omega, by go_num, hU2, HB2.out⟩, by simp [intOf]; omega⟩
    · have hieq : i = 32 := by omega
      subst hieq
      have hB' : Buf wr w.heap.size (pageOf s.addr []) 5 := by rw [Nat.sub_self, List.replicate_zero, List.append_nil] at hB; exact hB
      have hcb := HB.out.upd hU (fun f => f)
      have c32 := hcb.cell 32
      simp only [St.list, List.getElem?_cons_succ, List.getElem?_cons_zero] at c32
      have HU := Lib.hid hU
      have HB' := Lib.hid hB'
      clear hB hU hB' hcb
      go_wp2_with fail
      go_loopw [22] (fun iv w2 => ∃ i : Nat, i ≤ s.data.length ∧ iv = .int .i64 i ∧ Upd none' w w2 ∧ Buf w2 w.heap.size (pageOf s.addr (s.data.take i)) 5) (fun iv _ => s.data.length - (intOf iv).toNat)
      case atStart => exact ⟨0, by omega, rfl, HU.out, by rw [List.take_zero]; exact HB'.out⟩
      case round =>
        rename World => W2
        clear c32
        obtain ⟨i, hi, rfl, hU, hB⟩ := hrel
        by_cases hlt : i < s.data.length
        · obtain ⟨x, hx⟩ : ∃ x, s.data.getD i 0 = x := ⟨_, rfl⟩
          have hne : ∃ g, da = some ⟨g, 0, none⟩ ∧ W2.cell? ⟨g, i, none⟩ = some (.int .i64 x) := by
            cases da with
            | none =>
              have := HD.out.form
              obtain ⟨ao, cap, e1, _, hn, _⟩ := this
              simp only [Value.slice.injEq] at e1
              have := (hn e1.1.symm).1
              have hl := ints_len s.data
              rw [this] at hl
              simp at hl
              omega
            | some ad =>
              obtain ⟨g, rfl, h1, h2, h3, h4⟩ := hform ad rfl
              refine ⟨g, rfl, ?_⟩
              rw [hU.cell (p := ⟨g, i, none⟩) h2 (fun f => f), h3 i (by rw [ints_len]; exact hlt), ints_at _ _ hlt, hx]
          obtain ⟨g, rfl, hcx⟩ := hne
          obtain ⟨q, hq1, hq2, hq3⟩ := page_at s.addr i had.1
          have hcb := HB.out.upd hU (fun f => f)
          have c29 := hcb.cell 29
          simp only [St.list, List.getElem?_cons_succ, List.getElem?_cons_zero] at c29
          have hpl := page_len s.addr (s.data.take i)
          have hc := hB.cell (j := q) (by rw [hpl]; exact hq2)
          have hf := hB.frozen (j := q) (by rw [hpl]; exact hq2)
          have hB2 := hB.set (j := q) (by rw [hpl]; exact hq2) (UInt8.ofNat (x % 256).toNat)
          have htk : s.data.take (i + 1) = s.data.take i ++ [x] := by
            rw [List.take_add_one, ← hx]
            simp [List.getD_eq_getElem?_getD, List.getElem?_eq_getElem hlt]
          have hps : (pageOf s.addr (s.data.take i)).set q (UInt8.ofNat (x % 256).toNat) = pageOf s.addr (s.data.take (i + 1)) := by
            rw [htk, page_snoc, List.length_take, Nat.min_eq_left hi, hq3]
          rw [hps] at hB2
          have hx8 := u8_wrap_of x
          obtain ⟨v8, hv8⟩ : ∃ v8 : UInt8, UInt8.ofNat (x % 256).toNat = v8 := ⟨_, rfl⟩
          rw [hv8] at hx8 hB2
          have HB2 := Lib.hid hB2
          have hU2 := Lib.hid (hU.setCell ⟨w.heap.size, q, none⟩ (.int .u8 (v8.toNat : Int)) (fun h => absurd h (by dsimp only; omega)))
          clear hB2 hps htk hpl hcb hB hU hform hx hv8 hq3
          go_wp2
          exact ⟨⟨i + 1, by omega, by go_num, hU2.out, HB2.out⟩, by simp [intOf]; omega⟩
        · have hieq : i = s.data.length := by omega
          subst hieq
          rw [List.take_length] at hB
          have hst := run_string_buf hB 52 5 9 Tryz.underlying52 Tryz.underlying5 Tryz.underlying9 32 32 (page_len _ _)
          go_wp2
          go_ret
          exact ⟨rfl, hU⟩
end Go.Proofs.YtjdjdfllggpckaaGreat
