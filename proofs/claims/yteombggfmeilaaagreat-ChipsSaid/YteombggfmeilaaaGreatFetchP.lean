/- fetch.May, Fetch. · Commands of a controller on a chip at rest: in plain. -/
import Derived.Test.YteombggfmeilaaaGreatCtlB
import Derived.Test.YteombggfmeilaaaGreatBlank
import Derived.Test.YteombggfmeilaaaGreatWireR
import Derived.Test.YteombggfmeilaaaGreatTabC
namespace Go.Proofs.YteombggfmeilaaaGreat
open Go.RowKit
/-- Do so many bytes lie there? -/
def fmayB (at_ n : Int) : Bool := decide (0 ≤ n ∧ n ≤ 512 ∧ 0 ≤ at_ ∧ at_ ≤ 4096 - n)
theorem fetch_may (at_ n : Int) (w : World) : Calls Tryz.prog 129 #[.int .i64 at_, .int .i64 n] w fun e w' => e = .returned (.bool (fmayB at_ n)) ∧ w = w' := by
  by_cases h1 : 0 ≤ n
  · by_cases h2 : n ≤ 512
    · have hw : IntKind.i64.wrap (4096 - n) = 4096 - n := IntWalk.i64_in _ (by omega)
      by_cases h3 : 0 ≤ at_
      · by_cases h4 : at_ ≤ 4096 - n
        · rw [show fmayB at_ n = true from decide_eq_true ⟨h1, h2, h3, h4⟩]
          go_enter Tryz.func129, Tryz.ntmps129
          go_wp2
          go_ret
          exact ⟨rfl, rfl⟩
        · rw [show fmayB at_ n = false from decide_eq_false (by omega)]
          go_enter Tryz.func129, Tryz.ntmps129
          go_wp2
          go_ret
          exact ⟨rfl, rfl⟩
      · rw [show fmayB at_ n = false from decide_eq_false (by omega)]
        go_enter Tryz.func129, Tryz.ntmps129
        go_wp2
        go_ret
        exact ⟨rfl, rfl⟩
    · rw [show fmayB at_ n = false from decide_eq_false (by omega)]
      go_enter Tryz.func129, Tryz.ntmps129
      go_wp2
      go_ret
      exact ⟨rfl, rfl⟩
  · rw [show fmayB at_ n = false from decide_eq_false (by omega)]
    go_enter Tryz.func129, Tryz.ntmps129
    go_wp2
    go_ret
    exact ⟨rfl, rfl⟩
theorem fetch_nil (at_ n : Int) (w : World) : Calls Tryz.prog 51 #[.pointer none, .int .i64 at_, .int .i64 n] w fun e w' => e = .returned (.tuple #[.string ⟨#[]⟩, .int .i64 1]) ∧ w = w' := by
  go_enter Tryz.func51, Tryz.ntmps51
  go_wp2
  go_ret2
  exact ⟨rfl, rfl⟩
theorem fetch_no (k : Nat) (at_ n : Int) (h : fmayB at_ n = false) (w : World) : Calls Tryz.prog 51 #[.pointer (some ⟨k, 0, none⟩), .int .i64 at_, .int .i64 n] w fun e w' => e = .returned (.tuple #[.string ⟨#[]⟩, .int .i64 1600]) ∧ w = w' := by
  have hm := fetch_may at_ n
  rw [h] at hm
  go_enter Tryz.func51, Tryz.ntmps51
  go_wp2_with (go_at_call 129; refine (hm _).mono ?_; rintro e w1 ⟨rfl, rfl⟩)
  go_ret2
  exact ⟨rfl, rfl⟩
theorem fetch_zero (k : Nat) (at_ : Int) (h : fmayB at_ 0 = true) (w : World) : Calls Tryz.prog 51 #[.pointer (some ⟨k, 0, none⟩), .int .i64 at_, .int .i64 0] w fun e w' => e = .returned (.tuple #[.string ⟨#[]⟩, .int .i64 0]) ∧ w = w' := by
  have hm := fetch_may at_ 0
  rw [h] at hm
  go_enter Tryz.func51, Tryz.ntmps51
  go_wp2_with (go_at_call 129; refine (hm _).mono ?_; rintro e w1 ⟨rfl, rfl⟩)
  go_ret2
  exact ⟨rfl, rfl⟩
theorem made_bytesN (n : Nat) : madeCells (Value.int .u8 0).cells (n * Tryz.t5.size) = (bytesV (List.replicate n 0)).toArray := by
  rw [show Tryz.t5.size = 1 from by kernel_rfl, show (Value.int .u8 0).cells = #[Value.int .u8 0] from rfl, made_gen, Nat.mul_one]
  unfold bytesV
  rw [List.map_replicate]
  rfl
theorem make_bytesN (n : Nat) (hn : n ≤ 1048576) (u : World) : (Instr.makeSlice 23 (.int .i64 (n : Int)) (.int .i64 (n : Int))).run Tryz.prog u = .ok (.slice (some ⟨u.heap.size, 0, none⟩) n n) (u.alloc (.cells (bytesV (List.replicate n 0)).toArray 5)) := by
  have := run_make (P := Tryz.prog) u 23 5 Tryz.t5 (.int .u8 0) Tryz.underlying23 (by kernel_rfl) (by kernel_rfl) .i64 .i64 (n : Int) (n : Int) (by omega) (by omega) (by show ((1 : Nat) : Int) * (n : Int) ≤ _; omega) (by omega)
  rw [this, Int.toNat_natCast, made_bytesN]
def intsOf (bs : List UInt8) : List Int := bs.map fun c => ((c.toNat : Nat) : Int)
theorem fetch_step (bs l : List UInt8) (i m : Nat) (hm : bs.length = m) (hi : i < m) (h : l = bs.take i ++ List.replicate (m - i) 0) : l.set i (bs.getD i 0) = bs.take (i + 1) ++ List.replicate (m - (i + 1)) 0 := by
  subst h
  have e : bs.take (i + 1) = bs.take i ++ [bs.getD i 0] := by
    rw [List.take_add_one]
    simp [List.getD_eq_getElem?_getD, List.getElem?_eq_getElem (show i < bs.length by omega)]
  have e2 : List.replicate (m - i) (0 : UInt8) = 0 :: List.replicate (m - (i + 1)) 0 := by rw [show m - i = (m - (i + 1)) + 1 by omega, List.replicate_succ]
  have hl : (bs.take i).length = i := by rw [List.length_take]; omega
  rw [e, e2, List.set_append_right _ _ (by omega), hl, Nat.sub_self, List.set_cons_zero, List.append_assoc]
  rfl
set_option maxRecDepth 100000 in
set_option maxHeartbeats 8000000 in
theorem c_fetch {Q : Own} {w0 w : World} {b : Nat} {s : St} {N : Int} {rows : List (Value × List Value)} {k fo fi : Nat} {K : KS} (hQ : Q.Ok) (hC : Ctx (ChipP b s N) ((CtlC k b fo fi K).star Q) w0 w rows) (hN : 0 ≤ N) (hsel : s.sel = false) (hkl : -9223372036854775808 ≤ K.left ∧ K.left ≤ 9223372036854775807) (hkc : 0 ≤ K.clocks ∧ K.clocks ≤ 1048576)
    (hlost : K.lost = false) (hgo : K.goes = false) (at_ : Int) (m : Nat) (hm1 : 1 ≤ m) (hmay : fmayB at_ (m : Int) = true) (hroom : N + phsMany (cmdPhs (opOf 107) at_ [] m) ≤ 1048575) (d : Drv) (hd : Drv.phases ⟨s.select, [], 0, K.left⟩ (cmdPhs (opOf 107) at_ [] m) = (d, true)) (bs : List UInt8) (hbs : d.out = intsOf bs) (hbl : bs.length = m) :
    Calls Tryz.prog 51 #[.pointer (some ⟨k, 0, none⟩), .int .i64 at_, .int .i64 (m : Int)] w fun e w' => e = .returned (.tuple #[.string ⟨bs.toArray⟩, .int .i64 0]) ∧ Ctx (ChipP b d.s.deselect (N + d.clocks + 1)) ((CtlC k b fo fi (K.driven d)).star Q) w0 w' rows := by
  have hmb := of_decide_eq_true hmay
  have hma := fetch_may at_ m
  rw [hmay] at hma
  have hcm : cmdMay (opOf 107) at_ [] m = true := by
    have e : opOf 107 = ⟨107, 1, false, 8, 4, false⟩ := by kernel_rfl
    rw [e]
    unfold cmdMay fitsB
    simp
    omega
  have hrun := c_run hQ hC.nilrow hN hsel hkl hkc hlost hgo 107 (by decide) (by decide) at_ none 0 [] List.mem_cons_self (m : Int) hcm hroom d hd
  have hlen : d.out.length = m := by rw [hbs]; unfold intsOf; rw [List.length_map, hbl]
  rw [hlen, hbs] at hrun
  have hrun' : Calls Tryz.prog 50 #[.pointer (some ⟨k, 0, none⟩), .int .i64 107, .int .i64 at_, .slice none 0 0, .int .i64 (m : Int)] w fun e w' => ∃ oa oc, e = .returned (.tuple #[.slice oa m oc, .int .i64 0]) ∧ Ctx (ChipP b d.s.deselect (N + d.clocks + 1)) ((CtlC k b fo fi (K.driven d)).star Q) w0 w' ((.slice oa m oc, ints (intsOf bs)) :: (.slice none 0 0, ints []) :: rows) := hrun
  have HRUN := Lib.hid hrun'
  have hmk := make_bytesN m (by omega)
  have hm0 : (m : Int) ≠ 0 := by omega
  have hmz : ((m : Int) == 0) = false := by simp; omega
  have hbi : (intsOf bs).length = m := by unfold intsOf; rw [List.length_map, hbl]
  clear hrun hrun' hcm hroom hd hbs hlen hmay hC hkl hkc hlost hgo
  go_enter Tryz.func51, Tryz.ntmps51
  go_wp2_with (first | (go_at_call 129; refine (hma _).mono ?_; rintro e w1 ⟨rfl, rfl⟩) | (go_at_call 50; refine HRUN.out.mono ?_; rintro e w2 ⟨oa, oc, rfl, hC2⟩))
  clear hma hmk
  obtain ⟨gx, ox, rfl, hgx, hcc⟩ := (hC2.rs_mem List.mem_cons_self).cells (by omega)
  have hBz : Buf (w2.alloc (.cells (bytesV (List.replicate m 0)).toArray 5)) w2.heap.size (List.replicate m 0) 5 := ⟨[], (0, 0), by rw [List.append_nil]; exact heap_alloc_new w2 _, .inl rfl⟩
  have hUz := (Upd.refl none' w2).alloc (.cells (bytesV (List.replicate m 0)).toArray 5)
  have HC2 := Lib.hid hC2
  clear hC2
  go_loopw [39] (fun iv wr => ∃ (i : Nat) (l : List UInt8), i ≤ m ∧ iv = .int .i64 (i : Int) ∧ Upd none' w2 wr ∧ Buf wr w2.heap.size l 5 ∧ Hid (l = bs.take i ++ List.replicate (m - i) 0)) (fun iv _ => m - (intOf iv).toNat)
  case atStart => exact ⟨0, List.replicate m 0, by omega, rfl, hUz, hBz, Lib.hid (by rw [List.take_zero, List.nil_append, Nat.sub_zero])⟩
  case round =>
    clear hBz hUz
    rename World => W2
    obtain ⟨i, l, hi, rfl, hU, hB, hl⟩ := hrel
    have hll : l.length = m := by rw [hl.out, List.length_append, List.length_take, List.length_replicate]; omega
    by_cases hlt : i < m
    · obtain ⟨c, hcv⟩ : ∃ c, bs.getD i 0 = c := ⟨_, rfl⟩
      have hcell : W2.cell? ⟨gx, ox + i, none⟩ = some (.int .i64 ((c.toNat : Nat) : Int)) := by
        rw [hU.cell (p := ⟨gx, ox + i, none⟩) hgx (fun f => f), hcc i hlt, ints_at _ _ (by omega)]
        unfold intsOf
        rw [List.getD_eq_getElem?_getD, List.getElem?_map, List.getElem?_eq_getElem (show i < bs.length by omega), ← hcv]
        simp [List.getD_eq_getElem?_getD, List.getElem?_eq_getElem (show i < bs.length by omega)]
      have hcb := c.toNat_lt
      have hw8 : IntKind.u8.wrap ((c.toNat : Nat) : Int) = ((c.toNat : Nat) : Int) := by rw [IntKind.wrap_u8]; omega
      have hbc := hB.cell (j := i) (by omega)
      have hbf := hB.frozen (j := i) (by omega)
      have hset := hB.set (j := i) (by omega) c
      have hst := fetch_step bs l i m hbl hlt hl.out
      rw [hcv] at hst
      rw [hst] at hset
      have HSET := Lib.hid hset
      have HU := Lib.hid (hU.setCell ⟨w2.heap.size, i, none⟩ (.int .u8 c.toNat) (fun h => absurd h (Nat.lt_irrefl _)))
      clear hset hst hB hU hcv
      go_wp2
      refine ⟨?rel, ?measure⟩
      case rel => exact ⟨i + 1, _, by omega, by go_num, HU.out, HSET.out, Lib.hid rfl⟩
      case measure => simp [intOf]; omega
    · obtain rfl : i = m := by omega
      have hle : l = bs := by rw [hl.out, Nat.sub_self, List.replicate_zero, List.append_nil, List.take_of_length_le (by omega)]
      subst hle
      have hst := fun cap => run_string_buf (P := Tryz.prog) hB 23 5 9 Tryz.underlying23 Tryz.underlying5 Tryz.underlying9 i cap hll
      have HU := Lib.hid hU
      clear hB hU
      go_wp2
      go_ret2
      exact ⟨rfl, (HC2.out.frame HU.out).sub fun r hr => List.mem_cons_of_mem _ (List.mem_cons_of_mem _ hr)⟩
end Go.Proofs.YteombggfmeilaaaGreat
namespace Go.Proofs.YteombggfmeilaaaGreat
open Go.RowKit
theorem runC_two (s : St) (x y : Int) : runC s [x, y] = (((s.clock x).1.clock y).1, [(s.clock x).2, ((s.clock x).1.clock y).2]) := rfl
/-- A byte that is told on four lanes. -/
theorem tell4 {s : St} (hj : s.job = none) (hs : s.sel = true) (h6 : s.stage = 6) (hd : s.op.data = 4) (hl : s.left = 0) : runC s [15, 15] = (s.telling (s.byteAt s.told) 0, nibs (s.byteAt s.told)) := by
  obtain ⟨a, prot, quad, wipes, tabled, sel, en, goes, job, busy, op, stage, left, got, addr, mode, moded, data, told, now, beyond⟩ := s
  obtain ⟨ob, oa, om, od, ol, oi⟩ := op
  change job = none at hj
  change sel = true at hs
  change stage = 6 at h6
  change ol = 4 at hd
  change left = 0 at hl
  subst hj
  subst hs
  subst h6
  subst hd
  subst hl
  kernel_rfl
theorem tells4 (m : Nat) : ∀ {s : St}, s.job = none → s.sel = true → s.stage = 6 → s.op.data = 4 → s.left = 0 → (runC s (List.replicate (2 * m) 15)).2 = (List.range m).flatMap fun (i : Nat) => nibs (s.byteAt (s.told + (i : Int))) := by
  induction m with
  | zero => intro s _ _ _ _ _; rfl
  | succ m ih =>
    intro s hj hs h6 hd hl
    rw [show 2 * (m + 1) = 2 + 2 * m by omega, ← List.replicate_append_replicate, runC_app, show List.replicate 2 (15 : Int) = [15, 15] from rfl, tell4 hj hs h6 hd hl]
    dsimp only
    rw [ih (s := s.telling (s.byteAt s.told) 0) hj hs h6 hd rfl, List.range_succ_eq_map, List.flatMap_cons, List.flatMap_map]
    congr 1
    · rw [show s.told + ((0 : Nat) : Int) = s.told by omega]
    · congr 1
      funext i
      rw [telling_byteAt, show (s.telling (s.byteAt s.told) 0).told = s.told + 1 from rfl, show s.told + ((Nat.succ i : Nat) : Int) = s.told + 1 + (i : Int) by omega]
theorem inL_nibs (v : Int) (hv : 0 ≤ v ∧ v ≤ 255) : inL 4 (nibs v) = v := by
  show (0 * 16 + v / 16 % 16) * 16 + v / 1 % 16 = v
  omega
theorem groups_nibs (m : Nat) : ∀ (f : Nat → Int), (∀ i, 0 ≤ f i ∧ f i ≤ 255) → groups 4 m ((List.range m).flatMap fun i => nibs (f i)) = (List.range m).map f := by
  induction m with
  | zero => intro f _; rfl
  | succ m ih =>
    intro f hf
    have h8 : ((8 : Int) / 4).toNat = 2 := rfl
    have hl : (nibs (f 0)).length = 2 := rfl
    rw [List.range_succ_eq_map, List.flatMap_cons, List.flatMap_map, groups, h8, List.take_append_of_le_length (by omega), List.take_of_length_le (by omega), List.drop_append_of_le_length (by omega), List.drop_of_length_le (by omega), List.nil_append, inL_nibs _ (hf 0), ih (fun i => f (Nat.succ i)) (fun i => hf _), List.map_cons, List.map_map]
    rfl
theorem hd107 (s : St) (hg : s.goes = false) (hj : s.job = none) (hq : s.quad = true) (k : Int) : runC s.select (wordL [107, 0, k / 256, k % 256] ++ List.replicate 8 15) = (s.hd 107 (addrOf k), List.replicate 40 15) := by
  obtain ⟨a, prot, quad, wipes, tabled, sel, en, goes, job, busy, op, stage, left, got, addr, mode, moded, data, told, now, beyond⟩ := s
  change goes = false at hg
  change job = none at hj
  change quad = true at hq
  subst hg
  subst hj
  subst hq
  kernel_rfl
theorem byteAt_107 {t : St} (hop : t.op = opOf 107) (i : Int) : t.byteAt i = byteOf t.a ((t.addr + i) % 4096).toNat := by
  unfold St.byteAt
  rw [hop]
  rfl
theorem ins_waits (n : Nat) : Ph.ins ⟨0, [], n, 0⟩ = List.replicate n 15 := by
  unfold Ph.ins Ph.says
  show [] ++ List.replicate ((n : Int)).toNat 15 ++ List.replicate _ 15 = _
  rw [Int.toNat_natCast, List.nil_append, show ((8 : Int) / 0).toNat * (0 : Int).toNat = 0 from rfl, List.replicate_zero, List.append_nil]
theorem ins_read4 (m : Nat) : Ph.ins ⟨4, [], 0, m⟩ = List.replicate (2 * m) 15 := by
  unfold Ph.ins
  rw [says_nil, List.nil_append]
  show List.replicate (2 * ((m : Int)).toNat) 15 = _
  rw [Int.toNat_natCast]
/-- The phases of a read on four lanes. -/
theorem quad_phs (k : Int) (m : Nat) (hm : 1 ≤ m) : cmdPhs (opOf 107) k [] m = [⟨1, [107], 0, 0⟩, ⟨1, [k / 65536, k / 256 % 256, k % 256], 0, 0⟩, ⟨0, [], 8, 0⟩, ⟨4, [], 0, m⟩] := by
  have e : opOf 107 = ⟨107, 1, false, 8, 4, false⟩ := by kernel_rfl
  rw [e]
  unfold cmdPhs
  dsimp only
  rw [if_pos (by decide), if_neg (by decide), if_pos (by decide), if_neg (by simp), if_pos (by omega)]
  rfl
theorem quad_many (k : Int) (m : Nat) (hm : 1 ≤ m) : phsMany (cmdPhs (opOf 107) k [] m) = 40 + 2 * (m : Int) := by
  rw [quad_phs k m hm, phsMany_cons, phsMany_cons, phsMany_cons, phsMany_cons, many1, many1, many0, many4]
  show ((1 : Int) + 0) * 8 + (((3 : Int) + 0) * 8 + (8 + (((0 : Int) + m) * 2 + 0))) = _
  omega
theorem read4_all {c : Cor} {t : St} (h : At c t) (hg : c.goes = false) (hj : c.job = none) (hq : c.quad = true) (k : Int) (hk : 0 ≤ k ∧ k < 4096) (m : Nat) (hm : 1 ≤ m) :
    ∃ d : Drv, Drv.phases ⟨t.select, [], 0, -1⟩ (cmdPhs (opOf 107) k [] m) = (d, true) ∧ d.clocks = 40 + 2 * (m : Int) ∧ d.out = (List.range m).map (fun (i : Nat) => byteOf c.a ((k + (i : Int)) % 4096).toNat) ∧ At c d.s.deselect ∧ d.s.sel = true := by
  have htg := h.goes.trans hg
  have htj := h.job.trans hj
  have htq := h.quad.trans hq
  have hins : phsIns (cmdPhs (opOf 107) k [] m) = (wordL [107, 0, k / 256, k % 256] ++ List.replicate 8 15) ++ List.replicate (2 * m) 15 := by
    rw [quad_phs k m hm]
    unfold phsIns
    rw [List.flatMap_cons, List.flatMap_cons, List.flatMap_cons, List.flatMap_cons, List.flatMap_nil, ins_bytes1, ins_bytes1, show ((8 : Int)) = ((8 : Nat) : Int) from rfl, ins_waits, ins_read4, List.append_nil, show k / 65536 = 0 by omega, show k / 256 % 256 = k / 256 by omega]
    rw [show wordL [107, 0, k / 256, k % 256] = wordL [107] ++ wordL [0, k / 256, k % 256] from by rw [← wordL_app]; rfl]
    simp only [List.append_assoc]
  have hf := phases_free (cmdPhs (opOf 107) k [] m) ⟨t.select, [], 0, -1⟩ (show (-1 : Int) < 0 by decide)
  dsimp only at hf
  rw [hins, runC_app, hd107 t htg htj htq k] at hf
  dsimp only at hf
  have htells := tells4 m (s := t.hd 107 (addrOf k)) htj rfl rfl rfl rfl
  have htel := runC_tel (List.replicate (2 * m) 15) (s := t.hd 107 (addrOf k)) htj rfl rfl
  rw [htells] at hf
  have houts : phsOuts (cmdPhs (opOf 107) k [] m) (List.replicate 40 15 ++ (List.range m).flatMap fun (i : Nat) => nibs ((t.hd 107 (addrOf k)).byteAt ((t.hd 107 (addrOf k)).told + (i : Int)))) = (List.range m).map (fun (i : Nat) => byteOf c.a ((k + (i : Int)) % 4096).toNat) := by
    rw [quad_phs k m hm, phsOuts, phsOuts, phsOuts, phsOuts, phsOuts, ins_bytes1, ins_bytes1, show ((8 : Int)) = ((8 : Nat) : Int) from rfl, ins_waits, says_nil, List.append_nil]
    show [] ++ ([] ++ ([] ++ groups 4 ((m : Int)).toNat (List.drop 0 (List.drop (List.replicate 8 (15 : Int)).length (List.drop 24 (List.drop 8 _)))))) = _
    rw [Int.toNat_natCast, List.nil_append, List.nil_append, List.nil_append, List.drop_zero, List.length_replicate, List.drop_drop, List.drop_drop, show 8 + 24 + 8 = 40 from rfl, List.drop_append_of_le_length (by rw [List.length_replicate]; exact Nat.le_refl _), List.drop_of_length_le (by rw [List.length_replicate]; exact Nat.le_refl _), List.nil_append]
    have hby : ∀ i : Nat, (t.hd 107 (addrOf k)).byteAt ((t.hd 107 (addrOf k)).told + (i : Int)) = byteOf c.a ((k + (i : Int)) % 4096).toNat := by
      intro i
      rw [byteAt_107 rfl, ← h.a]
      show byteOf t.a ((addrOf k + (0 + (i : Int))) % 4096).toNat = _
      rw [addrOf_eq k hk, Int.zero_add]
    simp only [hby]
    exact groups_nibs m _ (fun i => byteOf_bd _ _)
  refine ⟨_, hf, ?_, ?_, ?_, ?_⟩
  · dsimp only
    rw [List.length_append, List.length_append, List.length_replicate, List.length_replicate, show (wordL [107, 0, k / 256, k % 256]).length = 32 from rfl]
    omega
  · dsimp only
    rw [List.nil_append]
    exact houts
  · dsimp only
    unfold Tel at htel
    generalize (runC (t.hd 107 (addrOf k)) (List.replicate (2 * m) 15)).1 = u at htel
    obtain ⟨ua, uprot, uquad, uwipes, utabled, usel, uen, ugoes, ujob, ubusy, uop, ustage, uleft, ugot, uaddr, umode, umoded, udata, utold, unow, ubeyond⟩ := u
    obtain ⟨hcor, -⟩ := h
    rw [htel]
    refine ⟨?_, by kernel_rfl⟩
    rw [← hcor]
    kernel_rfl
  · dsimp only
    unfold Tel at htel
    rw [htel]
    rfl
/-- Enable. -/
theorem en_all {c : Cor} {t : St} (h : At c t) (hg : c.goes = false) (hj : c.job = none) :
    ∃ d : Drv, Drv.phases ⟨t.select, [], 0, -1⟩ (cmdPhs (opOf 6) 0 [] 0) = (d, true) ∧ d.clocks = 8 ∧ d.out = [] ∧ At { c with en := true } d.s.deselect := by
  have htg := h.goes.trans hg
  have htj := h.job.trans hj
  obtain ⟨hcor, hsel⟩ := h
  obtain ⟨a, prot, quad, wipes, tabled, sel, en, goes, job, busy, op, stage, left, got, addr, mode, moded, data, told, now, beyond⟩ := t
  change goes = false at htg
  change job = none at htj
  subst htg
  subst htj
  subst hcor
  exact ⟨_, (Prod.ext rfl (by kernel_rfl) : _ = (_, true)), by kernel_rfl, by kernel_rfl, by kernel_rfl, by kernel_rfl⟩
/-- The status is put. -/
theorem put_all {c : Cor} {t : St} (h : At c t) (hg : c.goes = false) (hj : c.job = none) (he : c.en = true) :
    ∃ d : Drv, Drv.phases ⟨t.select, [], 0, -1⟩ (cmdPhs (opOf 1) 0 [0, 2] 0) = (d, true) ∧ d.clocks = 24 ∧ d.out = [] ∧ At { c with prot := false, quad := true, en := false } d.s.deselect := by
  have htg := h.goes.trans hg
  have htj := h.job.trans hj
  have hte := h.en.trans he
  obtain ⟨hcor, hsel⟩ := h
  obtain ⟨a, prot, quad, wipes, tabled, sel, en, goes, job, busy, op, stage, left, got, addr, mode, moded, data, told, now, beyond⟩ := t
  change goes = false at htg
  change job = none at htj
  change en = true at hte
  subst htg
  subst htj
  subst hte
  subst hcor
  exact ⟨_, (Prod.ext rfl (by kernel_rfl) : _ = (_, true)), by kernel_rfl, by kernel_rfl, by kernel_rfl, by kernel_rfl⟩
end Go.Proofs.YteombggfmeilaaaGreat
