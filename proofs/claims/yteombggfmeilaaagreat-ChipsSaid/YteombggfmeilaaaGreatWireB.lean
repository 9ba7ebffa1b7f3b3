/- The closures of wire.may. · slices.ContainsFunc of numbers, with one function. · wire.may. · wire.Clocks. -/
import Derived.Test.YteombggfmeilaaaGreatLane
import Derived.Test.YteombggfmeilaaaGreatChip
import Derived.Test.YteombggfmeilaaaGreatCtxW
namespace Go.Proofs.YteombggfmeilaaaGreat
open Go.RowKit
def notB (b : Int) : Bool := !byteB b
theorem may2 (x : Int) (w : World) : Calls Tryz.prog 174 #[.int .i64 x] w fun e w' => e = .returned (.bool (notB x)) ∧ w = w' := by
  have hb := lane_byte x
  unfold notB
  cases h : byteB x
  all_goals
    rw [h] at hb
    go_enter Tryz.func174, Tryz.ntmps174
    go_wp2_with (go_at_call 175; refine (hb _).mono ?_; rintro e w1 ⟨rfl, rfl⟩)
    go_ret
    exact ⟨rfl, rfl⟩
theorem may1 (x m : Int) (w : World) : Calls Tryz.prog 173 #[.int .i64 x, .int .i64 m] w fun e w' => e = .returned (.bool (decide (1 ≤ x ∧ x ≤ m))) ∧ w = w' := by
  by_cases h1 : 1 ≤ x
  · by_cases h2 : x ≤ m
    · rw [decide_eq_true (show 1 ≤ x ∧ x ≤ m from ⟨h1, h2⟩)]
      go_enter Tryz.func173, Tryz.ntmps173
      go_wp2
      go_ret
      exact ⟨rfl, rfl⟩
    · rw [decide_eq_false (show ¬ (1 ≤ x ∧ x ≤ m) by omega)]
      go_enter Tryz.func173, Tryz.ntmps173
      go_wp2
      go_ret
      exact ⟨rfl, rfl⟩
  · rw [decide_eq_false (show ¬ (1 ≤ x ∧ x ≤ m) by omega)]
    go_enter Tryz.func173, Tryz.ntmps173
    go_wp2
    go_ret
    exact ⟨rfl, rfl⟩
end Go.Proofs.YteombggfmeilaaaGreat
namespace Go.Proofs.YteombggfmeilaaaGreat
open Go.RowKit
def clo_wmay : Value := .func (.func 174) #[] #[]
set_option maxHeartbeats 1000000 in
theorem index_wmay (w : World) (v : Value) (xs : List Int) (h : RS w v (ints xs)) :
    Calls Tryz.prog 163 #[v, clo_wmay] w fun e w' => (∃ r : Int, e = .returned (.int .i64 r) ∧ (xs.any notB = true → 0 ≤ r) ∧ (xs.any notB = false → r = -1)) ∧ w = w' := by
  obtain ⟨h1, a, cap, rfl, h4, h5⟩ := h
  rw [ints_len] at h1 h4 h5 ⊢
  unfold clo_wmay
  go_enter Tryz.func163, Tryz.ntmps163
  go_wp2_with fail
  go_loopw [8] (fun iv wr => ∃ i : Nat, i ≤ xs.length ∧ iv = .int .i64 i ∧ Hid (w = wr) ∧ ∀ j, j < i → notB (xs.getD j 0) = false) (fun iv _ => xs.length - (intOf iv).toNat)
  case atStart => exact ⟨0, by omega, rfl, Lib.hid rfl, fun j hj => by omega⟩
  case round =>
    obtain ⟨i, hi, rfl, hw, hno⟩ := hrel
    by_cases hlt : i < xs.length
    · obtain ⟨bb, oo, rfl, hbb, hcc⟩ := h5 (by intro h; simp [ints] at h; simp [h] at hlt)
      have hcell : wr.cell? ⟨bb, oo + i, none⟩ = some (.int .i64 (xs.getD i 0)) := by
        rw [← hw.out, hcc i hlt, ints_at _ _ hlt]
      clear hcc
      obtain ⟨y, hy⟩ : ∃ y, xs.getD i 0 = y := ⟨_, rfl⟩
      rw [hy] at hcell
      have HY := Lib.hid hy
      clear hy
      have hmem : y ∈ xs := by rw [← HY.out, List.getD_eq_getElem?_getD, List.getElem?_eq_getElem hlt]; exact List.getElem_mem hlt
      cases hb : notB y with
      | true =>
        have hany : xs.any notB = true := List.any_eq_true.2 ⟨y, hmem, hb⟩
        have HA := Lib.hid hany
        have hnb := hb ▸ may2 y wr
        clear hany hmem
        go_wp2_with (go_at_call 174; refine hnb.mono ?_; rintro e w' ⟨rfl, rfl⟩)
        go_ret
        exact ⟨⟨_, rfl, fun _ => by omega, fun e => by rw [HA.out] at e; cases e⟩, hw.out⟩
      | false =>
        have hnb := hb ▸ may2 y wr
        clear hmem
        go_wp2_with (go_at_call 174; refine hnb.mono ?_; rintro e w' ⟨rfl, rfl⟩)
        refine ⟨?rel, ?measure⟩
        case rel => exact ⟨i + 1, by omega, by go_num, hw, fun j hj => by
          rcases Nat.lt_succ_iff_lt_or_eq.1 hj with h | h
          · exact hno j h
          · subst h; rw [HY.out]; exact hb⟩
        case measure => simp [intOf]; omega
    · have hieq : i = xs.length := by omega
      subst hieq
      go_wp2
      go_ret
      refine ⟨⟨_, rfl, fun e => ?_, fun _ => rfl⟩, hw.out⟩
      obtain ⟨y, hy, hb⟩ := List.any_eq_true.1 e
      obtain ⟨j, hj, rfl⟩ := List.getElem_of_mem hy
      have := hno j hj
      rw [List.getD_eq_getElem?_getD, List.getElem?_eq_getElem hj] at this
      simp only [Option.getD_some] at this
      rw [hb] at this
      cases this
theorem contains_wmay (w : World) (v : Value) (xs : List Int) (h : RS w v (ints xs)) :
    Calls Tryz.prog 104 #[v, clo_wmay] w fun e w' => e = .returned (.bool (xs.any notB)) ∧ w = w' := by
  have hi := index_wmay w v xs h
  obtain ⟨_, a, cap, rfl, -⟩ := h
  unfold clo_wmay at hi ⊢
  go_enter Tryz.func104, Tryz.ntmps104
  go_wp2_with fail
  refine hi.mono ?_
  rintro e w1 ⟨⟨r, rfl, hr1, hr2⟩, rfl⟩
  cases hb : xs.any notB with
  | true =>
    have := hr1 hb
    clear hr1 hr2
    go_wp2
    go_ret
    exact ⟨by rw [hb]; rfl, rfl⟩
  | false =>
    have := hr2 hb
    subst this
    clear hr1 hr2
    go_wp2
    go_ret
    exact ⟨by rw [hb]; rfl, rfl⟩
end Go.Proofs.YteombggfmeilaaaGreat
namespace Go.Proofs.YteombggfmeilaaaGreat
open Go.RowKit
theorem all_not (bs : List Int) : bs.all byteB = !(bs.any notB) := by
  induction bs with
  | nil => rfl
  | cons b bs ih => rw [List.all_cons, List.any_cons, ih]; unfold notB; cases byteB b <;> rfl
theorem may_some (la cl rd : Int) (bs : List Int) (h : bs ≠ []) : Ph.may ⟨la, bs, cl, rd⟩ = (lanesB la && decide (1 ≤ (bs.length : Int) ∧ (bs.length : Int) ≤ 512) && !(bs.any notB) && decide (cl = 0) && decide (rd = 0)) := by
  have hl := List.length_pos_iff.2 h
  unfold Ph.may
  dsimp only
  rw [if_pos h, all_not]
  have e : decide (bs.length ≤ 512) = decide (1 ≤ (bs.length : Int) ∧ (bs.length : Int) ≤ 512) := by
    congr 1; apply propext; omega
  rw [e]
theorem may_read (la cl rd : Int) (h : rd ≠ 0) : Ph.may ⟨la, [], cl, rd⟩ = (lanesB la && decide (1 ≤ rd ∧ rd ≤ 512) && decide (cl = 0)) := by
  unfold Ph.may
  dsimp only
  rw [if_neg (fun f => f rfl), if_pos h]
theorem may_none (la cl : Int) : Ph.may ⟨la, [], cl, 0⟩ = (decide (la = 0) && decide (1 ≤ cl ∧ cl ≤ 400)) := by
  unfold Ph.may
  dsimp only
  rw [if_neg (fun f => f rfl), if_neg (fun f => f rfl)]
set_option maxRecDepth 100000 in
set_option maxHeartbeats 4000000 in
theorem wire_may (w : World) (p : Ph) (bv : Value) (hr : RS w bv (ints p.bytes)) :
    Calls Tryz.prog 120 #[.agg #[.int .i64 p.lanes, bv, .int .i64 p.clocks, .int .i64 p.read]] w fun e w' => e = .returned (.bool p.may) ∧ Upd none' w w' := by
  obtain ⟨la, bs, cl, rd⟩ := p
  dsimp only at hr ⊢
  have hr2 := hr.upd ((Upd.refl none' w).alloc (.cells #[.int .i64 la, bv, .int .i64 cl, .int .i64 rd] 156)) (fun _ _ _ f => f)
  have hco := contains_wmay _ bv bs hr2
  obtain ⟨_, a, cap, rfl, -⟩ := hr
  rw [ints_len] at hco ⊢
  have hla := lane_lanes la
  have hU := Lib.hid ((Upd.refl none' w).alloc (.cells #[.int .i64 la, .slice a bs.length cap, .int .i64 cl, .int .i64 rd] 156))
  have hbd := hr2.1
  rw [ints_len] at hbd
  unfold clo_wmay at hco
  clear hr2
  by_cases hb : bs = []
  · subst hb
    clear hco hbd
    by_cases hrd : rd = 0
    · subst hrd
      have hm := Lib.hid (may_none la cl)
      have hs := may1 cl 400
      generalize decide (1 ≤ cl ∧ cl ≤ 400) = b2 at hm hs
      clear hla
      by_cases hl : la = 0
      · subst hl
        cases b2
        all_goals
          go_enter Tryz.func120, Tryz.ntmps120
          go_wp2_with (go_at_call 173; refine (hs _).mono ?_; rintro e w1 ⟨rfl, rfl⟩)
          go_ret
          exact ⟨by rw [hm.out]; rfl, hU.out⟩
      · have hl2 : (la == 0) = false := by simpa using hl
        rw [decide_eq_false hl] at hm
        go_enter Tryz.func120, Tryz.ntmps120
        go_wp2_with (go_at_call 173; refine (hs _).mono ?_; rintro e w1 ⟨rfl, rfl⟩)
        go_ret
        exact ⟨by rw [hm.out]; rfl, hU.out⟩
    · have hrd2 : (rd == 0) = false := by simpa using hrd
      have hm := Lib.hid (may_read la cl rd hrd)
      have hs := may1 rd 512
      generalize decide (1 ≤ rd ∧ rd ≤ 512) = b2 at hm hs
      generalize lanesB la = b1 at hm hla
      by_cases hl : cl = 0
      · subst hl
        cases b1 <;> cases b2
        all_goals
          go_enter Tryz.func120, Tryz.ntmps120
          go_wp2_with (first | (go_at_call 173; refine (hs _).mono ?_; rintro e w1 ⟨rfl, rfl⟩) | (go_at_call 176; refine (hla _).mono ?_; rintro e w1 ⟨rfl, rfl⟩))
          go_ret
          exact ⟨by rw [hm.out]; rfl, hU.out⟩
      · have hl2 : (cl == 0) = false := by simpa using hl
        rw [decide_eq_false hl] at hm
        cases b1 <;> cases b2
        all_goals
          go_enter Tryz.func120, Tryz.ntmps120
          go_wp2_with (first | (go_at_call 173; refine (hs _).mono ?_; rintro e w1 ⟨rfl, rfl⟩) | (go_at_call 176; refine (hla _).mono ?_; rintro e w1 ⟨rfl, rfl⟩))
          go_ret
          exact ⟨by rw [hm.out]; rfl, hU.out⟩
  · have hm := Lib.hid (may_some la cl rd bs hb)
    have hpos := List.length_pos_iff.2 hb
    clear hb
    have hs := may1 (bs.length : Int) 512
    generalize decide (1 ≤ (bs.length : Int) ∧ (bs.length : Int) ≤ 512) = b2 at hm hs
    generalize lanesB la = b1 at hm hla
    generalize bs.any notB = b3 at hm hco
    generalize bs.length = n at *
    have hn0 : (0 : Int) < (n : Int) := by omega
    by_cases hl : cl = 0
    · subst hl
      by_cases hrd : rd = 0
      · subst hrd
        cases b1 <;> cases b2 <;> cases b3
        all_goals
          go_enter Tryz.func120, Tryz.ntmps120
          go_wp2_with (first | (go_at_call 173; refine (hs _).mono ?_; rintro e w1 ⟨rfl, rfl⟩) | (go_at_call 176; refine (hla _).mono ?_; rintro e w1 ⟨rfl, rfl⟩) | (go_at_call 104; refine hco.mono ?_; rintro e w1 ⟨rfl, rfl⟩))
          go_ret
          exact ⟨by rw [hm.out]; rfl, hU.out⟩
      · have hrd2 : (rd == 0) = false := by simpa using hrd
        rw [decide_eq_false hrd] at hm
        cases b1 <;> cases b2 <;> cases b3
        all_goals
          go_enter Tryz.func120, Tryz.ntmps120
          go_wp2_with (first | (go_at_call 173; refine (hs _).mono ?_; rintro e w1 ⟨rfl, rfl⟩) | (go_at_call 176; refine (hla _).mono ?_; rintro e w1 ⟨rfl, rfl⟩) | (go_at_call 104; refine hco.mono ?_; rintro e w1 ⟨rfl, rfl⟩))
          go_ret
          exact ⟨by rw [hm.out]; rfl, hU.out⟩
    · have hl2 : (cl == 0) = false := by simpa using hl
      rw [decide_eq_false hl] at hm
      cases b1 <;> cases b2 <;> cases b3
      all_goals
        go_enter Tryz.func120, Tryz.ntmps120
        go_wp2_with (first | (go_at_call 173; refine (hs _).mono ?_; rintro e w1 ⟨rfl, rfl⟩) | (go_at_call 176; refine (hla _).mono ?_; rintro e w1 ⟨rfl, rfl⟩) | (go_at_call 104; refine hco.mono ?_; rintro e w1 ⟨rfl, rfl⟩))
        go_ret
        exact ⟨by rw [hm.out]; rfl, hU.out⟩
end Go.Proofs.YteombggfmeilaaaGreat
namespace Go.Proofs.YteombggfmeilaaaGreat
open Go.RowKit
theorem all_false {α : Type} (l : List α) (p : α → Bool) (i : Nat) (h : i < l.length) (hf : p l[i] = false) : l.all p = false := by
  rw [List.all_eq_false]
  exact ⟨l[i], List.getElem_mem h, by rw [hf]; decide⟩
theorem take_el {α : Type} (l : List α) (i : Nat) (h : i < l.length) : l.take (i + 1) = l.take i ++ [l[i]] := by
  rw [List.take_add_one]
  simp [List.getElem?_eq_getElem h]
theorem map_all (l : List (Ph × Value)) : (l.map Prod.fst).all Ph.may = l.all fun x => x.1.may := by rw [List.all_map]; rfl
theorem many1 (bs : List Int) (rd : Int) : Ph.many ⟨1, bs, 0, rd⟩ = ((bs.length : Int) + rd) * 8 := by
  show 0 + (if 0 < (1 : Int) then ((bs.length : Int) + rd) * 8 else 0) = _
  rw [if_pos (by decide)]; omega
theorem many4 (bs : List Int) (rd : Int) : Ph.many ⟨4, bs, 0, rd⟩ = ((bs.length : Int) + rd) * 2 := by
  show 0 + (if 0 < (4 : Int) then ((bs.length : Int) + rd) * 2 else 0) = _
  rw [if_pos (by decide)]; omega
theorem many0 (cl : Int) : Ph.many ⟨0, [], cl, 0⟩ = cl := by
  show cl + (if 0 < (0 : Int) then _ else 0) = _
  rw [if_neg (by decide)]; omega
def clocksV (L : List (Ph × Value)) : Int := if L.all (fun x => x.1.may) then phsMany (L.map Prod.fst) else 0
def clocksE (L : List (Ph × Value)) : Int := if L.all (fun x => x.1.may) then 0 else 1000
set_option maxRecDepth 100000 in
set_option maxHeartbeats 4000000 in
theorem wire_clocks {P Q : Own} {w0 w : World} {rows : List (Value × List Value)} (hC : Ctx P Q w0 w rows) (a : Option Addr) (n cap : Nat) (L : List (Ph × Value)) (hP : PhsV rows (.slice a n cap) L) :
    Calls Tryz.prog 41 #[.slice a n cap] w fun e w' => e = .returned (.tuple #[.int .i64 (clocksV L), .int .i64 (clocksE L)]) ∧ Ctx P Q w0 w' rows := by
  obtain ⟨rfl, hcap⟩ : n = L.length ∧ n ≤ cap := by
    obtain ⟨a', cap', e, hc, _⟩ := hP
    simp only [Value.slice.injEq] at e
    obtain ⟨rfl, rfl, rfl⟩ := e
    exact ⟨rfl, hc⟩
  have hll := phs_len hP
  have HP := Lib.hid hP
  have HC := Lib.hid hC
  clear hP hC
  go_enter Tryz.func41, Tryz.ntmps41
  go_wp2_with fail
  go_loopw [4, 9] (fun ov iv wr => ∃ i : Nat, i ≤ L.length ∧ iv = .int .i64 (i : Int) ∧ ov = .int .i64 (phsMany ((L.take i).map Prod.fst)) ∧ Hid ((L.take i).all (fun x => x.1.may) = true) ∧ Ctx P Q w0 wr rows) (fun _ iv _ => L.length - (intOf iv).toNat)
  case atStart => exact ⟨0, by omega, rfl, rfl, Lib.hid rfl, HC.out⟩
  case round =>
    rename World => W2
    obtain ⟨i, hi, rfl, rfl, hall, hC2⟩ := hrel
    have hbd := phsMany_bd ((L.take i).map Prod.fst) (by rw [map_all]; exact hall.out)
    rw [List.length_map, List.length_take, Nat.min_eq_left hi] at hbd
    by_cases hlt : i < L.length
    · obtain ⟨-, -, g, o, rfl, hg, k0, k1, k2, k3⟩ := phs_cells hC2 HP.out i hlt
      obtain ⟨ba, bc, hbv, hbm, hbl⟩ := phs_bytes HP.out i hlt
      have hbm := hbm (hC2.alloc (.cells #[.int .i64 L[i].1.lanes, .slice ba L[i].1.bytes.length bc, .int .i64 L[i].1.clocks, .int .i64 L[i].1.read] 156))
      rw [hbv] at k1
      have HF := Lib.hid (all_false L (fun x => x.1.may) i hlt)
      have HT := Lib.hid (take_el L i hlt)
      obtain ⟨p, hp⟩ : ∃ p, L[i].1 = p := ⟨_, rfl⟩
      have HT2 : Hid ((L.take (i + 1)).map Prod.fst = (L.take i).map Prod.fst ++ [p]) := Lib.hid (by rw [HT.out, List.map_append, ← hp]; rfl)
      have HT3 : Hid (p.may = true → (L.take (i + 1)).all (fun x => x.1.may) = true) := Lib.hid (fun h => by rw [HT.out, List.all_append, hall.out, ← hp] at *; simp [h])
      have HF2 : Hid (p.may = false → L.all (fun x => x.1.may) = false) := Lib.hid (fun h => HF.out (by rw [hp]; exact h))
      rw [hp] at k0 k1 k2 k3 hbm hbl
      clear hbv HF HT hp
      obtain ⟨S, hS⟩ : ∃ S, phsMany ((L.take i).map Prod.fst) = S := ⟨_, rfl⟩
      have HSN : Hid (phsMany ((L.take (i + 1)).map Prod.fst) = S + p.many) := Lib.hid (by rw [HT2.out, many_snoc, hS])
      rw [hS] at hbd ⊢
      clear hS HT2
      have hmay := wire_may _ p _ hbm
      have HC2 := Lib.hid hC2
      have HM := Lib.hid hmay
      clear hC2 hbm hmay
      cases hm : p.may with
      | false =>
        rw [hm] at HM
        have hres := HF2.out hm
        have HR := Lib.hid hres
        clear hres
        go_wp2_with (go_at_call 120; refine HM.out.mono ?_; rintro e w2 ⟨rfl, hU2⟩)
        go_ret2
        exact ⟨by unfold clocksV clocksE; rw [HR.out]; rfl, (HC2.out.alloc _).frame hU2⟩
      | true =>
        rw [hm] at HM
        have HF := Lib.hid (may_facts hm)
        have HMB := Lib.hid (many_bd hm)
        have HAL := Lib.hid (HT3.out hm)
        obtain ⟨la, bs, cl, rd⟩ := p
        dsimp only at *
        rcases HF.out with ⟨hla | hla, hcl, hbl2, hr0, hr1, -⟩ | ⟨hla, hbs, hrd, hc0, hc1⟩
        · subst hla
          subst hcl
          have hmn := many1 bs rd
          rw [hmn] at HSN
          have hma := lane_many 1 (by decide)
          rw [show (8 : Int) / 1 = 8 from rfl] at hma
          go_upto_region 9 with (go_at_call 120; refine HM.out.mono ?_; rintro e w2 ⟨rfl, hU2⟩; have hb2 := (Blk.new W2 [.int .i64 1, .slice ba bs.length bc, .int .i64 0, .int .i64 rd] 156).upd hU2 (fun f => f); have c0 := hb2.cell 0; have c1 := hb2.cell 1; have c2 := hb2.cell 2; have c3 := hb2.cell 3; simp only [List.getElem?_cons_succ, List.getElem?_cons_zero] at c0 c1 c2 c3)
          have HC4 := Lib.hid ((HC2.out.alloc (.cells #[.int .i64 1, .slice ba bs.length bc, .int .i64 0, .int .i64 rd] 156)).frame hU2)
          clear hU2 hb2
          go_region_held3 (fun w' => w'.cell? ⟨W2.heap.size, 1, none⟩ = some (.slice ba bs.length bc) ∧ w'.cell? ⟨W2.heap.size, 3, none⟩ = some (.int .i64 rd) ∧ w'.cell? ⟨W2.heap.size, 0, none⟩ = some (.int .i64 1)) (exact ⟨c1, c3, c0⟩) (first | (go_at_call 92; refine (hma _).mono ?_; rintro e w3 ⟨rfl, rfl⟩))
          all_goals
            go_wp2
            refine ⟨?rel, ?measure⟩
            case rel => exact ⟨i + 1, by omega, by go_num, by rw [HSN.out]; show Value.int .i64 (IntKind.i64.wrap (S + IntKind.i64.wrap (IntKind.i64.wrap ((bs.length : Int) + rd) * 8))) = _; rw [IntWalk.i64_in ((bs.length : Int) + rd) (by omega), IntWalk.i64_in (((bs.length : Int) + rd) * 8) (by omega), IntWalk.i64_in _ (by omega)], Lib.hid HAL.out, HC4.out.drew⟩
            case measure => simp [intOf]; omega
        · subst hla
          subst hcl
          have hmn := many4 bs rd
          rw [hmn] at HSN
          have hma := lane_many 4 (by decide)
          rw [show (8 : Int) / 4 = 2 from rfl] at hma
          go_upto_region 9 with (go_at_call 120; refine HM.out.mono ?_; rintro e w2 ⟨rfl, hU2⟩; have hb2 := (Blk.new W2 [.int .i64 4, .slice ba bs.length bc, .int .i64 0, .int .i64 rd] 156).upd hU2 (fun f => f); have c0 := hb2.cell 0; have c1 := hb2.cell 1; have c2 := hb2.cell 2; have c3 := hb2.cell 3; simp only [List.getElem?_cons_succ, List.getElem?_cons_zero] at c0 c1 c2 c3)
          have HC4 := Lib.hid ((HC2.out.alloc (.cells #[.int .i64 4, .slice ba bs.length bc, .int .i64 0, .int .i64 rd] 156)).frame hU2)
          clear hU2 hb2
          go_region_held3 (fun w' => w'.cell? ⟨W2.heap.size, 1, none⟩ = some (.slice ba bs.length bc) ∧ w'.cell? ⟨W2.heap.size, 3, none⟩ = some (.int .i64 rd) ∧ w'.cell? ⟨W2.heap.size, 0, none⟩ = some (.int .i64 4)) (exact ⟨c1, c3, c0⟩) (first | (go_at_call 92; refine (hma _).mono ?_; rintro e w3 ⟨rfl, rfl⟩))
          all_goals
            go_wp2
            refine ⟨?rel, ?measure⟩
            case rel => exact ⟨i + 1, by omega, by go_num, by rw [HSN.out]; show Value.int .i64 (IntKind.i64.wrap (S + IntKind.i64.wrap (IntKind.i64.wrap ((bs.length : Int) + rd) * 2))) = _; rw [IntWalk.i64_in ((bs.length : Int) + rd) (by omega), IntWalk.i64_in (((bs.length : Int) + rd) * 2) (by omega), IntWalk.i64_in _ (by omega)], Lib.hid HAL.out, HC4.out.drew⟩
            case measure => simp [intOf]; omega
        · subst hla
          subst hbs
          subst hrd
          rw [many0] at HSN
          go_wp2_with (go_at_call 120; refine HM.out.mono ?_; rintro e w2 ⟨rfl, hU2⟩; have hb2 := (Blk.new W2 [.int .i64 0, .slice ba ([] : List Int).length bc, .int .i64 cl, .int .i64 0] 156).upd hU2 (fun f => f); have c0 := hb2.cell 0; have c1 := hb2.cell 1; have c2 := hb2.cell 2; have c3 := hb2.cell 3; simp only [List.getElem?_cons_succ, List.getElem?_cons_zero] at c0 c1 c2 c3)
          refine ⟨?rel, ?measure⟩
          case rel => exact ⟨i + 1, by omega, by go_num, by rw [HSN.out], Lib.hid HAL.out, (HC2.out.alloc _).frame hU2⟩
          case measure => simp [intOf]; omega
    · have hie : i = L.length := by omega
      subst hie
      have ha := hall.out
      rw [List.take_length] at ha ⊢
      have HA := Lib.hid ha
      clear ha
      go_wp2
      go_ret2
      exact ⟨by unfold clocksV clocksE; rw [HA.out]; rfl, hC2⟩
end Go.Proofs.YteombggfmeilaaaGreat
