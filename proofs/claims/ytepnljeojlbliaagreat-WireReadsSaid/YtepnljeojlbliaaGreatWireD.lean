/- wire.Clocks. -/
import Derived.Test.YtepnljeojlbliaaGreatWireC
import Derived.Test.YtepnljeojlbliaaGreatCtxW
namespace Go.Proofs.YtepnljeojlbliaaGreat
open Go.RowKit
theorem all_false {α : Type} (l : List α) (p : α → Bool) (i : Nat) (h : i < l.length) (hf : p l[i] = false) : l.all p = false := by
  rw [List.all_eq_false]
  exact ⟨l[i], List.getElem_mem h, by rw [hf]; decide⟩
theorem take_el {α : Type} (l : List α) (i : Nat) (h : i < l.length) : l.take (i + 1) = l.take i ++ [l[i]] := by
  rw [List.take_add_one]
  simp [List.getElem?_eq_getElem h]
theorem map_all (l : List (Ph × Value)) : (l.map Prod.fst).all Ph.may = l.all fun x => x.1.may := by rw [List.all_map]; rfl
theorem many1 (bs : List Int) (rd : Int) : Ph.many ⟨1, bs, 0, rd⟩ = ((bs.length : Int) + rd) * 8 := by
  show 0 + (if 0 < (1 : Int) then ((bs.length : Int) + rd) * 8 else 0) = _
  rw [if_pos (by decide)]; omega
theorem many4 (bs : List Int) (rd : Int) : Ph.many ⟨4, bs, 0, rd⟩ = ((bs.length : Int) + rd) * 2 := by
  show 0 + (if 0 < (4 : Int) then ((bs.length : Int) + rd) * 2 else 0) = _
  rw [if_pos (by decide)]; omega
theorem many0 (cl : Int) : Ph.many ⟨0, [], cl, 0⟩ = cl := by
  show cl + (if 0 < (0 : Int) then _ else 0) = _
  rw [if_neg (by decide)]; omega
def clocksV (L : List (Ph × Value)) : Int := if L.all (fun x => x.1.may) then phsMany (L.map Prod.fst) else 0
def clocksE (L : List (Ph × Value)) : Int := if L.all (fun x => x.1.may) then 0 else 1000
set_option maxRecDepth 100000 in
set_option maxHeartbeats 4000000 in
theorem wire_clocks {P Q : Own} {w0 w : World} {rows : List (Value × List Value)} (hC : Ctx P Q w0 w rows) (a : Option Addr) (n cap : Nat) (L : List (Ph × Value)) (hP : PhsV rows (.slice a n cap) L) :
    Calls Tryz.prog 41 #[.slice a n cap] w fun e w' => e = .returned (.tuple #[.int .i64 (clocksV L), .int .i64 (clocksE L)]) ∧ Ctx P Q w0 w' rows := by
  obtain ⟨rfl, hcap⟩ : n = L.length ∧ n ≤ cap := by
    obtain ⟨a', cap', e, hc, _⟩ := hP
    simp only [Value.slice.injEq] at e
    obtain ⟨rfl, rfl, rfl⟩ := e
    exact ⟨rfl, hc⟩
  have hll := phs_len hP
  have HP := Lib.hid hP
  have HC := Lib.hid hC
  clear hP hC
  go_enter Tryz.func41, Tryz.ntmps41
  go_wp2_with fail
  go_loopw [4, 9] (fun ov iv wr => ∃ i : Nat, i ≤ L.length ∧ iv = .int .i64 (i : Int) ∧ ov = .int .i64 (phsMany ((L.take i).map Prod.fst)) ∧ Hid ((L.take i).all (fun x => x.1.may) = true) ∧ Ctx P Q w0 wr rows) (fun _ iv _ => L.length - (intOf iv).toNat)
  case atStart => exact ⟨0, by omega, rfl, rfl, Lib.hid rfl, HC.out⟩
  case round =>
    rename World => W2
    obtain ⟨i, hi, rfl, rfl, hall, hC2⟩ := hrel
    have hbd := phsMany_bd ((L.take i).map Prod.fst) (by rw [map_all]; exact hall.out)
    rw [List.length_map, List.length_take, Nat.min_eq_left hi] at hbd
    by_cases hlt : i < L.length
    · obtain ⟨-, -, g, o, rfl, hg, k0, k1, k2, k3⟩ := phs_cells hC2 HP.out i hlt
      obtain ⟨ba, bc, hbv, hbm, hbl⟩ := phs_bytes HP.out i hlt
      have hbm := hbm (hC2.alloc (.cells #[.int .i64 L[i].1.lanes, .slice ba L[i].1.bytes.length bc, .int .i64 L[i].1.clocks, .int .i64 L[i].1.read] 156))
      rw [hbv] at k1
      have HF := Lib.hid (all_false L (fun x => x.1.may) i hlt)
      have HT := Lib.hid (take_el L i hlt)
      obtain ⟨p, hp⟩ : ∃ p, L[i].1 = p := ⟨_, rfl⟩
      have HT2 : Hid ((L.take (i + 1)).map Prod.fst = (L.take i).map Prod.fst ++ [p]) := Lib.hid (by rw [HT.out, List.map_append, ← hp]; rfl)
      have HT3 : Hid (p.may = true → (L.take (i + 1)).all (fun x => x.1.may) = true) := Lib.hid (fun h => by rw [HT.out, List.all_append, hall.out, ← hp] at *; simp [h])
      have HF2 : Hid (p.may = false → L.all (fun x => x.1.may) = false) := Lib.hid (fun h => HF.out (by rw [hp]; exact h))
      rw [hp] at k0 k1 k2 k3 hbm hbl
      clear hbv HF HT hp
      obtain ⟨S, hS⟩ : ∃ S, phsMany ((L.take i).map Prod.fst) = S := ⟨_, rfl⟩
      have HSN : Hid (phsMany ((L.take (i + 1)).map Prod.fst) = S + p.many) := Lib.hid (by rw [HT2.out, many_snoc, hS])
      rw [hS] at hbd ⊢
      clear hS HT2
      have hmay := wire_may _ p _ hbm
      have HC2 := Lib.hid hC2
      have HM := Lib.hid hmay
      clear hC2 hbm hmay
      cases hm : p.may with
      | false =>
        rw [hm] at HM
        have hres := HF2.out hm
        have HR := Lib.hid hres
        clear hres
        go_wp2_with (go_at_call 120; refine HM.out.mono ?_; rintro e w2 ⟨rfl, hU2⟩)
        go_ret2
        exact ⟨by unfold clocksV clocksE; rw [HR.out]; rfl, (HC2.out.alloc _).frame hU2⟩
      | true =>
        rw [hm] at HM
        have HF := Lib.hid (may_facts hm)
        have HMB := Lib.hid (many_bd hm)
        have HAL := Lib.hid (HT3.out hm)
        obtain ⟨la, bs, cl, rd⟩ := p
        dsimp only at *
        rcases HF.out with ⟨hla | hla, hcl, hbl2, hr0, hr1, -⟩ | ⟨hla, hbs, hrd, hc0, hc1⟩
        · subst hla
          subst hcl
          have hmn := many1 bs rd
          rw [hmn] at HSN
          have hma := lane_many 1 (by decide)
          rw [show (8 : Int) / 1 = 8 from rfl] at hma
          go_upto_region 9 with (go_at_call 120; refine HM.out.mono ?_; rintro e w2 ⟨rfl, hU2⟩; have hb2 := (Blk.new W2 [.int .i64 1, .slice ba bs.length bc, .int .i64 0, .int .i64 rd] 156).upd hU2 (fun f => f); have c0 := hb2.cell 0; have c1 := hb2.cell 1; have c2 := hb2.cell 2; have c3 := hb2.cell 3; simp only [List.getElem?_cons_succ, List.getElem?_cons_zero] at c0 c1 c2 c3)
          have HC4 := Lib.hid ((HC2.out.alloc (.cells #[.int .i64 1, .slice ba bs.length bc, .int .i64 0, .int .i64 rd] 156)).frame hU2)
          clear hU2 hb2
          go_region_held3 (fun w' => w'.cell? ⟨W2.heap.size, 1, none⟩ = some (.slice ba bs.length bc) ∧ w'.cell? ⟨W2.heap.size, 3, none⟩ = some (.int .i64 rd) ∧ w'.cell? ⟨W2.heap.size, 0, none⟩ = some (.int .i64 1)) (exact ⟨c1, c3, c0⟩) (first | (go_at_call 92; refine (hma _).mono ?_; rintro e w3 ⟨rfl, rfl⟩))
          all_goals
            go_wp2
            refine ⟨?rel, ?measure⟩
            case rel => exact ⟨i + 1, by omega, by go_num, by rw [HSN.out]; show Value.int .i64 (IntKind.i64.wrap (S + IntKind.i64.wrap (IntKind.i64.wrap ((bs.length : Int) + rd) * 8))) = _; rw [IntWalk.i64_in ((bs.length : Int) + rd) (by omega), IntWalk.i64_in (((bs.length : Int) + rd) * 8) (by omega), IntWalk.i64_in _ (by omega)], Lib.hid HAL.out, HC4.out.drew⟩
            case measure => simp [intOf]; omega
        · subst hla
          subst hcl
          have hmn := many4 bs rd
          rw [hmn] at HSN
          have hma := lane_many 4 (by decide)
          rw [show (8 : Int) / 4 = 2 from rfl] at hma
          go_upto_region 9 with (go_at_call 120; refine HM.out.mono ?_; rintro e w2 ⟨rfl, hU2⟩; have hb2 := (Blk.new W2 [.int .i64 4, .slice ba bs.length bc, .int .i64 0, .int .i64 rd] 156).upd hU2 (fun f => f); have c0 := hb2.cell 0; have c1 := hb2.cell 1; have c2 := hb2.cell 2; have c3 := hb2.cell 3; simp only [List.getElem?_cons_succ, List.getElem?_cons_zero] at c0 c1 c2 c3)
          have HC4 := Lib.hid ((HC2.out.alloc (.cells #[.int .i64 4, .slice ba bs.length bc, .int .i64 0, .int .i64 rd] 156)).frame hU2)
          clear hU2 hb2
          go_region_held3 (fun w' => w'.cell? ⟨W2.heap.size, 1, none⟩ = some (.slice ba bs.length bc) ∧ w'.cell? ⟨W2.heap.size, 3, none⟩ = some (.int .i64 rd) ∧ w'.cell? ⟨W2.heap.size, 0, none⟩ = some (.int .i64 4)) (exact ⟨c1, c3, c0⟩) (first | (go_at_call 92; refine (hma _).mono ?_; rintro e w3 ⟨rfl, rfl⟩))
          all_goals
            go_wp2
            refine ⟨?rel, ?measure⟩
            case rel => exact ⟨i + 1, by omega, by go_num, by rw [HSN.out]; show Value.int .i64 (IntKind.i64.wrap (S + IntKind.i64.wrap (IntKind.i64.wrap ((bs.length : Int) + rd) * 2))) = _; rw [IntWalk.i64_in ((bs.length : Int) + rd) (by omega), IntWalk.i64_in (((bs.length : Int) + rd) * 2) (by omega), IntWalk.i64_in _ (by omega)], Lib.hid HAL.out, HC4.out.drew⟩
            case measure => simp [intOf]; omega
        · subst hla
          subst hbs
          subst hrd
          rw [many0] at HSN
          go_wp2_with (go_at_call 120; refine HM.out.mono ?_; rintro e w2 ⟨rfl, hU2⟩; have hb2 := (Blk.new W2 [.int .i64 0, .slice ba ([] : List Int).length bc, .int .i64 cl, .int .i64 0] 156).upd hU2 (fun f => f); have c0 := hb2.cell 0; have c1 := hb2.cell 1; have c2 := hb2.cell 2; have c3 := hb2.cell 3; simp only [List.getElem?_cons_succ, List.getElem?_cons_zero] at c0 c1 c2 c3)
          refine ⟨?rel, ?measure⟩
          case rel => exact ⟨i + 1, by omega, by go_num, by rw [HSN.out], Lib.hid HAL.out, (HC2.out.alloc _).frame hU2⟩
          case measure => simp [intOf]; omega
    · have hie : i = L.length := by omega
      subst hie
      have ha := hall.out
      rw [List.take_length] at ha ⊢
      have HA := Lib.hid ha
      clear ha
      go_wp2
      go_ret2
      exact ⟨by unfold clocksV clocksE; rw [HA.out]; rfl, hC2⟩
end Go.Proofs.YtepnljeojlbliaaGreat
