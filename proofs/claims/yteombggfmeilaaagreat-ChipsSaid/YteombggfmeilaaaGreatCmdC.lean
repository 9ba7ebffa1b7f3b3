/- The walks over table.Command. · The walks over table.Command. -/
import Derived.Test.YteombggfmeilaaaGreatTabC
import Derived.Test.YteombggfmeilaaaGreatPure
namespace Go.Proofs.YteombggfmeilaaaGreat
open Go.RowKit
set_option maxRecDepth 100000 in
set_option maxHeartbeats 8000000 in
theorem cmd_100n1 {P Q : Own} (hQ : Q.Ok) {w0 w : World} {rows : List (Value × List Value)} (hC : Ctx P Q w0 w rows) (o : POp) (hop : opOf o.byte = o) (hoi : opIs o.byte = true) (k : Int) (hk : 0 ≤ k ∧ k < 4096) (a : Option Addr) (c : Nat) (data : List Int) (hd : (.slice a data.length c, ints data) ∈ rows) (hlen : data.length ≤ 512) (hby : data.any notB = false) (read : Int) (hr : 0 ≤ read ∧ read ≤ 512) (hfit : fitsB o data.length read = true) (hA : 0 < o.addr) (hM : o.mode = false) (hD : o.dummy = 0) (hI : o.inn = false) (hR : 0 < read) :
    Calls Tryz.prog 126 #[.agg o.cells, .int .i64 k, .slice a data.length c, .int .i64 read] w fun e w' => ∃ g m cap L rows', e = .returned (.tuple #[.slice (some ⟨g, 0, none⟩) m cap, .int .i64 0]) ∧ L.map Prod.fst = cmdPhs o k data read ∧ Ctx P Q w0 w' (rows' ++ rows) ∧ PhsV (rows' ++ rows) (.slice (some ⟨g, 0, none⟩) m cap) L := by
  have hres : cmdPhs o k data read = [⟨1, [o.byte], 0, 0⟩, ⟨o.addr, [k / 65536, k / 256 % 256, k % 256], 0, 0⟩, ⟨o.data, [], 0, read⟩] := by
    unfold cmdPhs
    rw [if_pos hA, if_neg (show ¬ o.mode = true by rw [hM]; decide), if_neg (show ¬ 0 < o.dummy by omega), if_neg (show ¬ (o.inn = true ∧ data ≠ []) by rw [hI]; simp), if_pos hR]
    rfl
  have hof := op_of o.byte hoi
  rw [hop] at hof
  obtain ⟨by', ad, mo, du, da, inn⟩ := o
  unfold POp.cells at hof ⊢
  dsimp only at hof hres hA hM hD hI hop hoi ⊢
  have hfi := fun (w : World) (kk : Nat) h2 h4 h5 => tab_fits w kk ⟨by', ad, mo, du, da, inn⟩ data.length read h2 h4 h5
  rw [hfit] at hfi
  dsimp only at hfi
  have HFI := Lib.hid hfi
  have HRES := Lib.hid hres
  have HQ := Lib.hid hQ
  have HBY := Lib.hid hby
  have HDD := Lib.hid hd
  have HC := Lib.hid hC
  have ha1 := i64_and255 k
  have ha2 := i64_and255 (k / 256)
  subst hM
  subst hD
  subst hI
  have hA2 : (ad == 0) = false := by simp; omega
  clear hop hoi hfit hd hQ hC hres hfi hby
  go_enter Tryz.func126, Tryz.ntmps126
  obtain ⟨kb, hkb⟩ : ∃ kb, w.heap.size = kb := ⟨_, rfl⟩
  go_upto_region 5 with (first | (go_at_call 179; refine (hof _).mono ?_; rintro e w1 ⟨rfl, hU1⟩; have hb1 := (Blk.new w [.int .i64 by', .int .i64 ad, .bool false, .int .i64 0, .int .i64 da, .bool false] 52).upd hU1 (fun f => f); rw [hkb] at hb1; have hC1 := (HC.out.alloc (.cells #[.int .i64 by', .int .i64 ad, .bool false, .int .i64 0, .int .i64 da, .bool false] 52)).frame hU1; have hC2 := hC1.alloc (.cells #[.int .i64 by', .int .i64 ad, .bool false, .int .i64 0, .int .i64 da, .bool false] 52); have hb2 := hb1.alloc (.cells #[.int .i64 by', .int .i64 ad, .bool false, .int .i64 0, .int .i64 da, .bool false] 52); clear hb1 hC1 hU1; have hrs2 := hC2.rs_mem HDD.out; have c0 := hb2.cell 0; have c1 := hb2.cell 1; have c2 := hb2.cell 2; have c3 := hb2.cell 3; have c4 := hb2.cell 4; have c5 := hb2.cell 5; simp only [List.getElem?_cons_succ, List.getElem?_cons_zero] at c0 c1 c2 c3 c4 c5; have HC2 := Lib.hid hC2; have HB2 := Lib.hid hb2; have hcon := contains_tcmd _ _ data hrs2; rw [HBY.out] at hcon; have HCON := Lib.hid hcon; have HFI2 := Lib.hid (HFI.out _ kb c2 c4 c5); clear hC2 hb2 hrs2 hcon) | (go_at_call 104; refine HCON.out.mono ?_; rintro e w2 ⟨rfl, rfl⟩) | (go_at_call 181; refine HFI2.out.mono ?_; rintro e w2 ⟨rfl, rfl⟩))
  clear HCON HFI2 HFI HBY hof c1 c2 c3 c4 c5
  generalize w1.alloc (.cells #[.int .i64 by', .int .i64 ad, .bool false, .int .i64 0, .int .i64 da, .bool false] 52) = W2 at *
  clear hkb
  have hklt := HB2.out.lt
  have hA1 := (HC2.out.lit (ints [by']) 3 1 rfl (by decide)).nilrow
  have hs1 : (W2.alloc (.cells (ints [by']).toArray 3)).heap.size = W2.heap.size + 1 := by simp
  have hC3 := hA1.phNew (phCells (⟨1, [by'], 0, 0⟩, .slice (some ⟨W2.heap.size, 0, none⟩) 1 1)) rfl
  rw [hs1] at hC3
  have HC3 := Lib.hid hC3
  have HB := Lib.hid ((HB2.out.alloc (.cells (ints [by']).toArray 3)).alloc (.cells (phCells (⟨1, [by'], 0, 0⟩, .slice (some ⟨W2.heap.size, 0, none⟩) 1 1)).toArray 156))
  clear hC3 hA1 HC2 HB2
  go_upto_region 6 with fail
  clear c0
  have hg2 : kb < W2.heap.size + 1 := by omega
  obtain ⟨g2, hgg2⟩ : ∃ g2, W2.heap.size + 1 = g2 := ⟨_, rfl⟩
  rw [hgg2] at HC3 hg2 ⊢
  obtain ⟨cp2, hcp2⟩ : ∃ cp2 : Nat, cp2 = 1 := ⟨_, rfl⟩
  have HC3' : Hid (Ctx P ((RowF (.slice (some ⟨g2, 0, none⟩) 1 1) 1 (([((⟨1, [by'], 0, 0⟩ : Ph), (Value.slice (some ⟨W2.heap.size, 0, none⟩) 1 1))] : List (Ph × Value)).flatMap phCells)).star Q) w0 ((W2.alloc (.cells (ints [by']).toArray 3)).alloc (.cells (phCells (⟨1, [by'], 0, 0⟩, .slice (some ⟨W2.heap.size, 0, none⟩) 1 1)).toArray 156)) (((.slice none 0 0, ints []) :: (.slice (some ⟨W2.heap.size, 0, none⟩) 1 1, ints [by']) :: rows))) := HC3
  obtain ⟨W3, hW3⟩ : ∃ W3, (W2.alloc (.cells (ints [by']).toArray 3)).alloc (.cells (phCells (⟨1, [by'], 0, 0⟩, .slice (some ⟨W2.heap.size, 0, none⟩) 1 1)).toArray 156) = W3 := ⟨_, rfl⟩
  rw [hW3] at HC3' HB
  change Code.wp _ _ _ _ ((W2.alloc (.cells (ints [by']).toArray 3)).alloc (.cells (phCells (⟨1, [by'], 0, 0⟩, .slice (some ⟨W2.heap.size, 0, none⟩) 1 1)).toArray 156))
  rw [hW3]
  clear HC3 hW3 hgg2 hs1 hcp2 cp2 hklt
  have HC := HC3'
  clear HC3'

  have hbx := HB.out
  have c0 := hbx.cell 0
  have c1 := hbx.cell 1
  have c2 := hbx.cell 2
  have c3 := hbx.cell 3
  have c4 := hbx.cell 4
  have c5 := hbx.cell 5
  simp only [List.getElem?_cons_succ, List.getElem?_cons_zero] at c0 c1 c2 c3 c4 c5
  clear hbx
  have hsz4 : (W3.alloc (.cells (ints [k / 65536, k / 256 % 256, k % 256]).toArray 3)).heap.size = W3.heap.size + 1 := by simp
  go_upto_region 8 with (at_builtin; go_must (refine wpList_ph1 rfl _ _ rfl (.slice (some ⟨g2, 0, none⟩) 1 1) 1 (([((⟨1, [by'], 0, 0⟩ : Ph), (Value.slice (some ⟨W2.heap.size, 0, none⟩) 1 1))] : List (Ph × Value)).flatMap phCells) rfl (W3.alloc (.cells (ints [k / 65536, k / 256 % 256, k % 256]).toArray 3)) (phCells (⟨ad, [k / 65536, k / 256 % 256, k % 256], 0, 0⟩, .slice (some ⟨W3.heap.size, 0, none⟩) 3 3)) rfl (phCells_one _ _ _ _) ⟨rfl, rfl, rfl⟩ (own_upd HC.out.phGet ((Upd.refl none' W3).alloc _) (fun _ _ f => f)) (by rw [hsz4]; rfl) (by decide) ?_); intro g4 cp4 W4 hRn hUn hgn hgln)
  have hCn := Ctx.phStep HQ.out (HC.out.lit (ints [k / 65536, k / 256 % 256, k % 256]) 3 3 rfl (by decide)) hRn hUn (fun k hk => by simp only [Value.ownBlock, Option.some.injEq] at hk; rw [← hk]; exact hgn)
  have hBn := (HB.out.alloc (.cells (ints [k / 65536, k / 256 % 256, k % 256]).toArray 3)).upd hUn (fun e => by simp only [Value.ownBlock, Option.some.injEq] at e; omega)
  have hkn : kb < g4 := by
    have := (HB.out.alloc (.cells (ints [k / 65536, k / 256 % 256, k % 256]).toArray 3)).lt
    rcases hgn with e | e
    · simp only [Value.ownBlock, Option.some.injEq] at e; omega
    · omega
  clear HC HB c0 c1 c2 c3 c4 c5 hRn hUn hgn hgln
  have HC : Hid (Ctx P ((RowF (.slice (some ⟨g4, 0, none⟩) 2 cp4) 2 (([((⟨1, [by'], 0, 0⟩ : Ph), (Value.slice (some ⟨W2.heap.size, 0, none⟩) 1 1)), ((⟨ad, [k / 65536, k / 256 % 256, k % 256], 0, 0⟩ : Ph), (Value.slice (some ⟨W3.heap.size, 0, none⟩) 3 3 : Value))] : List (Ph × Value)).flatMap phCells)).star Q) w0 W4 _) := Lib.hid hCn
  have HB := Lib.hid hBn
  clear hCn hBn
  have hbx := HB.out
  have c0 := hbx.cell 0
  have c1 := hbx.cell 1
  have c2 := hbx.cell 2
  have c3 := hbx.cell 3
  have c4 := hbx.cell 4
  have c5 := hbx.cell 5
  simp only [List.getElem?_cons_succ, List.getElem?_cons_zero] at c0 c1 c2 c3 c4 c5
  clear hbx
  go_upto_region 16 with (at_builtin; go_must (refine wpList_ph1 rfl _ _ rfl (.slice (some ⟨g4, 0, none⟩) 2 cp4) 2 (([((⟨1, [by'], 0, 0⟩ : Ph), (Value.slice (some ⟨W2.heap.size, 0, none⟩) 1 1)), ((⟨ad, [k / 65536, k / 256 % 256, k % 256], 0, 0⟩ : Ph), (Value.slice (some ⟨W3.heap.size, 0, none⟩) 3 3 : Value))] : List (Ph × Value)).flatMap phCells) rfl W4 (phCells (⟨da, [], 0, read⟩, .slice none 0 0)) rfl (phCells_one _ _ _ _) ⟨rfl, rfl, rfl⟩ HC.out.phGet rfl (by decide) ?_); intro g5 cp5 W5 hRn hUn hgn hgln)
  have hCn := Ctx.phStep HQ.out (HC.out) hRn hUn (fun k hk => by simp only [Value.ownBlock, Option.some.injEq] at hk; rw [← hk]; exact hgn)
  have hBn := (HB.out).upd hUn (fun e => by simp only [Value.ownBlock, Option.some.injEq] at e; omega)
  have hkn : kb < g5 := by
    have := (HB.out).lt
    rcases hgn with e | e
    · simp only [Value.ownBlock, Option.some.injEq] at e; omega
    · omega
  clear HC HB c0 c1 c2 c3 c4 c5 hRn hUn hgn hgln
  have HC : Hid (Ctx P ((RowF (.slice (some ⟨g5, 0, none⟩) 3 cp5) 3 (([((⟨1, [by'], 0, 0⟩ : Ph), (Value.slice (some ⟨W2.heap.size, 0, none⟩) 1 1)), ((⟨ad, [k / 65536, k / 256 % 256, k % 256], 0, 0⟩ : Ph), (Value.slice (some ⟨W3.heap.size, 0, none⟩) 3 3 : Value)), ((⟨da, [], 0, read⟩ : Ph), (Value.slice none 0 0 : Value))] : List (Ph × Value)).flatMap phCells)).star Q) w0 W5 _) := Lib.hid hCn
  have HB := Lib.hid hBn
  clear hCn hBn
  have hbx := HB.out
  have c0 := hbx.cell 0
  have c1 := hbx.cell 1
  have c2 := hbx.cell 2
  have c3 := hbx.cell 3
  have c4 := hbx.cell 4
  have c5 := hbx.cell 5
  simp only [List.getElem?_cons_succ, List.getElem?_cons_zero] at c0 c1 c2 c3 c4 c5
  clear hbx
  go_upto_region 16 with fail
  clear c0 c1 c2 c3 c4 c5 HB
  have hfin := Ctx.phDone HQ.out HC.out (by decide) (by
    intro x hx
    simp only [List.mem_cons, List.not_mem_nil, or_false] at hx
    rcases hx with rfl | rfl | rfl
    all_goals repeat (first | exact List.mem_cons_self | apply List.mem_cons_of_mem))
  have HFIN := Lib.hid hfin
  clear hfin HC
  go_wp2
  go_ret2
  exact ⟨g5, 3, cp5, [((⟨1, [by'], 0, 0⟩ : Ph), (Value.slice (some ⟨W2.heap.size, 0, none⟩) 1 1)), ((⟨ad, [k / 65536, k / 256 % 256, k % 256], 0, 0⟩ : Ph), (Value.slice (some ⟨W3.heap.size, 0, none⟩) 3 3 : Value)), ((⟨da, [], 0, read⟩ : Ph), (Value.slice none 0 0 : Value))], _ :: [(.slice (some ⟨W3.heap.size, 0, none⟩) 3 3, ints [k / 65536, k / 256 % 256, k % 256]), (.slice none 0 0, ints []), (.slice (some ⟨W2.heap.size, 0, none⟩) 1 1, ints [by'])], rfl, by rw [HRES.out]; rfl, HFIN.out.1, HFIN.out.2⟩
set_option maxRecDepth 100000 in
set_option maxHeartbeats 8000000 in
theorem cmd_101n0 {P Q : Own} (hQ : Q.Ok) {w0 w : World} {rows : List (Value × List Value)} (hC : Ctx P Q w0 w rows) (o : POp) (hop : opOf o.byte = o) (hoi : opIs o.byte = true) (k : Int) (hk : 0 ≤ k ∧ k < 4096) (a : Option Addr) (c : Nat) (data : List Int) (hd : (.slice a data.length c, ints data) ∈ rows) (hlen : data.length ≤ 512) (hby : data.any notB = false) (read : Int) (hr : 0 ≤ read ∧ read ≤ 512) (hfit : fitsB o data.length read = true) (hA : 0 < o.addr) (hM : o.mode = false) (hD : 0 < o.dummy) (hI : o.inn = false) (hR : read = 0) :
    Calls Tryz.prog 126 #[.agg o.cells, .int .i64 k, .slice a data.length c, .int .i64 read] w fun e w' => ∃ g m cap L rows', e = .returned (.tuple #[.slice (some ⟨g, 0, none⟩) m cap, .int .i64 0]) ∧ L.map Prod.fst = cmdPhs o k data read ∧ Ctx P Q w0 w' (rows' ++ rows) ∧ PhsV (rows' ++ rows) (.slice (some ⟨g, 0, none⟩) m cap) L := by
  have hres : cmdPhs o k data read = [⟨1, [o.byte], 0, 0⟩, ⟨o.addr, [k / 65536, k / 256 % 256, k % 256], 0, 0⟩, ⟨0, [], o.dummy, 0⟩] := by
    unfold cmdPhs
    rw [if_pos hA, if_neg (show ¬ o.mode = true by rw [hM]; decide), if_pos hD, if_neg (show ¬ (o.inn = true ∧ data ≠ []) by rw [hI]; simp), if_neg (show ¬ 0 < read by omega)]
    rfl
  have hof := op_of o.byte hoi
  rw [hop] at hof
  obtain ⟨by', ad, mo, du, da, inn⟩ := o
  unfold POp.cells at hof ⊢
  dsimp only at hof hres hA hM hD hI hop hoi ⊢
  have hfi := fun (w : World) (kk : Nat) h2 h4 h5 => tab_fits w kk ⟨by', ad, mo, du, da, inn⟩ data.length read h2 h4 h5
  rw [hfit] at hfi
  dsimp only at hfi
  have HFI := Lib.hid hfi
  have HRES := Lib.hid hres
  have HQ := Lib.hid hQ
  have HBY := Lib.hid hby
  have HDD := Lib.hid hd
  have HC := Lib.hid hC
  have ha1 := i64_and255 k
  have ha2 := i64_and255 (k / 256)
  subst hM
  subst hI
  subst hR
  have hA2 : (ad == 0) = false := by simp; omega
  clear hop hoi hfit hd hQ hC hres hfi hby
  go_enter Tryz.func126, Tryz.ntmps126
  obtain ⟨kb, hkb⟩ : ∃ kb, w.heap.size = kb := ⟨_, rfl⟩
  go_upto_region 5 with (first | (go_at_call 179; refine (hof _).mono ?_; rintro e w1 ⟨rfl, hU1⟩; have hb1 := (Blk.new w [.int .i64 by', .int .i64 ad, .bool false, .int .i64 du, .int .i64 da, .bool false] 52).upd hU1 (fun f => f); rw [hkb] at hb1; have hC1 := (HC.out.alloc (.cells #[.int .i64 by', .int .i64 ad, .bool false, .int .i64 du, .int .i64 da, .bool false] 52)).frame hU1; have hC2 := hC1.alloc (.cells #[.int .i64 by', .int .i64 ad, .bool false, .int .i64 du, .int .i64 da, .bool false] 52); have hb2 := hb1.alloc (.cells #[.int .i64 by', .int .i64 ad, .bool false, .int .i64 du, .int .i64 da, .bool false] 52); clear hb1 hC1 hU1; have hrs2 := hC2.rs_mem HDD.out; have c0 := hb2.cell 0; have c1 := hb2.cell 1; have c2 := hb2.cell 2; have c3 := hb2.cell 3; have c4 := hb2.cell 4; have c5 := hb2.cell 5; simp only [List.getElem?_cons_succ, List.getElem?_cons_zero] at c0 c1 c2 c3 c4 c5; have HC2 := Lib.hid hC2; have HB2 := Lib.hid hb2; have hcon := contains_tcmd _ _ data hrs2; rw [HBY.out] at hcon; have HCON := Lib.hid hcon; have HFI2 := Lib.hid (HFI.out _ kb c2 c4 c5); clear hC2 hb2 hrs2 hcon) | (go_at_call 104; refine HCON.out.mono ?_; rintro e w2 ⟨rfl, rfl⟩) | (go_at_call 181; refine HFI2.out.mono ?_; rintro e w2 ⟨rfl, rfl⟩))
  clear HCON HFI2 HFI HBY hof c1 c2 c3 c4 c5
  generalize w1.alloc (.cells #[.int .i64 by', .int .i64 ad, .bool false, .int .i64 du, .int .i64 da, .bool false] 52) = W2 at *
  clear hkb
  have hklt := HB2.out.lt
  have hA1 := (HC2.out.lit (ints [by']) 3 1 rfl (by decide)).nilrow
  have hs1 : (W2.alloc (.cells (ints [by']).toArray 3)).heap.size = W2.heap.size + 1 := by simp
  have hC3 := hA1.phNew (phCells (⟨1, [by'], 0, 0⟩, .slice (some ⟨W2.heap.size, 0, none⟩) 1 1)) rfl
  rw [hs1] at hC3
  have HC3 := Lib.hid hC3
  have HB := Lib.hid ((HB2.out.alloc (.cells (ints [by']).toArray 3)).alloc (.cells (phCells (⟨1, [by'], 0, 0⟩, .slice (some ⟨W2.heap.size, 0, none⟩) 1 1)).toArray 156))
  clear hC3 hA1 HC2 HB2
  go_upto_region 6 with fail
  clear c0
  have hg2 : kb < W2.heap.size + 1 := by omega
  obtain ⟨g2, hgg2⟩ : ∃ g2, W2.heap.size + 1 = g2 := ⟨_, rfl⟩
  rw [hgg2] at HC3 hg2 ⊢
  obtain ⟨cp2, hcp2⟩ : ∃ cp2 : Nat, cp2 = 1 := ⟨_, rfl⟩
  have HC3' : Hid (Ctx P ((RowF (.slice (some ⟨g2, 0, none⟩) 1 1) 1 (([((⟨1, [by'], 0, 0⟩ : Ph), (Value.slice (some ⟨W2.heap.size, 0, none⟩) 1 1))] : List (Ph × Value)).flatMap phCells)).star Q) w0 ((W2.alloc (.cells (ints [by']).toArray 3)).alloc (.cells (phCells (⟨1, [by'], 0, 0⟩, .slice (some ⟨W2.heap.size, 0, none⟩) 1 1)).toArray 156)) (((.slice none 0 0, ints []) :: (.slice (some ⟨W2.heap.size, 0, none⟩) 1 1, ints [by']) :: rows))) := HC3
  obtain ⟨W3, hW3⟩ : ∃ W3, (W2.alloc (.cells (ints [by']).toArray 3)).alloc (.cells (phCells (⟨1, [by'], 0, 0⟩, .slice (some ⟨W2.heap.size, 0, none⟩) 1 1)).toArray 156) = W3 := ⟨_, rfl⟩
  rw [hW3] at HC3' HB
  change Code.wp _ _ _ _ ((W2.alloc (.cells (ints [by']).toArray 3)).alloc (.cells (phCells (⟨1, [by'], 0, 0⟩, .slice (some ⟨W2.heap.size, 0, none⟩) 1 1)).toArray 156))
  rw [hW3]
  clear HC3 hW3 hgg2 hs1 hcp2 cp2 hklt
  have HC := HC3'
  clear HC3'

  have hbx := HB.out
  have c0 := hbx.cell 0
  have c1 := hbx.cell 1
  have c2 := hbx.cell 2
  have c3 := hbx.cell 3
  have c4 := hbx.cell 4
  have c5 := hbx.cell 5
  simp only [List.getElem?_cons_succ, List.getElem?_cons_zero] at c0 c1 c2 c3 c4 c5
  clear hbx
  have hsz4 : (W3.alloc (.cells (ints [k / 65536, k / 256 % 256, k % 256]).toArray 3)).heap.size = W3.heap.size + 1 := by simp
  go_upto_region 8 with (at_builtin; go_must (refine wpList_ph1 rfl _ _ rfl (.slice (some ⟨g2, 0, none⟩) 1 1) 1 (([((⟨1, [by'], 0, 0⟩ : Ph), (Value.slice (some ⟨W2.heap.size, 0, none⟩) 1 1))] : List (Ph × Value)).flatMap phCells) rfl (W3.alloc (.cells (ints [k / 65536, k / 256 % 256, k % 256]).toArray 3)) (phCells (⟨ad, [k / 65536, k / 256 % 256, k % 256], 0, 0⟩, .slice (some ⟨W3.heap.size, 0, none⟩) 3 3)) rfl (phCells_one _ _ _ _) ⟨rfl, rfl, rfl⟩ (own_upd HC.out.phGet ((Upd.refl none' W3).alloc _) (fun _ _ f => f)) (by rw [hsz4]; rfl) (by decide) ?_); intro g4 cp4 W4 hRn hUn hgn hgln)
  have hCn := Ctx.phStep HQ.out (HC.out.lit (ints [k / 65536, k / 256 % 256, k % 256]) 3 3 rfl (by decide)) hRn hUn (fun k hk => by simp only [Value.ownBlock, Option.some.injEq] at hk; rw [← hk]; exact hgn)
  have hBn := (HB.out.alloc (.cells (ints [k / 65536, k / 256 % 256, k % 256]).toArray 3)).upd hUn (fun e => by simp only [Value.ownBlock, Option.some.injEq] at e; omega)
  have hkn : kb < g4 := by
    have := (HB.out.alloc (.cells (ints [k / 65536, k / 256 % 256, k % 256]).toArray 3)).lt
    rcases hgn with e | e
    · simp only [Value.ownBlock, Option.some.injEq] at e; omega
    · omega
  clear HC HB c0 c1 c2 c3 c4 c5 hRn hUn hgn hgln
  have HC : Hid (Ctx P ((RowF (.slice (some ⟨g4, 0, none⟩) 2 cp4) 2 (([((⟨1, [by'], 0, 0⟩ : Ph), (Value.slice (some ⟨W2.heap.size, 0, none⟩) 1 1)), ((⟨ad, [k / 65536, k / 256 % 256, k % 256], 0, 0⟩ : Ph), (Value.slice (some ⟨W3.heap.size, 0, none⟩) 3 3 : Value))] : List (Ph × Value)).flatMap phCells)).star Q) w0 W4 _) := Lib.hid hCn
  have HB := Lib.hid hBn
  clear hCn hBn
  have hbx := HB.out
  have c0 := hbx.cell 0
  have c1 := hbx.cell 1
  have c2 := hbx.cell 2
  have c3 := hbx.cell 3
  have c4 := hbx.cell 4
  have c5 := hbx.cell 5
  simp only [List.getElem?_cons_succ, List.getElem?_cons_zero] at c0 c1 c2 c3 c4 c5
  clear hbx
  go_upto_region 12 with (at_builtin; go_must (refine wpList_ph1 rfl _ _ rfl (.slice (some ⟨g4, 0, none⟩) 2 cp4) 2 (([((⟨1, [by'], 0, 0⟩ : Ph), (Value.slice (some ⟨W2.heap.size, 0, none⟩) 1 1)), ((⟨ad, [k / 65536, k / 256 % 256, k % 256], 0, 0⟩ : Ph), (Value.slice (some ⟨W3.heap.size, 0, none⟩) 3 3 : Value))] : List (Ph × Value)).flatMap phCells) rfl W4 (phCells (⟨0, [], du, 0⟩, .slice none 0 0)) rfl (phCells_one _ _ _ _) ⟨rfl, rfl, rfl⟩ HC.out.phGet rfl (by decide) ?_); intro g5 cp5 W5 hRn hUn hgn hgln)
  have hCn := Ctx.phStep HQ.out (HC.out) hRn hUn (fun k hk => by simp only [Value.ownBlock, Option.some.injEq] at hk; rw [← hk]; exact hgn)
  have hBn := (HB.out).upd hUn (fun e => by simp only [Value.ownBlock, Option.some.injEq] at e; omega)
  have hkn : kb < g5 := by
    have := (HB.out).lt
    rcases hgn with e | e
    · simp only [Value.ownBlock, Option.some.injEq] at e; omega
    · omega
  clear HC HB c0 c1 c2 c3 c4 c5 hRn hUn hgn hgln
  have HC : Hid (Ctx P ((RowF (.slice (some ⟨g5, 0, none⟩) 3 cp5) 3 (([((⟨1, [by'], 0, 0⟩ : Ph), (Value.slice (some ⟨W2.heap.size, 0, none⟩) 1 1)), ((⟨ad, [k / 65536, k / 256 % 256, k % 256], 0, 0⟩ : Ph), (Value.slice (some ⟨W3.heap.size, 0, none⟩) 3 3 : Value)), ((⟨0, [], du, 0⟩ : Ph), (Value.slice none 0 0 : Value))] : List (Ph × Value)).flatMap phCells)).star Q) w0 W5 _) := Lib.hid hCn
  have HB := Lib.hid hBn
  clear hCn hBn
  have hbx := HB.out
  have c0 := hbx.cell 0
  have c1 := hbx.cell 1
  have c2 := hbx.cell 2
  have c3 := hbx.cell 3
  have c4 := hbx.cell 4
  have c5 := hbx.cell 5
  simp only [List.getElem?_cons_succ, List.getElem?_cons_zero] at c0 c1 c2 c3 c4 c5
  clear hbx
  go_upto_region 16 with fail
  clear c0 c1 c2 c3 c4 c5 HB
  have hfin := Ctx.phDone HQ.out HC.out (by decide) (by
    intro x hx
    simp only [List.mem_cons, List.not_mem_nil, or_false] at hx
    rcases hx with rfl | rfl | rfl
    all_goals repeat (first | exact List.mem_cons_self | apply List.mem_cons_of_mem))
  have HFIN := Lib.hid hfin
  clear hfin HC
  go_wp2
  go_ret2
  exact ⟨g5, 3, cp5, [((⟨1, [by'], 0, 0⟩ : Ph), (Value.slice (some ⟨W2.heap.size, 0, none⟩) 1 1)), ((⟨ad, [k / 65536, k / 256 % 256, k % 256], 0, 0⟩ : Ph), (Value.slice (some ⟨W3.heap.size, 0, none⟩) 3 3 : Value)), ((⟨0, [], du, 0⟩ : Ph), (Value.slice none 0 0 : Value))], _ :: [(.slice (some ⟨W3.heap.size, 0, none⟩) 3 3, ints [k / 65536, k / 256 % 256, k % 256]), (.slice none 0 0, ints []), (.slice (some ⟨W2.heap.size, 0, none⟩) 1 1, ints [by'])], rfl, by rw [HRES.out]; rfl, HFIN.out.1, HFIN.out.2⟩
set_option maxRecDepth 100000 in
set_option maxHeartbeats 8000000 in
theorem cmd_101n1 {P Q : Own} (hQ : Q.Ok) {w0 w : World} {rows : List (Value × List Value)} (hC : Ctx P Q w0 w rows) (o : POp) (hop : opOf o.byte = o) (hoi : opIs o.byte = true) (k : Int) (hk : 0 ≤ k ∧ k < 4096) (a : Option Addr) (c : Nat) (data : List Int) (hd : (.slice a data.length c, ints data) ∈ rows) (hlen : data.length ≤ 512) (hby : data.any notB = false) (read : Int) (hr : 0 ≤ read ∧ read ≤ 512) (hfit : fitsB o data.length read = true) (hA : 0 < o.addr) (hM : o.mode = false) (hD : 0 < o.dummy) (hI : o.inn = false) (hR : 0 < read) :
    Calls Tryz.prog 126 #[.agg o.cells, .int .i64 k, .slice a data.length c, .int .i64 read] w fun e w' => ∃ g m cap L rows', e = .returned (.tuple #[.slice (some ⟨g, 0, none⟩) m cap, .int .i64 0]) ∧ L.map Prod.fst = cmdPhs o k data read ∧ Ctx P Q w0 w' (rows' ++ rows) ∧ PhsV (rows' ++ rows) (.slice (some ⟨g, 0, none⟩) m cap) L := by
  have hres : cmdPhs o k data read = [⟨1, [o.byte], 0, 0⟩, ⟨o.addr, [k / 65536, k / 256 % 256, k % 256], 0, 0⟩, ⟨0, [], o.dummy, 0⟩, ⟨o.data, [], 0, read⟩] := by
    unfold cmdPhs
    rw [if_pos hA, if_neg (show ¬ o.mode = true by rw [hM]; decide), if_pos hD, if_neg (show ¬ (o.inn = true ∧ data ≠ []) by rw [hI]; simp), if_pos hR]
    rfl
  have hof := op_of o.byte hoi
  rw [hop] at hof
  obtain ⟨by', ad, mo, du, da, inn⟩ := o
  unfold POp.cells at hof ⊢
  dsimp only at hof hres hA hM hD hI hop hoi ⊢
  have hfi := fun (w : World) (kk : Nat) h2 h4 h5 => tab_fits w kk ⟨by', ad, mo, du, da, inn⟩ data.length read h2 h4 h5
  rw [hfit] at hfi
  dsimp only at hfi
  have HFI := Lib.hid hfi
  have HRES := Lib.hid hres
  have HQ := Lib.hid hQ
  have HBY := Lib.hid hby
  have HDD := Lib.hid hd
  have HC := Lib.hid hC
  have ha1 := i64_and255 k
  have ha2 := i64_and255 (k / 256)
  subst hM
  subst hI
  have hA2 : (ad == 0) = false := by simp; omega
  clear hop hoi hfit hd hQ hC hres hfi hby
  go_enter Tryz.func126, Tryz.ntmps126
  obtain ⟨kb, hkb⟩ : ∃ kb, w.heap.size = kb := ⟨_, rfl⟩
  go_upto_region 5 with (first | (go_at_call 179; refine (hof _).mono ?_; rintro e w1 ⟨rfl, hU1⟩; have hb1 := (Blk.new w [.int .i64 by', .int .i64 ad, .bool false, .int .i64 du, .int .i64 da, .bool false] 52).upd hU1 (fun f => f); rw [hkb] at hb1; have hC1 := (HC.out.alloc (.cells #[.int .i64 by', .int .i64 ad, .bool false, .int .i64 du, .int .i64 da, .bool false] 52)).frame hU1; have hC2 := hC1.alloc (.cells #[.int .i64 by', .int .i64 ad, .bool false, .int .i64 du, .int .i64 da, .bool false] 52); have hb2 := hb1.alloc (.cells #[.int .i64 by', .int .i64 ad, .bool false, .int .i64 du, .int .i64 da, .bool false] 52); clear hb1 hC1 hU1; have hrs2 := hC2.rs_mem HDD.out; have c0 := hb2.cell 0; have c1 := hb2.cell 1; have c2 := hb2.cell 2; have c3 := hb2.cell 3; have c4 := hb2.cell 4; have c5 := hb2.cell 5; simp only [List.getElem?_cons_succ, List.getElem?_cons_zero] at c0 c1 c2 c3 c4 c5; have HC2 := Lib.hid hC2; have HB2 := Lib.hid hb2; have hcon := contains_tcmd _ _ data hrs2; rw [HBY.out] at hcon; have HCON := Lib.hid hcon; have HFI2 := Lib.hid (HFI.out _ kb c2 c4 c5); clear hC2 hb2 hrs2 hcon) | (go_at_call 104; refine HCON.out.mono ?_; rintro e w2 ⟨rfl, rfl⟩) | (go_at_call 181; refine HFI2.out.mono ?_; rintro e w2 ⟨rfl, rfl⟩))
  clear HCON HFI2 HFI HBY hof c1 c2 c3 c4 c5
  generalize w1.alloc (.cells #[.int .i64 by', .int .i64 ad, .bool false, .int .i64 du, .int .i64 da, .bool false] 52) = W2 at *
  clear hkb
  have hklt := HB2.out.lt
  have hA1 := (HC2.out.lit (ints [by']) 3 1 rfl (by decide)).nilrow
  have hs1 : (W2.alloc (.cells (ints [by']).toArray 3)).heap.size = W2.heap.size + 1 := by simp
  have hC3 := hA1.phNew (phCells (⟨1, [by'], 0, 0⟩, .slice (some ⟨W2.heap.size, 0, none⟩) 1 1)) rfl
  rw [hs1] at hC3
  have HC3 := Lib.hid hC3
  have HB := Lib.hid ((HB2.out.alloc (.cells (ints [by']).toArray 3)).alloc (.cells (phCells (⟨1, [by'], 0, 0⟩, .slice (some ⟨W2.heap.size, 0, none⟩) 1 1)).toArray 156))
  clear hC3 hA1 HC2 HB2
  go_upto_region 6 with fail
  clear c0
  have hg2 : kb < W2.heap.size + 1 := by omega
  obtain ⟨g2, hgg2⟩ : ∃ g2, W2.heap.size + 1 = g2 := ⟨_, rfl⟩
  rw [hgg2] at HC3 hg2 ⊢
  obtain ⟨cp2, hcp2⟩ : ∃ cp2 : Nat, cp2 = 1 := ⟨_, rfl⟩
  have HC3' : Hid (Ctx P ((RowF (.slice (some ⟨g2, 0, none⟩) 1 1) 1 (([((⟨1, [by'], 0, 0⟩ : Ph), (Value.slice (some ⟨W2.heap.size, 0, none⟩) 1 1))] : List (Ph × Value)).flatMap phCells)).star Q) w0 ((W2.alloc (.cells (ints [by']).toArray 3)).alloc (.cells (phCells (⟨1, [by'], 0, 0⟩, .slice (some ⟨W2.heap.size, 0, none⟩) 1 1)).toArray 156)) (((.slice none 0 0, ints []) :: (.slice (some ⟨W2.heap.size, 0, none⟩) 1 1, ints [by']) :: rows))) := HC3
  obtain ⟨W3, hW3⟩ : ∃ W3, (W2.alloc (.cells (ints [by']).toArray 3)).alloc (.cells (phCells (⟨1, [by'], 0, 0⟩, .slice (some ⟨W2.heap.size, 0, none⟩) 1 1)).toArray 156) = W3 := ⟨_, rfl⟩
  rw [hW3] at HC3' HB
  change Code.wp _ _ _ _ ((W2.alloc (.cells (ints [by']).toArray 3)).alloc (.cells (phCells (⟨1, [by'], 0, 0⟩, .slice (some ⟨W2.heap.size, 0, none⟩) 1 1)).toArray 156))
  rw [hW3]
  clear HC3 hW3 hgg2 hs1 hcp2 cp2 hklt
  have HC := HC3'
  clear HC3'

  have hbx := HB.out
  have c0 := hbx.cell 0
  have c1 := hbx.cell 1
  have c2 := hbx.cell 2
  have c3 := hbx.cell 3
  have c4 := hbx.cell 4
  have c5 := hbx.cell 5
  simp only [List.getElem?_cons_succ, List.getElem?_cons_zero] at c0 c1 c2 c3 c4 c5
  clear hbx
  have hsz4 : (W3.alloc (.cells (ints [k / 65536, k / 256 % 256, k % 256]).toArray 3)).heap.size = W3.heap.size + 1 := by simp
  go_upto_region 8 with (at_builtin; go_must (refine wpList_ph1 rfl _ _ rfl (.slice (some ⟨g2, 0, none⟩) 1 1) 1 (([((⟨1, [by'], 0, 0⟩ : Ph), (Value.slice (some ⟨W2.heap.size, 0, none⟩) 1 1))] : List (Ph × Value)).flatMap phCells) rfl (W3.alloc (.cells (ints [k / 65536, k / 256 % 256, k % 256]).toArray 3)) (phCells (⟨ad, [k / 65536, k / 256 % 256, k % 256], 0, 0⟩, .slice (some ⟨W3.heap.size, 0, none⟩) 3 3)) rfl (phCells_one _ _ _ _) ⟨rfl, rfl, rfl⟩ (own_upd HC.out.phGet ((Upd.refl none' W3).alloc _) (fun _ _ f => f)) (by rw [hsz4]; rfl) (by decide) ?_); intro g4 cp4 W4 hRn hUn hgn hgln)
  have hCn := Ctx.phStep HQ.out (HC.out.lit (ints [k / 65536, k / 256 % 256, k % 256]) 3 3 rfl (by decide)) hRn hUn (fun k hk => by simp only [Value.ownBlock, Option.some.injEq] at hk; rw [← hk]; exact hgn)
  have hBn := (HB.out.alloc (.cells (ints [k / 65536, k / 256 % 256, k % 256]).toArray 3)).upd hUn (fun e => by simp only [Value.ownBlock, Option.some.injEq] at e; omega)
  have hkn : kb < g4 := by
    have := (HB.out.alloc (.cells (ints [k / 65536, k / 256 % 256, k % 256]).toArray 3)).lt
    rcases hgn with e | e
    · simp only [Value.ownBlock, Option.some.injEq] at e; omega
    · omega
  clear HC HB c0 c1 c2 c3 c4 c5 hRn hUn hgn hgln
  have HC : Hid (Ctx P ((RowF (.slice (some ⟨g4, 0, none⟩) 2 cp4) 2 (([((⟨1, [by'], 0, 0⟩ : Ph), (Value.slice (some ⟨W2.heap.size, 0, none⟩) 1 1)), ((⟨ad, [k / 65536, k / 256 % 256, k % 256], 0, 0⟩ : Ph), (Value.slice (some ⟨W3.heap.size, 0, none⟩) 3 3 : Value))] : List (Ph × Value)).flatMap phCells)).star Q) w0 W4 _) := Lib.hid hCn
  have HB := Lib.hid hBn
  clear hCn hBn
  have hbx := HB.out
  have c0 := hbx.cell 0
  have c1 := hbx.cell 1
  have c2 := hbx.cell 2
  have c3 := hbx.cell 3
  have c4 := hbx.cell 4
  have c5 := hbx.cell 5
  simp only [List.getElem?_cons_succ, List.getElem?_cons_zero] at c0 c1 c2 c3 c4 c5
  clear hbx
  go_upto_region 12 with (at_builtin; go_must (refine wpList_ph1 rfl _ _ rfl (.slice (some ⟨g4, 0, none⟩) 2 cp4) 2 (([((⟨1, [by'], 0, 0⟩ : Ph), (Value.slice (some ⟨W2.heap.size, 0, none⟩) 1 1)), ((⟨ad, [k / 65536, k / 256 % 256, k % 256], 0, 0⟩ : Ph), (Value.slice (some ⟨W3.heap.size, 0, none⟩) 3 3 : Value))] : List (Ph × Value)).flatMap phCells) rfl W4 (phCells (⟨0, [], du, 0⟩, .slice none 0 0)) rfl (phCells_one _ _ _ _) ⟨rfl, rfl, rfl⟩ HC.out.phGet rfl (by decide) ?_); intro g5 cp5 W5 hRn hUn hgn hgln)
  have hCn := Ctx.phStep HQ.out (HC.out) hRn hUn (fun k hk => by simp only [Value.ownBlock, Option.some.injEq] at hk; rw [← hk]; exact hgn)
  have hBn := (HB.out).upd hUn (fun e => by simp only [Value.ownBlock, Option.some.injEq] at e; omega)
  have hkn : kb < g5 := by
    have := (HB.out).lt
    rcases hgn with e | e
    · simp only [Value.ownBlock, Option.some.injEq] at e; omega
    · omega
  clear HC HB c0 c1 c2 c3 c4 c5 hRn hUn hgn hgln
  have HC : Hid (Ctx P ((RowF (.slice (some ⟨g5, 0, none⟩) 3 cp5) 3 (([((⟨1, [by'], 0, 0⟩ : Ph), (Value.slice (some ⟨W2.heap.size, 0, none⟩) 1 1)), ((⟨ad, [k / 65536, k / 256 % 256, k % 256], 0, 0⟩ : Ph), (Value.slice (some ⟨W3.heap.size, 0, none⟩) 3 3 : Value)), ((⟨0, [], du, 0⟩ : Ph), (Value.slice none 0 0 : Value))] : List (Ph × Value)).flatMap phCells)).star Q) w0 W5 _) := Lib.hid hCn
  have HB := Lib.hid hBn
  clear hCn hBn
  have hbx := HB.out
  have c0 := hbx.cell 0
  have c1 := hbx.cell 1
  have c2 := hbx.cell 2
  have c3 := hbx.cell 3
  have c4 := hbx.cell 4
  have c5 := hbx.cell 5
  simp only [List.getElem?_cons_succ, List.getElem?_cons_zero] at c0 c1 c2 c3 c4 c5
  clear hbx
  go_upto_region 16 with (at_builtin; go_must (refine wpList_ph1 rfl _ _ rfl (.slice (some ⟨g5, 0, none⟩) 3 cp5) 3 (([((⟨1, [by'], 0, 0⟩ : Ph), (Value.slice (some ⟨W2.heap.size, 0, none⟩) 1 1)), ((⟨ad, [k / 65536, k / 256 % 256, k % 256], 0, 0⟩ : Ph), (Value.slice (some ⟨W3.heap.size, 0, none⟩) 3 3 : Value)), ((⟨0, [], du, 0⟩ : Ph), (Value.slice none 0 0 : Value))] : List (Ph × Value)).flatMap phCells) rfl W5 (phCells (⟨da, [], 0, read⟩, .slice none 0 0)) rfl (phCells_one _ _ _ _) ⟨rfl, rfl, rfl⟩ HC.out.phGet rfl (by decide) ?_); intro g6 cp6 W6 hRn hUn hgn hgln)
  have hCn := Ctx.phStep HQ.out (HC.out) hRn hUn (fun k hk => by simp only [Value.ownBlock, Option.some.injEq] at hk; rw [← hk]; exact hgn)
  have hBn := (HB.out).upd hUn (fun e => by simp only [Value.ownBlock, Option.some.injEq] at e; omega)
  have hkn : kb < g6 := by
    have := (HB.out).lt
    rcases hgn with e | e
    · simp only [Value.ownBlock, Option.some.injEq] at e; omega
    · omega
  clear HC HB c0 c1 c2 c3 c4 c5 hRn hUn hgn hgln
  have HC : Hid (Ctx P ((RowF (.slice (some ⟨g6, 0, none⟩) 4 cp6) 4 (([((⟨1, [by'], 0, 0⟩ : Ph), (Value.slice (some ⟨W2.heap.size, 0, none⟩) 1 1)), ((⟨ad, [k / 65536, k / 256 % 256, k % 256], 0, 0⟩ : Ph), (Value.slice (some ⟨W3.heap.size, 0, none⟩) 3 3 : Value)), ((⟨0, [], du, 0⟩ : Ph), (Value.slice none 0 0 : Value)), ((⟨da, [], 0, read⟩ : Ph), (Value.slice none 0 0 : Value))] : List (Ph × Value)).flatMap phCells)).star Q) w0 W6 _) := Lib.hid hCn
  have HB := Lib.hid hBn
  clear hCn hBn
  have hbx := HB.out
  have c0 := hbx.cell 0
  have c1 := hbx.cell 1
  have c2 := hbx.cell 2
  have c3 := hbx.cell 3
  have c4 := hbx.cell 4
  have c5 := hbx.cell 5
  simp only [List.getElem?_cons_succ, List.getElem?_cons_zero] at c0 c1 c2 c3 c4 c5
  clear hbx
  go_upto_region 16 with fail
  clear c0 c1 c2 c3 c4 c5 HB
  have hfin := Ctx.phDone HQ.out HC.out (by decide) (by
    intro x hx
    simp only [List.mem_cons, List.not_mem_nil, or_false] at hx
    rcases hx with rfl | rfl | rfl | rfl
    all_goals repeat (first | exact List.mem_cons_self | apply List.mem_cons_of_mem))
  have HFIN := Lib.hid hfin
  clear hfin HC
  go_wp2
  go_ret2
  exact ⟨g6, 4, cp6, [((⟨1, [by'], 0, 0⟩ : Ph), (Value.slice (some ⟨W2.heap.size, 0, none⟩) 1 1)), ((⟨ad, [k / 65536, k / 256 % 256, k % 256], 0, 0⟩ : Ph), (Value.slice (some ⟨W3.heap.size, 0, none⟩) 3 3 : Value)), ((⟨0, [], du, 0⟩ : Ph), (Value.slice none 0 0 : Value)), ((⟨da, [], 0, read⟩ : Ph), (Value.slice none 0 0 : Value))], _ :: [(.slice (some ⟨W3.heap.size, 0, none⟩) 3 3, ints [k / 65536, k / 256 % 256, k % 256]), (.slice none 0 0, ints []), (.slice (some ⟨W2.heap.size, 0, none⟩) 1 1, ints [by'])], rfl, by rw [HRES.out]; rfl, HFIN.out.1, HFIN.out.2⟩
end Go.Proofs.YteombggfmeilaaaGreat
namespace Go.Proofs.YteombggfmeilaaaGreat
open Go.RowKit
set_option maxRecDepth 100000 in
set_option maxHeartbeats 8000000 in
theorem cmd_111n0 {P Q : Own} (hQ : Q.Ok) {w0 w : World} {rows : List (Value × List Value)} (hC : Ctx P Q w0 w rows) (o : POp) (hop : opOf o.byte = o) (hoi : opIs o.byte = true) (k : Int) (hk : 0 ≤ k ∧ k < 4096) (a : Option Addr) (c : Nat) (data : List Int) (hd : (.slice a data.length c, ints data) ∈ rows) (hlen : data.length ≤ 512) (hby : data.any notB = false) (read : Int) (hr : 0 ≤ read ∧ read ≤ 512) (hfit : fitsB o data.length read = true) (hA : 0 < o.addr) (hM : o.mode = true) (hD : 0 < o.dummy) (hI : o.inn = false) (hR : read = 0) (hdm : data ≠ []) :
    Calls Tryz.prog 126 #[.agg o.cells, .int .i64 k, .slice a data.length c, .int .i64 read] w fun e w' => ∃ g m cap L rows', e = .returned (.tuple #[.slice (some ⟨g, 0, none⟩) m cap, .int .i64 0]) ∧ L.map Prod.fst = cmdPhs o k data read ∧ Ctx P Q w0 w' (rows' ++ rows) ∧ PhsV (rows' ++ rows) (.slice (some ⟨g, 0, none⟩) m cap) L := by
  have hres : cmdPhs o k data read = [⟨1, [o.byte], 0, 0⟩, ⟨o.addr, [k / 65536, k / 256 % 256, k % 256], 0, 0⟩, ⟨o.addr, data, 0, 0⟩, ⟨0, [], o.dummy, 0⟩] := by
    unfold cmdPhs
    rw [if_pos hA, if_pos hM, if_pos hD, if_neg (show ¬ (o.inn = true ∧ data ≠ []) by rw [hI]; simp), if_neg (show ¬ 0 < read by omega)]
    rfl
  have hof := op_of o.byte hoi
  rw [hop] at hof
  obtain ⟨by', ad, mo, du, da, inn⟩ := o
  unfold POp.cells at hof ⊢
  dsimp only at hof hres hA hM hD hI hop hoi ⊢
  have hfi := fun (w : World) (kk : Nat) h2 h4 h5 => tab_fits w kk ⟨by', ad, mo, du, da, inn⟩ data.length read h2 h4 h5
  rw [hfit] at hfi
  dsimp only at hfi
  have HFI := Lib.hid hfi
  have HRES := Lib.hid hres
  have HQ := Lib.hid hQ
  have HBY := Lib.hid hby
  have HDD := Lib.hid hd
  have HC := Lib.hid hC
  have ha1 := i64_and255 k
  have ha2 := i64_and255 (k / 256)
  subst hM
  subst hI
  subst hR
  have hA2 : (ad == 0) = false := by simp; omega
  have HCLN : Hid (∀ w1, RS w1 (.slice a data.length c) (ints data) → Calls Tryz.prog 105 #[.slice a data.length c] w1 fun e w' => ∃ va vc, e = .returned (.slice va data.length vc) ∧ Row w' 3 (.slice va data.length vc) (ints data) ∧ (∀ k, (Value.slice va data.length vc).ownBlock = some k → w1.heap.size ≤ k ∧ k < w'.heap.size) ∧ Upd none' w1 w') := Lib.hid (by
    intro w1 hrs
    refine (clone_ints w1 _ data hrs hdm (by omega)).mono ?_
    rintro e w' ⟨v', rfl, hR, hf, hU⟩
    have hl := hR.lt
    obtain ⟨va, vc, rfl, -⟩ := hR.form
    rw [ints_len] at hR hf hl ⊢
    exact ⟨va, vc, rfl, hR, fun k hk => ⟨hf k hk, hl k hk⟩, hU⟩)
  have hdl : 0 < data.length := List.length_pos_iff.2 hdm
  clear hop hoi hfit hd hQ hC hres hfi hby
  go_enter Tryz.func126, Tryz.ntmps126
  obtain ⟨kb, hkb⟩ : ∃ kb, w.heap.size = kb := ⟨_, rfl⟩
  go_upto_region 5 with (first | (go_at_call 179; refine (hof _).mono ?_; rintro e w1 ⟨rfl, hU1⟩; have hb1 := (Blk.new w [.int .i64 by', .int .i64 ad, .bool true, .int .i64 du, .int .i64 da, .bool false] 52).upd hU1 (fun f => f); rw [hkb] at hb1; have hC1 := (HC.out.alloc (.cells #[.int .i64 by', .int .i64 ad, .bool true, .int .i64 du, .int .i64 da, .bool false] 52)).frame hU1; have hC2 := hC1.alloc (.cells #[.int .i64 by', .int .i64 ad, .bool true, .int .i64 du, .int .i64 da, .bool false] 52); have hb2 := hb1.alloc (.cells #[.int .i64 by', .int .i64 ad, .bool true, .int .i64 du, .int .i64 da, .bool false] 52); clear hb1 hC1 hU1; have hrs2 := hC2.rs_mem HDD.out; have c0 := hb2.cell 0; have c1 := hb2.cell 1; have c2 := hb2.cell 2; have c3 := hb2.cell 3; have c4 := hb2.cell 4; have c5 := hb2.cell 5; simp only [List.getElem?_cons_succ, List.getElem?_cons_zero] at c0 c1 c2 c3 c4 c5; have HC2 := Lib.hid hC2; have HB2 := Lib.hid hb2; have hcon := contains_tcmd _ _ data hrs2; rw [HBY.out] at hcon; have HCON := Lib.hid hcon; have HFI2 := Lib.hid (HFI.out _ kb c2 c4 c5); clear hC2 hb2 hrs2 hcon) | (go_at_call 104; refine HCON.out.mono ?_; rintro e w2 ⟨rfl, rfl⟩) | (go_at_call 181; refine HFI2.out.mono ?_; rintro e w2 ⟨rfl, rfl⟩))
  clear HCON HFI2 HFI HBY hof c1 c2 c3 c4 c5
  generalize w1.alloc (.cells #[.int .i64 by', .int .i64 ad, .bool true, .int .i64 du, .int .i64 da, .bool false] 52) = W2 at *
  clear hkb
  have hklt := HB2.out.lt
  have hA1 := (HC2.out.lit (ints [by']) 3 1 rfl (by decide)).nilrow
  have hs1 : (W2.alloc (.cells (ints [by']).toArray 3)).heap.size = W2.heap.size + 1 := by simp
  have hC3 := hA1.phNew (phCells (⟨1, [by'], 0, 0⟩, .slice (some ⟨W2.heap.size, 0, none⟩) 1 1)) rfl
  rw [hs1] at hC3
  have HC3 := Lib.hid hC3
  have HB := Lib.hid ((HB2.out.alloc (.cells (ints [by']).toArray 3)).alloc (.cells (phCells (⟨1, [by'], 0, 0⟩, .slice (some ⟨W2.heap.size, 0, none⟩) 1 1)).toArray 156))
  clear hC3 hA1 HC2 HB2
  go_upto_region 6 with fail
  clear c0
  have hg2 : kb < W2.heap.size + 1 := by omega
  obtain ⟨g2, hgg2⟩ : ∃ g2, W2.heap.size + 1 = g2 := ⟨_, rfl⟩
  rw [hgg2] at HC3 hg2 ⊢
  obtain ⟨cp2, hcp2⟩ : ∃ cp2 : Nat, cp2 = 1 := ⟨_, rfl⟩
  have HC3' : Hid (Ctx P ((RowF (.slice (some ⟨g2, 0, none⟩) 1 1) 1 (([((⟨1, [by'], 0, 0⟩ : Ph), (Value.slice (some ⟨W2.heap.size, 0, none⟩) 1 1))] : List (Ph × Value)).flatMap phCells)).star Q) w0 ((W2.alloc (.cells (ints [by']).toArray 3)).alloc (.cells (phCells (⟨1, [by'], 0, 0⟩, .slice (some ⟨W2.heap.size, 0, none⟩) 1 1)).toArray 156)) (((.slice none 0 0, ints []) :: (.slice (some ⟨W2.heap.size, 0, none⟩) 1 1, ints [by']) :: rows))) := HC3
  obtain ⟨W3, hW3⟩ : ∃ W3, (W2.alloc (.cells (ints [by']).toArray 3)).alloc (.cells (phCells (⟨1, [by'], 0, 0⟩, .slice (some ⟨W2.heap.size, 0, none⟩) 1 1)).toArray 156) = W3 := ⟨_, rfl⟩
  rw [hW3] at HC3' HB
  change Code.wp _ _ _ _ ((W2.alloc (.cells (ints [by']).toArray 3)).alloc (.cells (phCells (⟨1, [by'], 0, 0⟩, .slice (some ⟨W2.heap.size, 0, none⟩) 1 1)).toArray 156))
  rw [hW3]
  clear HC3 hW3 hgg2 hs1 hcp2 cp2 hklt
  have HC := HC3'
  clear HC3'

  have hbx := HB.out
  have c0 := hbx.cell 0
  have c1 := hbx.cell 1
  have c2 := hbx.cell 2
  have c3 := hbx.cell 3
  have c4 := hbx.cell 4
  have c5 := hbx.cell 5
  simp only [List.getElem?_cons_succ, List.getElem?_cons_zero] at c0 c1 c2 c3 c4 c5
  clear hbx
  have hsz4 : (W3.alloc (.cells (ints [k / 65536, k / 256 % 256, k % 256]).toArray 3)).heap.size = W3.heap.size + 1 := by simp
  go_upto_region 8 with (at_builtin; go_must (refine wpList_ph1 rfl _ _ rfl (.slice (some ⟨g2, 0, none⟩) 1 1) 1 (([((⟨1, [by'], 0, 0⟩ : Ph), (Value.slice (some ⟨W2.heap.size, 0, none⟩) 1 1))] : List (Ph × Value)).flatMap phCells) rfl (W3.alloc (.cells (ints [k / 65536, k / 256 % 256, k % 256]).toArray 3)) (phCells (⟨ad, [k / 65536, k / 256 % 256, k % 256], 0, 0⟩, .slice (some ⟨W3.heap.size, 0, none⟩) 3 3)) rfl (phCells_one _ _ _ _) ⟨rfl, rfl, rfl⟩ (own_upd HC.out.phGet ((Upd.refl none' W3).alloc _) (fun _ _ f => f)) (by rw [hsz4]; rfl) (by decide) ?_); intro g4 cp4 W4 hRn hUn hgn hgln)
  have hCn := Ctx.phStep HQ.out (HC.out.lit (ints [k / 65536, k / 256 % 256, k % 256]) 3 3 rfl (by decide)) hRn hUn (fun k hk => by simp only [Value.ownBlock, Option.some.injEq] at hk; rw [← hk]; exact hgn)
  have hBn := (HB.out.alloc (.cells (ints [k / 65536, k / 256 % 256, k % 256]).toArray 3)).upd hUn (fun e => by simp only [Value.ownBlock, Option.some.injEq] at e; omega)
  have hkn : kb < g4 := by
    have := (HB.out.alloc (.cells (ints [k / 65536, k / 256 % 256, k % 256]).toArray 3)).lt
    rcases hgn with e | e
    · simp only [Value.ownBlock, Option.some.injEq] at e; omega
    · omega
  clear HC HB c0 c1 c2 c3 c4 c5 hRn hUn hgn hgln
  have HC : Hid (Ctx P ((RowF (.slice (some ⟨g4, 0, none⟩) 2 cp4) 2 (([((⟨1, [by'], 0, 0⟩ : Ph), (Value.slice (some ⟨W2.heap.size, 0, none⟩) 1 1)), ((⟨ad, [k / 65536, k / 256 % 256, k % 256], 0, 0⟩ : Ph), (Value.slice (some ⟨W3.heap.size, 0, none⟩) 3 3 : Value))] : List (Ph × Value)).flatMap phCells)).star Q) w0 W4 _) := Lib.hid hCn
  have HB := Lib.hid hBn
  clear hCn hBn
  have hbx := HB.out
  have c0 := hbx.cell 0
  have c1 := hbx.cell 1
  have c2 := hbx.cell 2
  have c3 := hbx.cell 3
  have c4 := hbx.cell 4
  have c5 := hbx.cell 5
  simp only [List.getElem?_cons_succ, List.getElem?_cons_zero] at c0 c1 c2 c3 c4 c5
  clear hbx
  go_upto_region 9 with fail
  have hmem : (Value.slice a data.length c, ints data) ∈ (((.slice (some ⟨W3.heap.size, 0, none⟩) 3 3 : Value), ints [k / 65536, k / 256 % 256, k % 256]) :: ((.slice none 0 0 : Value), ints []) :: ((.slice (some ⟨W2.heap.size, 0, none⟩) 1 1 : Value), ints [by']) :: rows) := by repeat (first | exact HDD.out | apply List.mem_cons_of_mem)
  have HRSC := Lib.hid (HC.out.drew.rs_mem hmem)
  clear hmem
  have HCH : Hid (∀ (V : World) (va : Option Addr) (vc : Nat), Row V 3 (.slice va data.length vc) (ints data) → (∀ k, (Value.slice va data.length vc).ownBlock = some k → W4.drew.heap.size ≤ k ∧ k < V.heap.size) → Upd none' W4.drew V → V.cell? ⟨kb, 1, none⟩ = some (.int .i64 ad) ∧ Hid (Ctx P ((RowF (.slice (some ⟨g4, 0, none⟩) 2 cp4) 2 (([((⟨1, [by'], 0, 0⟩ : Ph), (Value.slice (some ⟨W2.heap.size, 0, none⟩) 1 1)), ((⟨ad, [k / 65536, k / 256 % 256, k % 256], 0, 0⟩ : Ph), (Value.slice (some ⟨W3.heap.size, 0, none⟩) 3 3 : Value))] : List (Ph × Value)).flatMap phCells)).star Q) w0 V (((.slice va data.length vc : Value), ints data) :: (((.slice (some ⟨W3.heap.size, 0, none⟩) 3 3 : Value), ints [k / 65536, k / 256 % 256, k % 256]) :: ((.slice none 0 0 : Value), ints []) :: ((.slice (some ⟨W2.heap.size, 0, none⟩) 1 1 : Value), ints [by']) :: rows))) ∧ Hid (Blk V kb [.int .i64 by', .int .i64 ad, .bool true, .int .i64 du, .int .i64 da, .bool false] 52)) := Lib.hid (by
    intro V va vc hR hf hU
    have hb := HB.out.drew.upd hU (fun f => f)
    have hc := hb.cell 1
    simp only [List.getElem?_cons_succ, List.getElem?_cons_zero] at hc
    have hrs := hR.rs (by rw [ints_len]; omega)
    exact ⟨hc, Lib.hid (HC.out.drew.newRow hU hrs hf hR.mk), Lib.hid hb⟩)
  go_region_held3 (fun w' => w'.cell? ⟨kb, 1, none⟩ = some (.int .i64 ad)) (first | exact c1 | exact cc9 | exact (World.cell?_alloc_lt _ _ _ hl9).trans cc9 | exact (hUn.cell (p := ⟨kb, 1, none⟩) hl9 (fun e => by simp only [Value.ownBlock, Option.some.injEq] at e; omega)).trans cc9) (first | (go_at_call 105; refine (HCLN.out _ HRSC.out).mono ?_; rintro e V5 ⟨va9, vc9, rfl, hRc9, hfc9, hUc9⟩; obtain ⟨cc9, HCc9, HBc9⟩ := HCH.out _ _ _ hRc9 hfc9 hUc9; have hl9 := HBc9.out.lt; have hflag : True := trivial) | (clear hflag; go_must (refine step_ph1 rfl _ _ rfl (.slice (some ⟨g4, 0, none⟩) 2 cp4) 2 (([((⟨1, [by'], 0, 0⟩ : Ph), (Value.slice (some ⟨W2.heap.size, 0, none⟩) 1 1)), ((⟨ad, [k / 65536, k / 256 % 256, k % 256], 0, 0⟩ : Ph), (Value.slice (some ⟨W3.heap.size, 0, none⟩) 3 3 : Value))] : List (Ph × Value)).flatMap phCells) rfl V5 (phCells (⟨ad, data, 0, 0⟩, .slice va9 data.length vc9)) rfl (phCells_one _ _ _ _) ⟨rfl, rfl, rfl⟩ HCc9.out.phGet rfl (by decide) ?_); intro g5 cp5 W5 hRn hUn hgn hgln))
  have hCn := Ctx.phStep HQ.out (HCc9.out) hRn hUn (fun k hk => by simp only [Value.ownBlock, Option.some.injEq] at hk; rw [← hk]; exact hgn)
  have hBn := (HBc9.out).upd hUn (fun e => by simp only [Value.ownBlock, Option.some.injEq] at e; omega)
  have hkn : kb < g5 := by
    have := (HBc9.out).lt
    rcases hgn with e | e
    · simp only [Value.ownBlock, Option.some.injEq] at e; omega
    · omega
  clear HC HB c0 c1 c2 c3 c4 c5 hRn hUn hgn hgln
  have HC : Hid (Ctx P ((RowF (.slice (some ⟨g5, 0, none⟩) 3 cp5) 3 (([((⟨1, [by'], 0, 0⟩ : Ph), (Value.slice (some ⟨W2.heap.size, 0, none⟩) 1 1)), ((⟨ad, [k / 65536, k / 256 % 256, k % 256], 0, 0⟩ : Ph), (Value.slice (some ⟨W3.heap.size, 0, none⟩) 3 3 : Value)), ((⟨ad, data, 0, 0⟩ : Ph), (Value.slice va9 data.length vc9 : Value))] : List (Ph × Value)).flatMap phCells)).star Q) w0 W5 _) := Lib.hid hCn
  have HB := Lib.hid hBn
  clear hCn hBn
  have hbx := HB.out
  have c0 := hbx.cell 0
  have c1 := hbx.cell 1
  have c2 := hbx.cell 2
  have c3 := hbx.cell 3
  have c4 := hbx.cell 4
  have c5 := hbx.cell 5
  simp only [List.getElem?_cons_succ, List.getElem?_cons_zero] at c0 c1 c2 c3 c4 c5
  clear hbx
  go_upto_region 12 with (at_builtin; go_must (refine wpList_ph1 rfl _ _ rfl (.slice (some ⟨g5, 0, none⟩) 3 cp5) 3 (([((⟨1, [by'], 0, 0⟩ : Ph), (Value.slice (some ⟨W2.heap.size, 0, none⟩) 1 1)), ((⟨ad, [k / 65536, k / 256 % 256, k % 256], 0, 0⟩ : Ph), (Value.slice (some ⟨W3.heap.size, 0, none⟩) 3 3 : Value)), ((⟨ad, data, 0, 0⟩ : Ph), (Value.slice va9 data.length vc9 : Value))] : List (Ph × Value)).flatMap phCells) rfl W5 (phCells (⟨0, [], du, 0⟩, .slice none 0 0)) rfl (phCells_one _ _ _ _) ⟨rfl, rfl, rfl⟩ HC.out.phGet rfl (by decide) ?_); intro g6 cp6 W6 hRn hUn hgn hgln)
  have hCn := Ctx.phStep HQ.out (HC.out) hRn hUn (fun k hk => by simp only [Value.ownBlock, Option.some.injEq] at hk; rw [← hk]; exact hgn)
  have hBn := (HB.out).upd hUn (fun e => by simp only [Value.ownBlock, Option.some.injEq] at e; omega)
  have hkn : kb < g6 := by
    have := (HB.out).lt
    rcases hgn with e | e
    · simp only [Value.ownBlock, Option.some.injEq] at e; omega
    · omega
  clear HC HB c0 c1 c2 c3 c4 c5 hRn hUn hgn hgln
  have HC : Hid (Ctx P ((RowF (.slice (some ⟨g6, 0, none⟩) 4 cp6) 4 (([((⟨1, [by'], 0, 0⟩ : Ph), (Value.slice (some ⟨W2.heap.size, 0, none⟩) 1 1)), ((⟨ad, [k / 65536, k / 256 % 256, k % 256], 0, 0⟩ : Ph), (Value.slice (some ⟨W3.heap.size, 0, none⟩) 3 3 : Value)), ((⟨ad, data, 0, 0⟩ : Ph), (Value.slice va9 data.length vc9 : Value)), ((⟨0, [], du, 0⟩ : Ph), (Value.slice none 0 0 : Value))] : List (Ph × Value)).flatMap phCells)).star Q) w0 W6 _) := Lib.hid hCn
  have HB := Lib.hid hBn
  clear hCn hBn
  have hbx := HB.out
  have c0 := hbx.cell 0
  have c1 := hbx.cell 1
  have c2 := hbx.cell 2
  have c3 := hbx.cell 3
  have c4 := hbx.cell 4
  have c5 := hbx.cell 5
  simp only [List.getElem?_cons_succ, List.getElem?_cons_zero] at c0 c1 c2 c3 c4 c5
  clear hbx
  go_upto_region 16 with fail
  clear c0 c1 c2 c3 c4 c5 HB
  have hfin := Ctx.phDone HQ.out HC.out (by decide) (by
    intro x hx
    simp only [List.mem_cons, List.not_mem_nil, or_false] at hx
    rcases hx with rfl | rfl | rfl | rfl
    all_goals repeat (first | exact List.mem_cons_self | apply List.mem_cons_of_mem))
  have HFIN := Lib.hid hfin
  clear hfin HC
  go_wp2
  go_ret2
  exact ⟨g6, 4, cp6, [((⟨1, [by'], 0, 0⟩ : Ph), (Value.slice (some ⟨W2.heap.size, 0, none⟩) 1 1)), ((⟨ad, [k / 65536, k / 256 % 256, k % 256], 0, 0⟩ : Ph), (Value.slice (some ⟨W3.heap.size, 0, none⟩) 3 3 : Value)), ((⟨ad, data, 0, 0⟩ : Ph), (Value.slice va9 data.length vc9 : Value)), ((⟨0, [], du, 0⟩ : Ph), (Value.slice none 0 0 : Value))], _ :: [(.slice va9 data.length vc9, ints data), (.slice (some ⟨W3.heap.size, 0, none⟩) 3 3, ints [k / 65536, k / 256 % 256, k % 256]), (.slice none 0 0, ints []), (.slice (some ⟨W2.heap.size, 0, none⟩) 1 1, ints [by'])], rfl, by rw [HRES.out]; rfl, HFIN.out.1, HFIN.out.2⟩
set_option maxRecDepth 100000 in
set_option maxHeartbeats 8000000 in
theorem cmd_111n1 {P Q : Own} (hQ : Q.Ok) {w0 w : World} {rows : List (Value × List Value)} (hC : Ctx P Q w0 w rows) (o : POp) (hop : opOf o.byte = o) (hoi : opIs o.byte = true) (k : Int) (hk : 0 ≤ k ∧ k < 4096) (a : Option Addr) (c : Nat) (data : List Int) (hd : (.slice a data.length c, ints data) ∈ rows) (hlen : data.length ≤ 512) (hby : data.any notB = false) (read : Int) (hr : 0 ≤ read ∧ read ≤ 512) (hfit : fitsB o data.length read = true) (hA : 0 < o.addr) (hM : o.mode = true) (hD : 0 < o.dummy) (hI : o.inn = false) (hR : 0 < read) (hdm : data ≠ []) :
    Calls Tryz.prog 126 #[.agg o.cells, .int .i64 k, .slice a data.length c, .int .i64 read] w fun e w' => ∃ g m cap L rows', e = .returned (.tuple #[.slice (some ⟨g, 0, none⟩) m cap, .int .i64 0]) ∧ L.map Prod.fst = cmdPhs o k data read ∧ Ctx P Q w0 w' (rows' ++ rows) ∧ PhsV (rows' ++ rows) (.slice (some ⟨g, 0, none⟩) m cap) L := by
  have hres : cmdPhs o k data read = [⟨1, [o.byte], 0, 0⟩, ⟨o.addr, [k / 65536, k / 256 % 256, k % 256], 0, 0⟩, ⟨o.addr, data, 0, 0⟩, ⟨0, [], o.dummy, 0⟩, ⟨o.data, [], 0, read⟩] := by
    unfold cmdPhs
    rw [if_pos hA, if_pos hM, if_pos hD, if_neg (show ¬ (o.inn = true ∧ data ≠ []) by rw [hI]; simp), if_pos hR]
    rfl
  have hof := op_of o.byte hoi
  rw [hop] at hof
  obtain ⟨by', ad, mo, du, da, inn⟩ := o
  unfold POp.cells at hof ⊢
  dsimp only at hof hres hA hM hD hI hop hoi ⊢
  have hfi := fun (w : World) (kk : Nat) h2 h4 h5 => tab_fits w kk ⟨by', ad, mo, du, da, inn⟩ data.length read h2 h4 h5
  rw [hfit] at hfi
  dsimp only at hfi
  have HFI := Lib.hid hfi
  have HRES := Lib.hid hres
  have HQ := Lib.hid hQ
  have HBY := Lib.hid hby
  have HDD := Lib.hid hd
  have HC := Lib.hid hC
  have ha1 := i64_and255 k
  have ha2 := i64_and255 (k / 256)
  subst hM
  subst hI
  have hA2 : (ad == 0) = false := by simp; omega
  have HCLN : Hid (∀ w1, RS w1 (.slice a data.length c) (ints data) → Calls Tryz.prog 105 #[.slice a data.length c] w1 fun e w' => ∃ va vc, e = .returned (.slice va data.length vc) ∧ Row w' 3 (.slice va data.length vc) (ints data) ∧ (∀ k, (Value.slice va data.length vc).ownBlock = some k → w1.heap.size ≤ k ∧ k < w'.heap.size) ∧ Upd none' w1 w') := Lib.hid (by
    intro w1 hrs
    refine (clone_ints w1 _ data hrs hdm (by omega)).mono ?_
    rintro e w' ⟨v', rfl, hR, hf, hU⟩
    have hl := hR.lt
    obtain ⟨va, vc, rfl, -⟩ := hR.form
    rw [ints_len] at hR hf hl ⊢
    exact ⟨va, vc, rfl, hR, fun k hk => ⟨hf k hk, hl k hk⟩, hU⟩)
  have hdl : 0 < data.length := List.length_pos_iff.2 hdm
  clear hop hoi hfit hd hQ hC hres hfi hby
  go_enter Tryz.func126, Tryz.ntmps126
  obtain ⟨kb, hkb⟩ : ∃ kb, w.heap.size = kb := ⟨_, rfl⟩
  go_upto_region 5 with (first | (go_at_call 179; refine (hof _).mono ?_; rintro e w1 ⟨rfl, hU1⟩; have hb1 := (Blk.new w [.int .i64 by', .int .i64 ad, .bool true, .int .i64 du, .int .i64 da, .bool false] 52).upd hU1 (fun f => f); rw [hkb] at hb1; have hC1 := (HC.out.alloc (.cells #[.int .i64 by', .int .i64 ad, .bool true, .int .i64 du, .int .i64 da, .bool false] 52)).frame hU1; have hC2 := hC1.alloc (.cells #[.int .i64 by', .int .i64 ad, .bool true, .int .i64 du, .int .i64 da, .bool false] 52); have hb2 := hb1.alloc (.cells #[.int .i64 by', .int .i64 ad, .bool true, .int .i64 du, .int .i64 da, .bool false] 52); clear hb1 hC1 hU1; have hrs2 := hC2.rs_mem HDD.out; have c0 := hb2.cell 0; have c1 := hb2.cell 1; have c2 := hb2.cell 2; have c3 := hb2.cell 3; have c4 := hb2.cell 4; have c5 := hb2.cell 5; simp only [List.getElem?_cons_succ, List.getElem?_cons_zero] at c0 c1 c2 c3 c4 c5; have HC2 := Lib.hid hC2; have HB2 := Lib.hid hb2; have hcon := contains_tcmd _ _ data hrs2; rw [HBY.out] at hcon; have HCON := Lib.hid hcon; have HFI2 := Lib.hid (HFI.out _ kb c2 c4 c5); clear hC2 hb2 hrs2 hcon) | (go_at_call 104; refine HCON.out.mono ?_; rintro e w2 ⟨rfl, rfl⟩) | (go_at_call 181; refine HFI2.out.mono ?_; rintro e w2 ⟨rfl, rfl⟩))
  clear HCON HFI2 HFI HBY hof c1 c2 c3 c4 c5
  generalize w1.alloc (.cells #[.int .i64 by', .int .i64 ad, .bool true, .int .i64 du, .int .i64 da, .bool false] 52) = W2 at *
  clear hkb
  have hklt := HB2.out.lt
  have hA1 := (HC2.out.lit (ints [by']) 3 1 rfl (by decide)).nilrow
  have hs1 : (W2.alloc (.cells (ints [by']).toArray 3)).heap.size = W2.heap.size + 1 := by simp
  have hC3 := hA1.phNew (phCells (⟨1, [by'], 0, 0⟩, .slice (some ⟨W2.heap.size, 0, none⟩) 1 1)) rfl
  rw [hs1] at hC3
  have HC3 := Lib.hid hC3
  have HB := Lib.hid ((HB2.out.alloc (.cells (ints [by']).toArray 3)).alloc (.cells (phCells (⟨1, [by'], 0, 0⟩, .slice (some ⟨W2.heap.size, 0, none⟩) 1 1)).toArray 156))
  clear hC3 hA1 HC2 HB2
  go_upto_region 6 with fail
  clear c0
  have hg2 : kb < W2.heap.size + 1 := by omega
  obtain ⟨g2, hgg2⟩ : ∃ g2, W2.heap.size + 1 = g2 := ⟨_, rfl⟩
  rw [hgg2] at HC3 hg2 ⊢
  obtain ⟨cp2, hcp2⟩ : ∃ cp2 : Nat, cp2 = 1 := ⟨_, rfl⟩
  have HC3' : Hid (Ctx P ((RowF (.slice (some ⟨g2, 0, none⟩) 1 1) 1 (([((⟨1, [by'], 0, 0⟩ : Ph), (Value.slice (some ⟨W2.heap.size, 0, none⟩) 1 1))] : List (Ph × Value)).flatMap phCells)).star Q) w0 ((W2.alloc (.cells (ints [by']).toArray 3)).alloc (.cells (phCells (⟨1, [by'], 0, 0⟩, .slice (some ⟨W2.heap.size, 0, none⟩) 1 1)).toArray 156)) (((.slice none 0 0, ints []) :: (.slice (some ⟨W2.heap.size, 0, none⟩) 1 1, ints [by']) :: rows))) := HC3
  obtain ⟨W3, hW3⟩ : ∃ W3, (W2.alloc (.cells (ints [by']).toArray 3)).alloc (.cells (phCells (⟨1, [by'], 0, 0⟩, .slice (some ⟨W2.heap.size, 0, none⟩) 1 1)).toArray 156) = W3 := ⟨_, rfl⟩
  rw [hW3] at HC3' HB
  change Code.wp _ _ _ _ ((W2.alloc (.cells (ints [by']).toArray 3)).alloc (.cells (phCells (⟨1, [by'], 0, 0⟩, .slice (some ⟨W2.heap.size, 0, none⟩) 1 1)).toArray 156))
  rw [hW3]
  clear HC3 hW3 hgg2 hs1 hcp2 cp2 hklt
  have HC := HC3'
  clear HC3'

  have hbx := HB.out
  have c0 := hbx.cell 0
  have c1 := hbx.cell 1
  have c2 := hbx.cell 2
  have c3 := hbx.cell 3
  have c4 := hbx.cell 4
  have c5 := hbx.cell 5
  simp only [List.getElem?_cons_succ, List.getElem?_cons_zero] at c0 c1 c2 c3 c4 c5
  clear hbx
  have hsz4 : (W3.alloc (.cells (ints [k / 65536, k / 256 % 256, k % 256]).toArray 3)).heap.size = W3.heap.size + 1 := by simp
  go_upto_region 8 with (at_builtin; go_must (refine wpList_ph1 rfl _ _ rfl (.slice (some ⟨g2, 0, none⟩) 1 1) 1 (([((⟨1, [by'], 0, 0⟩ : Ph), (Value.slice (some ⟨W2.heap.size, 0, none⟩) 1 1))] : List (Ph × Value)).flatMap phCells) rfl (W3.alloc (.cells (ints [k / 65536, k / 256 % 256, k % 256]).toArray 3)) (phCells (⟨ad, [k / 65536, k / 256 % 256, k % 256], 0, 0⟩, .slice (some ⟨W3.heap.size, 0, none⟩) 3 3)) rfl (phCells_one _ _ _ _) ⟨rfl, rfl, rfl⟩ (own_upd HC.out.phGet ((Upd.refl none' W3).alloc _) (fun _ _ f => f)) (by rw [hsz4]; rfl) (by decide) ?_); intro g4 cp4 W4 hRn hUn hgn hgln)
  have hCn := Ctx.phStep HQ.out (HC.out.lit (ints [k / 65536, k / 256 % 256, k % 256]) 3 3 rfl (by decide)) hRn hUn (fun k hk => by simp only [Value.ownBlock, Option.some.injEq] at hk; rw [← hk]; exact hgn)
  have hBn := (HB.out.alloc (.cells (ints [k / 65536, k / 256 % 256, k % 256]).toArray 3)).upd hUn (fun e => by simp only [Value.ownBlock, Option.some.injEq] at e; omega)
  have hkn : kb < g4 := by
    have := (HB.out.alloc (.cells (ints [k / 65536, k / 256 % 256, k % 256]).toArray 3)).lt
    rcases hgn with e | e
    · simp only [Value.ownBlock, Option.some.injEq] at e; omega
    · omega
  clear HC HB c0 c1 c2 c3 c4 c5 hRn hUn hgn hgln
  have HC : Hid (Ctx P ((RowF (.slice (some ⟨g4, 0, none⟩) 2 cp4) 2 (([((⟨1, [by'], 0, 0⟩ : Ph), (Value.slice (some ⟨W2.heap.size, 0, none⟩) 1 1)), ((⟨ad, [k / 65536, k / 256 % 256, k % 256], 0, 0⟩ : Ph), (Value.slice (some ⟨W3.heap.size, 0, none⟩) 3 3 : Value))] : List (Ph × Value)).flatMap phCells)).star Q) w0 W4 _) := Lib.hid hCn
  have HB := Lib.hid hBn
  clear hCn hBn
  have hbx := HB.out
  have c0 := hbx.cell 0
  have c1 := hbx.cell 1
  have c2 := hbx.cell 2
  have c3 := hbx.cell 3
  have c4 := hbx.cell 4
  have c5 := hbx.cell 5
  simp only [List.getElem?_cons_succ, List.getElem?_cons_zero] at c0 c1 c2 c3 c4 c5
  clear hbx
  go_upto_region 9 with fail
  have hmem : (Value.slice a data.length c, ints data) ∈ (((.slice (some ⟨W3.heap.size, 0, none⟩) 3 3 : Value), ints [k / 65536, k / 256 % 256, k % 256]) :: ((.slice none 0 0 : Value), ints []) :: ((.slice (some ⟨W2.heap.size, 0, none⟩) 1 1 : Value), ints [by']) :: rows) := by repeat (first | exact HDD.out | apply List.mem_cons_of_mem)
  have HRSC := Lib.hid (HC.out.drew.rs_mem hmem)
  clear hmem
  have HCH : Hid (∀ (V : World) (va : Option Addr) (vc : Nat), Row V 3 (.slice va data.length vc) (ints data) → (∀ k, (Value.slice va data.length vc).ownBlock = some k → W4.drew.heap.size ≤ k ∧ k < V.heap.size) → Upd none' W4.drew V → V.cell? ⟨kb, 1, none⟩ = some (.int .i64 ad) ∧ Hid (Ctx P ((RowF (.slice (some ⟨g4, 0, none⟩) 2 cp4) 2 (([((⟨1, [by'], 0, 0⟩ : Ph), (Value.slice (some ⟨W2.heap.size, 0, none⟩) 1 1)), ((⟨ad, [k / 65536, k / 256 % 256, k % 256], 0, 0⟩ : Ph), (Value.slice (some ⟨W3.heap.size, 0, none⟩) 3 3 : Value))] : List (Ph × Value)).flatMap phCells)).star Q) w0 V (((.slice va data.length vc : Value), ints data) :: (((.slice (some ⟨W3.heap.size, 0, none⟩) 3 3 : Value), ints [k / 65536, k / 256 % 256, k % 256]) :: ((.slice none 0 0 : Value), ints []) :: ((.slice (some ⟨W2.heap.size, 0, none⟩) 1 1 : Value), ints [by']) :: rows))) ∧ Hid (Blk V kb [.int .i64 by', .int .i64 ad, .bool true, .int .i64 du, .int .i64 da, .bool false] 52)) := Lib.hid (by
    intro V va vc hR hf hU
    have hb := HB.out.drew.upd hU (fun f => f)
    have hc := hb.cell 1
    simp only [List.getElem?_cons_succ, List.getElem?_cons_zero] at hc
    have hrs := hR.rs (by rw [ints_len]; omega)
    exact ⟨hc, Lib.hid (HC.out.drew.newRow hU hrs hf hR.mk), Lib.hid hb⟩)
  go_region_held3 (fun w' => w'.cell? ⟨kb, 1, none⟩ = some (.int .i64 ad)) (first | exact c1 | exact cc9 | exact (World.cell?_alloc_lt _ _ _ hl9).trans cc9 | exact (hUn.cell (p := ⟨kb, 1, none⟩) hl9 (fun e => by simp only [Value.ownBlock, Option.some.injEq] at e; omega)).trans cc9) (first | (go_at_call 105; refine (HCLN.out _ HRSC.out).mono ?_; rintro e V5 ⟨va9, vc9, rfl, hRc9, hfc9, hUc9⟩; obtain ⟨cc9, HCc9, HBc9⟩ := HCH.out _ _ _ hRc9 hfc9 hUc9; have hl9 := HBc9.out.lt; have hflag : True := trivial) | (clear hflag; go_must (refine step_ph1 rfl _ _ rfl (.slice (some ⟨g4, 0, none⟩) 2 cp4) 2 (([((⟨1, [by'], 0, 0⟩ : Ph), (Value.slice (some ⟨W2.heap.size, 0, none⟩) 1 1)), ((⟨ad, [k / 65536, k / 256 % 256, k % 256], 0, 0⟩ : Ph), (Value.slice (some ⟨W3.heap.size, 0, none⟩) 3 3 : Value))] : List (Ph × Value)).flatMap phCells) rfl V5 (phCells (⟨ad, data, 0, 0⟩, .slice va9 data.length vc9)) rfl (phCells_one _ _ _ _) ⟨rfl, rfl, rfl⟩ HCc9.out.phGet rfl (by decide) ?_); intro g5 cp5 W5 hRn hUn hgn hgln))
  have hCn := Ctx.phStep HQ.out (HCc9.out) hRn hUn (fun k hk => by simp only [Value.ownBlock, Option.some.injEq] at hk; rw [← hk]; exact hgn)
  have hBn := (HBc9.out).upd hUn (fun e => by simp only [Value.ownBlock, Option.some.injEq] at e; omega)
  have hkn : kb < g5 := by
    have := (HBc9.out).lt
    rcases hgn with e | e
    · simp only [Value.ownBlock, Option.some.injEq] at e; omega
    · omega
  clear HC HB c0 c1 c2 c3 c4 c5 hRn hUn hgn hgln
  have HC : Hid (Ctx P ((RowF (.slice (some ⟨g5, 0, none⟩) 3 cp5) 3 (([((⟨1, [by'], 0, 0⟩ : Ph), (Value.slice (some ⟨W2.heap.size, 0, none⟩) 1 1)), ((⟨ad, [k / 65536, k / 256 % 256, k % 256], 0, 0⟩ : Ph), (Value.slice (some ⟨W3.heap.size, 0, none⟩) 3 3 : Value)), ((⟨ad, data, 0, 0⟩ : Ph), (Value.slice va9 data.length vc9 : Value))] : List (Ph × Value)).flatMap phCells)).star Q) w0 W5 _) := Lib.hid hCn
  have HB := Lib.hid hBn
  clear hCn hBn
  have hbx := HB.out
  have c0 := hbx.cell 0
  have c1 := hbx.cell 1
  have c2 := hbx.cell 2
  have c3 := hbx.cell 3
  have c4 := hbx.cell 4
  have c5 := hbx.cell 5
  simp only [List.getElem?_cons_succ, List.getElem?_cons_zero] at c0 c1 c2 c3 c4 c5
  clear hbx
  go_upto_region 12 with (at_builtin; go_must (refine wpList_ph1 rfl _ _ rfl (.slice (some ⟨g5, 0, none⟩) 3 cp5) 3 (([((⟨1, [by'], 0, 0⟩ : Ph), (Value.slice (some ⟨W2.heap.size, 0, none⟩) 1 1)), ((⟨ad, [k / 65536, k / 256 % 256, k % 256], 0, 0⟩ : Ph), (Value.slice (some ⟨W3.heap.size, 0, none⟩) 3 3 : Value)), ((⟨ad, data, 0, 0⟩ : Ph), (Value.slice va9 data.length vc9 : Value))] : List (Ph × Value)).flatMap phCells) rfl W5 (phCells (⟨0, [], du, 0⟩, .slice none 0 0)) rfl (phCells_one _ _ _ _) ⟨rfl, rfl, rfl⟩ HC.out.phGet rfl (by decide) ?_); intro g6 cp6 W6 hRn hUn hgn hgln)
  have hCn := Ctx.phStep HQ.out (HC.out) hRn hUn (fun k hk => by simp only [Value.ownBlock, Option.some.injEq] at hk; rw [← hk]; exact hgn)
  have hBn := (HB.out).upd hUn (fun e => by simp only [Value.ownBlock, Option.some.injEq] at e; omega)
  have hkn : kb < g6 := by
    have := (HB.out).lt
    rcases hgn with e | e
    · simp only [Value.ownBlock, Option.some.injEq] at e; omega
    · omega
  clear HC HB c0 c1 c2 c3 c4 c5 hRn hUn hgn hgln
  have HC : Hid (Ctx P ((RowF (.slice (some ⟨g6, 0, none⟩) 4 cp6) 4 (([((⟨1, [by'], 0, 0⟩ : Ph), (Value.slice (some ⟨W2.heap.size, 0, none⟩) 1 1)), ((⟨ad, [k / 65536, k / 256 % 256, k % 256], 0, 0⟩ : Ph), (Value.slice (some ⟨W3.heap.size, 0, none⟩) 3 3 : Value)), ((⟨ad, data, 0, 0⟩ : Ph), (Value.slice va9 data.length vc9 : Value)), ((⟨0, [], du, 0⟩ : Ph), (Value.slice none 0 0 : Value))] : List (Ph × Value)).flatMap phCells)).star Q) w0 W6 _) := Lib.hid hCn
  have HB := Lib.hid hBn
  clear hCn hBn
  have hbx := HB.out
  have c0 := hbx.cell 0
  have c1 := hbx.cell 1
  have c2 := hbx.cell 2
  have c3 := hbx.cell 3
  have c4 := hbx.cell 4
  have c5 := hbx.cell 5
  simp only [List.getElem?_cons_succ, List.getElem?_cons_zero] at c0 c1 c2 c3 c4 c5
  clear hbx
  go_upto_region 16 with (at_builtin; go_must (refine wpList_ph1 rfl _ _ rfl (.slice (some ⟨g6, 0, none⟩) 4 cp6) 4 (([((⟨1, [by'], 0, 0⟩ : Ph), (Value.slice (some ⟨W2.heap.size, 0, none⟩) 1 1)), ((⟨ad, [k / 65536, k / 256 % 256, k % 256], 0, 0⟩ : Ph), (Value.slice (some ⟨W3.heap.size, 0, none⟩) 3 3 : Value)), ((⟨ad, data, 0, 0⟩ : Ph), (Value.slice va9 data.length vc9 : Value)), ((⟨0, [], du, 0⟩ : Ph), (Value.slice none 0 0 : Value))] : List (Ph × Value)).flatMap phCells) rfl W6 (phCells (⟨da, [], 0, read⟩, .slice none 0 0)) rfl (phCells_one _ _ _ _) ⟨rfl, rfl, rfl⟩ HC.out.phGet rfl (by decide) ?_); intro g7 cp7 W7 hRn hUn hgn hgln)
  have hCn := Ctx.phStep HQ.out (HC.out) hRn hUn (fun k hk => by simp only [Value.ownBlock, Option.some.injEq] at hk; rw [← hk]; exact hgn)
  have hBn := (HB.out).upd hUn (fun e => by simp only [Value.ownBlock, Option.some.injEq] at e; omega)
  have hkn : kb < g7 := by
    have := (HB.out).lt
    rcases hgn with e | e
    · simp only [Value.ownBlock, Option.some.injEq] at e; omega
    · omega
  clear HC HB c0 c1 c2 c3 c4 c5 hRn hUn hgn hgln
  have HC : Hid (Ctx P ((RowF (.slice (some ⟨g7, 0, none⟩) 5 cp7) 5 (([((⟨1, [by'], 0, 0⟩ : Ph), (Value.slice (some ⟨W2.heap.size, 0, none⟩) 1 1)), ((⟨ad, [k / 65536, k / 256 % 256, k % 256], 0, 0⟩ : Ph), (Value.slice (some ⟨W3.heap.size, 0, none⟩) 3 3 : Value)), ((⟨ad, data, 0, 0⟩ : Ph), (Value.slice va9 data.length vc9 : Value)), ((⟨0, [], du, 0⟩ : Ph), (Value.slice none 0 0 : Value)), ((⟨da, [], 0, read⟩ : Ph), (Value.slice none 0 0 : Value))] : List (Ph × Value)).flatMap phCells)).star Q) w0 W7 _) := Lib.hid hCn
  have HB := Lib.hid hBn
  clear hCn hBn
  have hbx := HB.out
  have c0 := hbx.cell 0
  have c1 := hbx.cell 1
  have c2 := hbx.cell 2
  have c3 := hbx.cell 3
  have c4 := hbx.cell 4
  have c5 := hbx.cell 5
  simp only [List.getElem?_cons_succ, List.getElem?_cons_zero] at c0 c1 c2 c3 c4 c5
  clear hbx
  go_upto_region 16 with fail
  clear c0 c1 c2 c3 c4 c5 HB
  have hfin := Ctx.phDone HQ.out HC.out (by decide) (by
    intro x hx
    simp only [List.mem_cons, List.not_mem_nil, or_false] at hx
    rcases hx with rfl | rfl | rfl | rfl | rfl
    all_goals repeat (first | exact List.mem_cons_self | apply List.mem_cons_of_mem))
  have HFIN := Lib.hid hfin
  clear hfin HC
  go_wp2
  go_ret2
  exact ⟨g7, 5, cp7, [((⟨1, [by'], 0, 0⟩ : Ph), (Value.slice (some ⟨W2.heap.size, 0, none⟩) 1 1)), ((⟨ad, [k / 65536, k / 256 % 256, k % 256], 0, 0⟩ : Ph), (Value.slice (some ⟨W3.heap.size, 0, none⟩) 3 3 : Value)), ((⟨ad, data, 0, 0⟩ : Ph), (Value.slice va9 data.length vc9 : Value)), ((⟨0, [], du, 0⟩ : Ph), (Value.slice none 0 0 : Value)), ((⟨da, [], 0, read⟩ : Ph), (Value.slice none 0 0 : Value))], _ :: [(.slice va9 data.length vc9, ints data), (.slice (some ⟨W3.heap.size, 0, none⟩) 3 3, ints [k / 65536, k / 256 % 256, k % 256]), (.slice none 0 0, ints []), (.slice (some ⟨W2.heap.size, 0, none⟩) 1 1, ints [by'])], rfl, by rw [HRES.out]; rfl, HFIN.out.1, HFIN.out.2⟩
end Go.Proofs.YteombggfmeilaaaGreat
