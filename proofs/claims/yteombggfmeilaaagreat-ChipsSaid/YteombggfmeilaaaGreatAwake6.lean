/- awake, in plain: what the chip says and does. · The walk over lichenlaw6.awake. -/
import Derived.Test.YteombggfmeilaaaGreatSay
import Derived.Test.YteombggfmeilaaaGreatWord
import Derived.KernelRfl
import Derived.Test.YteombggfmeilaaaGreatBlank
import Derived.Test.YteombggfmeilaaaGreatLaw0
namespace Go.Proofs.YteombggfmeilaaaGreat
open Go.RowKit
def idIn : List Int := wordL [159] ++ List.replicate 8 15
theorem aw_id (a : ByteArray) : ((St.new a).said idIn).2 = [15, 15, 15, 15, 15, 15, 15, 15, 15, 15, 15, 13, 15, 15, 15, 15] := by kernel_rfl
def aw1 (a : ByteArray) : St := ((St.new a).said idIn).1
theorem aw1_sel (a : ByteArray) : (aw1 a).sel = false := by kernel_rfl
def aw2 (a : ByteArray) : St := ((aw1 a).said (wordL [6])).1
theorem aw2_sel (a : ByteArray) : (aw2 a).sel = false := by kernel_rfl
theorem aw2_first (a : ByteArray) : (aw2 a).first = 2 := by kernel_rfl
def aw3 (a : ByteArray) : St := ((aw2 a).said (wordL [2, 0, 8, 1, 65])).1
theorem aw3_sel (a : ByteArray) : (aw3 a).sel = false := by kernel_rfl
theorem aw3_first (a : ByteArray) : (aw3 a).first = 3 := by kernel_rfl
def aw4 (a : ByteArray) : St := ((aw3 a).said (List.replicate 8 15)).1
theorem aw4_sel (a : ByteArray) : (aw4 a).sel = false := by kernel_rfl
theorem aw4_first (a : ByteArray) : (aw4 a).first = 0 := by kernel_rfl
theorem aw4_cells (a : ByteArray) : (aw4 a).a = progCut a 2048 ⟨(255 :: 65 :: List.replicate 30 255).toArray⟩ all255 := by kernel_rfl
theorem turned_at (a : ByteArray) (lo n j : Nat) (turn : Nat → UInt8 → UInt8) (h : j < a.size) : (turned a lo n turn).data.toList.getD j 0 = if lo ≤ j ∧ j < lo + n then turn (j - lo) (a.data.toList.getD j 0) else a.data.toList.getD j 0 := by
  have hl : j < a.data.toList.length := h
  unfold turned
  simp only [List.getD_eq_getElem?_getD, List.getElem?_mapIdx, List.getElem?_eq_getElem hl, Option.map_some, Option.getD_some]
theorem aw4_2049 : (aw4 ⟨blankL.toArray⟩).a.data.toList.getD 2049 0 = 65 := by
  have hs : (⟨blankL.toArray⟩ : ByteArray).size = 4096 := List.length_replicate
  rw [aw4_cells]
  unfold progCut
  rw [turned_at _ _ _ _ _ (by rw [hs]; decide)]
  rw [show (⟨blankL.toArray⟩ : ByteArray).data.toList.getD 2049 0 = 255 by
    show blankL.getD 2049 0 = 255
    unfold blankL
    rw [List.getD_eq_getElem?_getD, List.getElem?_replicate]
    rfl]
  decide
theorem aw4_2048 : (aw4 ⟨blankL.toArray⟩).a.data.toList.getD 2048 0 = 255 := by
  have hs : (⟨blankL.toArray⟩ : ByteArray).size = 4096 := List.length_replicate
  rw [aw4_cells]
  unfold progCut
  rw [turned_at _ _ _ _ _ (by rw [hs]; decide)]
  rw [show (⟨blankL.toArray⟩ : ByteArray).data.toList.getD 2048 0 = 255 by
    show blankL.getD 2048 0 = 255
    unfold blankL
    rw [List.getD_eq_getElem?_getD, List.getElem?_replicate]
    rfl]
  decide
theorem aw4_size : (aw4 ⟨blankL.toArray⟩).a.size = 4096 := by
  rw [aw4_cells]
  unfold progCut
  rw [turned_size]
  exact List.length_replicate
theorem aw_inv (a : ByteArray) (ha : a.size = 4096) : (aw1 a).InvW 17 ∧ (aw2 a).InvW 26 ∧ (aw3 a).InvW 67 ∧ (aw4 a).InvW 76 := by
  have h1 : (aw1 a).InvW 17 := said_inv (new_inv a ha) idIn
  have h2 : (aw2 a).InvW 26 := said_inv h1 (wordL [6])
  have h3 : (aw3 a).InvW 67 := said_inv h2 (wordL [2, 0, 8, 1, 65])
  exact ⟨h1, h2, h3, said_inv h3 (List.replicate 8 15)⟩
end Go.Proofs.YteombggfmeilaaaGreat
namespace Go.Proofs.YteombggfmeilaaaGreat
open Go.RowKit
set_option maxRecDepth 100000 in
set_option maxHeartbeats 4000000 in
theorem awake6 (w : World) :
    Calls Tryz.prog 35 #[] w fun e w' => e = .returned (.bool true) ∧ Upd none' w w' := by
  have hbk := ref_blank w
  have hsz : (⟨blankL.toArray⟩ : ByteArray).size = 4096 := List.length_replicate
  have HAW := Lib.hid aw4_2049
  have HAW2 := Lib.hid aw4_2048
  have HAWS := Lib.hid aw4_size
  have HINV := Lib.hid (aw_inv ⟨blankL.toArray⟩ hsz)
  have HNI := Lib.hid (new_inv ⟨blankL.toArray⟩ hsz)
  generalize (⟨blankL.toArray⟩ : ByteArray) = bl at *
  go_enter Tryz.func35, Tryz.ntmps35
  go_upto_region 2 with (first | (go_at_call 13; refine hbk.mono ?_; rintro e w1 ⟨rfl, hU1⟩) | (go_at_call 14; refine (chip_new bl _ hsz).mono ?_; rintro e w2 ⟨b, S0, rfl, hA0, hS0, hU2⟩))
  have hU0 := hU1.trans hU2 (fun _ _ f => f)
  have hS0' : ∀ k, S0 k → w.heap.size ≤ k := fun k hk => Nat.le_trans hU1.size (hS0 k hk)
  clear hbk hS0 hU1 hU2
  go_upto_region 5 with (first | (go_at_call 14; refine (chip_new_no ⟨#[]⟩ _ (by decide)).mono ?_; rintro e w' ⟨rfl, rfl⟩) | (go_at_call 16; refine (num_any _ _).mono ?_; rintro e w' ⟨rfl, rfl⟩))
  go_upto_region 6 with (first | (go_at_call 116; refine (law_word _ _ [159] (rs_lit w2 [159] (by decide)) (by decide) (by decide)).mono ?_; rintro e wA ⟨va, rfl, hRa, hfa, hUa⟩; have hUa' := ((Upd.refl none' w2).alloc (.cells (ints [159]).toArray 3)).trans hUa (fun _ _ f => f); obtain ⟨aa, ca, rfl, -, hna, -⟩ := hRa.form) | (go_at_call 115; refine (law_quiet _ _ _ _ (wordL [159]) 8 (hRa.rs (by decide)) (fun h => (hna h).2) (by decide) (by decide)).mono ?_; rintro e wB ⟨vb, rfl, hRb, hfb, hUb⟩; have hUb' := hUa'.trans hUb (fun _ _ f => f); obtain ⟨ab, cb, rfl, -⟩ := hRb.form) | (go_at_call 114; refine (law_say _ (St.new bl) S0 _ (hA0.upd hUb' (fun _ _ f => f)) 0 HNI.out _ ((wordL [159] ++ List.replicate 8 15)) (hRb.rs (by decide)) (fun k hk e => by have h1 := hfb k hk; have h2 := hA0.lt k e; have h3 := hUa'.size; omega) (by decide) rfl (by decide)).mono ?_; rintro e w3 ⟨vc, S1, rfl, hRc, hfc, hA1, hSc, hUc⟩; obtain ⟨ac, cc, rfl, -⟩ := hRc.form))
  have hidl : (ints ((St.new bl).said (wordL [159] ++ [15, 15, 15, 15, 15, 15, 15, 15])).2).length = 16 := by rw [ints_len, show ((St.new bl).said (wordL [159] ++ [15, 15, 15, 15, 15, 15, 15, 15])).2 = _ from aw_id bl]; rfl
  rw [hidl]
  have hRi : Row w3 3 (.slice ac 16 cc) (ints [15, 15, 15, 15, 15, 15, 15, 15, 15, 15, 15, 13, 15, 15, 15, 15]) := by have h := hRc; rw [show ((St.new bl).said (wordL [159] ++ List.replicate 8 15)).2 = _ from aw_id bl] at h; exact h
  have hfi : ∀ k, (Value.slice ac 16 cc).ownBlock = some k → ¬ S1 k := fun k hk => (hfc k hk).2
  have hA1p : ChipAt w3 b (aw1 bl) S1 := hA1
  have hS1' : ∀ k, S1 k → w.heap.size ≤ k := fun k hk => by rcases hSc k hk with e | e; exact hS0' k e; have h1 := hU0.size; have h2 := (hUb').size; omega
  have hU1 : Upd none' w w3 := (hU0.trans hUb' (fun _ _ f => f)).trans hUc (fun k h1 h2 => by have := hS0' k h2; omega)
  obtain ⟨ai, rfl⟩ : ∃ ai, ai = ac := ⟨_, rfl⟩
  obtain ⟨ci, rfl⟩ : ∃ ci, ci = cc := ⟨_, rfl⟩
  have hid1 := hRi.rs (by decide)
  have hil1 : ∀ k, (Value.slice ai 16 ci).ownBlock = some k → k < w3.heap.size := hRi.lt
  have hin1 := hfi
  have hic : 16 ≤ ci := by obtain ⟨_, cap, e, hc, _⟩ := hRi.form; simp only [Value.slice.injEq] at e; rw [e.2.2]; exact hc
  clear hRc hfc hSc hUc hRa hfa hUa hUa' hRb hfb hUb hUb' hna hA0 hA1 hidl hRi hfi
  go_upto_region 7 with (first | (go_at_call 116; refine (law_word _ _ [6] (rs_lit w3 [6] (by decide)) (by decide) (by decide)).mono ?_; rintro e wA ⟨va, rfl, hRa, hfa, hUa⟩; have hUa' := ((Upd.refl none' w3).alloc (.cells (ints [6]).toArray 3)).trans hUa (fun _ _ f => f); obtain ⟨aa, ca, rfl, -, hna, -⟩ := hRa.form) | (go_at_call 114; refine (law_say _ (aw1 bl) S1 _ (hA1p.upd hUa' (fun _ _ f => f)) 17 HINV.out.1 _ (wordL [6]) (hRa.rs (by decide)) (fun k hk e => by have h1 := hfa k hk; have h2 := hA1p.lt k e; simp at h1; omega) (by decide) (aw1_sel bl) (by decide)).mono ?_; rintro e w4 ⟨vc, S2, rfl, hRc, hfc, hA2, hSc, hUc⟩; obtain ⟨ac, cc, rfl, -⟩ := hRc.form))
  have hA2p : ChipAt w4 b (aw2 bl) S2 := hA2
  have hS2' : ∀ k, S2 k → w.heap.size ≤ k := fun k hk => by rcases hSc k hk with e | e; exact hS1' k e; have h1 := hU1.size; have h2 := (hUa').size; omega
  have hU2 : Upd none' w w4 := (hU1.trans hUa' (fun _ _ f => f)).trans hUc (fun k h1 h2 => by have := hS1' k h2; omega)
  have hid2 := (hid1.upd hUa' (fun _ _ _ f => f)).upd hUc (fun k _ hk => hin1 k hk)
  have hil2 : ∀ k, (Value.slice ai 16 ci).ownBlock = some k → k < w4.heap.size := fun k hk => by have h1 := hil1 k hk; have h2 := (hUa').size; have h3 := hUc.size; omega
  have hin2 : ∀ k, (Value.slice ai 16 ci).ownBlock = some k → ¬ S2 k := fun k hk e => by rcases hSc k e with e | e; exact hin1 k hk e; have h1 := hil1 k hk; have h2 := (hUa').size; omega
  clear hRc hfc hSc hUc hRa hfa hUa hUa' hna hA1p hA2 hid1 hil1 hin1
  have hst := chip_stat b (aw2 bl) S2 w4 hA2p
  rw [aw2_first] at hst
  go_upto_region 8 with (go_at_call 30; refine hst.mono ?_; rintro e w5 ⟨rfl, hUs⟩)
  clear hst
  have hA2q := hA2p.upd hUs (fun _ _ f => f)
  have hU2q := hU2.trans hUs (fun _ _ f => f)
  have hid2q := hid2.upd hUs (fun _ _ _ f => f)
  have hil2q : ∀ k, (Value.slice ai 16 ci).ownBlock = some k → k < w5.heap.size := fun k hk => Nat.lt_of_lt_of_le (hil2 k hk) hUs.size
  clear hUs hA2p hU2 hid2 hil2
  have hA2p := hA2q
  have hU2 := hU2q
  have hid2 := hid2q
  have hil2 := hil2q
  clear hA2q hU2q hid2q hil2q
  go_upto_region 9 with (first | (go_at_call 116; refine (law_word _ _ [2, 0, 8, 1, 65] (rs_lit w5 [2, 0, 8, 1, 65] (by decide)) (by decide) (by decide)).mono ?_; rintro e wA ⟨va, rfl, hRa, hfa, hUa⟩; have hUa' := ((Upd.refl none' w5).alloc (.cells (ints [2, 0, 8, 1, 65]).toArray 3)).trans hUa (fun _ _ f => f); obtain ⟨aa, ca, rfl, -, hna, -⟩ := hRa.form) | (go_at_call 114; refine (law_say _ (aw2 bl) S2 _ (hA2p.upd hUa' (fun _ _ f => f)) 26 HINV.out.2.1 _ (wordL [2, 0, 8, 1, 65]) (hRa.rs (by decide)) (fun k hk e => by have h1 := hfa k hk; have h2 := hA2p.lt k e; simp at h1; omega) (by decide) (aw2_sel bl) (by decide)).mono ?_; rintro e w6 ⟨vc, S3, rfl, hRc, hfc, hA3, hSc, hUc⟩; obtain ⟨ac, cc, rfl, -⟩ := hRc.form))
  have hA3p : ChipAt w6 b (aw3 bl) S3 := hA3
  have hS3' : ∀ k, S3 k → w.heap.size ≤ k := fun k hk => by rcases hSc k hk with e | e; exact hS2' k e; have h1 := hU2.size; have h2 := (hUa').size; omega
  have hU3 : Upd none' w w6 := (hU2.trans hUa' (fun _ _ f => f)).trans hUc (fun k h1 h2 => by have := hS2' k h2; omega)
  have hid3 := (hid2.upd hUa' (fun _ _ _ f => f)).upd hUc (fun k _ hk => hin2 k hk)
  have hil3 : ∀ k, (Value.slice ai 16 ci).ownBlock = some k → k < w6.heap.size := fun k hk => by have h1 := hil2 k hk; have h2 := (hUa').size; have h3 := hUc.size; omega
  have hin3 : ∀ k, (Value.slice ai 16 ci).ownBlock = some k → ¬ S3 k := fun k hk e => by rcases hSc k e with e | e; exact hin2 k hk e; have h1 := hil2 k hk; have h2 := (hUa').size; omega
  clear hRc hfc hSc hUc hRa hfa hUa hUa' hna hA2p hA3 hid2 hil2 hin2
  have hst := chip_stat b (aw3 bl) S3 w6 hA3p
  rw [aw3_first] at hst
  go_upto_region 10 with (go_at_call 30; refine hst.mono ?_; rintro e w7 ⟨rfl, hUs⟩)
  clear hst
  have hA3q := hA3p.upd hUs (fun _ _ f => f)
  have hU3q := hU3.trans hUs (fun _ _ f => f)
  have hid3q := hid3.upd hUs (fun _ _ _ f => f)
  have hil3q : ∀ k, (Value.slice ai 16 ci).ownBlock = some k → k < w7.heap.size := fun k hk => Nat.lt_of_lt_of_le (hil3 k hk) hUs.size
  clear hUs hA3p hU3 hid3 hil3
  have hA3p := hA3q
  have hU3 := hU3q
  have hid3 := hid3q
  have hil3 := hil3q
  clear hA3q hU3q hid3q hil3q
  go_upto_region 11 with (first | (go_at_call 115; refine (law_quiet _ none 0 0 [] 8 (RS.nil _) (fun _ => rfl) (by decide) (by decide)).mono ?_; rintro e wB ⟨vb, rfl, hRb, hfb, hUb⟩; have hUb' := hUb; obtain ⟨ab, cb, rfl, -⟩ := hRb.form) | (go_at_call 114; refine (law_say _ (aw3 bl) S3 _ (hA3p.upd hUb' (fun _ _ f => f)) 67 HINV.out.2.2.1 _ (([] ++ List.replicate 8 15)) (hRb.rs (by decide)) (fun k hk e => by have h1 := hfb k hk; have h2 := hA3p.lt k e; omega) (by decide) (aw3_sel bl) (by decide)).mono ?_; rintro e w8 ⟨vc, S4, rfl, hRc, hfc, hA4, hSc, hUc⟩; obtain ⟨ac, cc, rfl, -⟩ := hRc.form))
  have hA4p : ChipAt w8 b (aw4 bl) S4 := hA4
  have hS4' : ∀ k, S4 k → w.heap.size ≤ k := fun k hk => by rcases hSc k hk with e | e; exact hS3' k e; have h1 := hU3.size; have h2 := (hUb').size; omega
  have hU4 : Upd none' w w8 := (hU3.trans hUb' (fun _ _ f => f)).trans hUc (fun k h1 h2 => by have := hS3' k h2; omega)
  have hid4 := (hid3.upd hUb' (fun _ _ _ f => f)).upd hUc (fun k _ hk => hin3 k hk)
  have hil4 : ∀ k, (Value.slice ai 16 ci).ownBlock = some k → k < w8.heap.size := fun k hk => by have h1 := hil3 k hk; have h2 := (hUb').size; have h3 := hUc.size; omega
  have hin4 : ∀ k, (Value.slice ai 16 ci).ownBlock = some k → ¬ S4 k := fun k hk e => by rcases hSc k e with e | e; exact hin3 k hk e; have h1 := hil3 k hk; have h2 := (hUb').size; omega
  clear hRc hfc hSc hUc hRb hfb hUb hUb' hA3p hA4 hid3 hil3 hin3
  have hst := chip_stat b (aw4 bl) S4 w8 hA4p
  rw [aw4_first] at hst
  go_upto_region 12 with (go_at_call 30; refine hst.mono ?_; rintro e w9 ⟨rfl, hUs⟩)
  clear hst
  have hA4q := hA4p.upd hUs (fun _ _ f => f)
  have hU4q := hU4.trans hUs (fun _ _ f => f)
  have hid4q := hid4.upd hUs (fun _ _ _ f => f)
  have hil4q : ∀ k, (Value.slice ai 16 ci).ownBlock = some k → k < w9.heap.size := fun k hk => Nat.lt_of_lt_of_le (hil4 k hk) hUs.size
  clear hUs hA4p hU4 hid4 hil4
  have hA4p := hA4q
  have hU4 := hU4q
  have hid4 := hid4q
  have hil4 := hil4q
  clear hA4q hU4q hid4q hil4q
  obtain ⟨a4, ha4⟩ : ∃ a4, (aw4 bl).a = a4 := ⟨_, rfl⟩
  have hcl := chip_cells b (aw4 bl) S4 w9 hA4p
  rw [ha4] at hcl HAW HAW2 HAWS
  have hz4 := HAWS.out
  have h65 : a4[2049]'(by omega) = 65 := by rw [← str_at a4 2049 (by omega)]; exact HAW.out
  have h255 : a4[2048]'(by omega) = 255 := by rw [← str_at a4 2048 (by omega)]; exact HAW2.out
  have hdn := chip_deselect_no b (aw4 bl) S4 w9 hA4p (aw4_sel bl)
  have hkb := chip_clock_bad b 16 w9 (.inr (by decide))
  obtain ⟨gi, oi, rfl, -⟩ : ∃ gi oi, ai = some ⟨gi, oi, none⟩ ∧ True := by
    obtain ⟨_, a', cap, e, _, h5⟩ := hid4
    obtain ⟨g, o, h6, _⟩ := h5 (by simp [ints])
    simp only [Value.slice.injEq] at e
    exact ⟨g, o, by rw [e.1, h6], trivial⟩
  have HID := Lib.hid hid4
  have HA := Lib.hid hA4p
  have HU := Lib.hid hU4
  clear hid4 hA4p hU4 hil4 hin4 HINV HNI
  go_upto_region 15 with (first | (go_at_call 34; refine hcl.mono ?_; rintro e w' ⟨rfl, rfl⟩) | (go_at_call 19; refine hdn.mono ?_; rintro e w' ⟨rfl, rfl⟩) | (go_at_call 21; refine hkb.mono ?_; rintro e w' ⟨rfl, rfl⟩))
  clear hcl hdn hkb
  have hUA := (Upd.refl none' w9).alloc (.cells (ints [0]).toArray 3)
  have hnn := chip_next_no b _ _ [0] (rs_lit w9 [0] (by decide)) (by decide) (by decide)
  have hUw := HU.out.trans hUA (fun _ _ f => f)
  have hidw := HID.out.upd hUA (fun _ _ _ f => f)
  go_upto_region 17 with (go_at_call 24; refine hnn.mono ?_; rintro e w' ⟨rfl, rfl⟩)
  clear hnn hUA
  have HUW := Lib.hid hUw
  have HIDW := Lib.hid hidw
  clear hUw hidw
  obtain ⟨w10, hw10⟩ : ∃ w10, w9.alloc (.cells (ints [0]).toArray 3) = w10 := ⟨_, rfl⟩
  rw [hw10] at HIDW HUW
  rw [hw10]
  clear hw10
  have hUB := (Upd.refl none' w10).alloc (.cells (ints [15, 15, 15, 13, 15, 15, 15, 15]).toArray 3)
  have h8 : RS (w10.alloc (.cells (ints [15, 15, 15, 13, 15, 15, 15, 15]).toArray 3)) (.slice (some ⟨gi, oi + 8, none⟩) 8 (ci - 8)) (ints [15, 15, 15, 13, 15, 15, 15, 15]) := (HIDW.out.upd hUB (fun _ _ _ f => f)).drop 8 (by decide)
  have hsm := same_ints _ _ _ _ _ h8 (rs_lit w10 [15, 15, 15, 13, 15, 15, 15, 15] (by decide))
  rw [show sameB [(15 : Int), 15, 15, 13, 15, 15, 15, 15] [15, 15, 15, 13, 15, 15, 15, 15] = true by decide] at hsm
  have HSM := Lib.hid hsm
  have HUB := Lib.hid hUB
  clear h8 hsm hUB HIDW HA
  go_wp2_with (first | (go_at_call 33; refine HSM.out.mono ?_; rintro e w11 ⟨rfl, hUs⟩) | (go_at_call 16; refine (num_any _ _).mono ?_; rintro e w' ⟨rfl, rfl⟩) | (go_at_call 17; refine (chip_select_nil _).mono ?_; rintro e w' ⟨rfl, rfl⟩))
  go_ret
  exact ⟨rfl, (HUW.out.trans HUB.out (fun _ _ f => f)).trans hUs (fun _ _ f => f)⟩
end Go.Proofs.YteombggfmeilaaaGreat
