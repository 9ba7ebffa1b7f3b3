/- lichenlaw17.awake. -/
import Derived.Test.YtkjdhkpkcepilaaGreatTwins17
import Derived.Test.YtkjdhkpkcepilaaGreatBurnQ
import Derived.Test.YtkjdhkpkcepilaaGreatLaw0
namespace Go.Proofs.YtkjdhkpkcepilaaGreat
open Go.RowKit
/-- A row of numbers is the same as these. -/
theorem rdy_same {Q : Own} {c : Cor} {b k fo fi : Nat} {n q : Int} {w0 w : World} {rows : List (Value × List Value)} (h : Rdy Q c b k fo fi n q w0 w rows) (v : Value) (xs : List Int) (hr : (v, ints xs) ∈ rows) (m : Nat) (hm : xs.length = m) (hl : m ≤ 1048576) :
    Calls Tryz.prog 47 #[v, .slice (some ⟨w.heap.size, 0, none⟩) m m] (w.alloc (.cells (ints xs).toArray 3)) fun e w' => e = .returned (.bool true) ∧ Upd none' w w' := by
  subst hm
  refine (same_ints _ _ _ xs xs ((h.rs hr).upd ((Upd.refl none' w).alloc _) (fun _ _ _ f => f)) (rs_lit w xs hl)).mono ?_
  rintro e w' ⟨rfl, hU⟩
  refine ⟨?_, ((Upd.refl none' w).alloc _).trans hU (fun _ _ f => f)⟩
  rw [show sameB xs xs = true from decide_eq_true rfl]
def hello : ByteArray := ⟨#[104, 101, 108, 108, 111]⟩
theorem all255_at (j : Nat) (h : j < 4096) : (freshL ⟨#[255]⟩).getD j 0 = 255 := by
  unfold freshL
  rw [if_neg (by decide), List.getD_eq_getElem?_getD, List.getElem?_map, List.getElem?_range h]
  show freshAt ⟨#[255]⟩ j = 255
  unfold freshAt
  rw [show (⟨#[255]⟩ : ByteArray).size = 1 from rfl, Nat.mod_one]
  rfl
theorem hello_at (l : List UInt8) (hl : l.length = 4096) (h : ∀ j, j < 4096 → l.getD j 0 = 255) : ((burnB l 2078 hello.data.toList).drop 2078).take 5 = hello.data.toList := by
  refine ext_getD _ _ (by rw [List.length_take, List.length_drop, burnB_len, hl]; rfl) fun j hj => ?_
  rw [List.length_take, List.length_drop, burnB_len, hl] at hj
  rw [List.getD_eq_getElem?_getD, List.getElem?_take_of_lt (by omega), List.getElem?_drop, ← List.getD_eq_getElem?_getD, burnB_at _ _ _ _ (by omega), show hello.data.toList.length = 5 from rfl, if_pos (by omega), h _ (by omega), Nat.add_sub_cancel_left]
  rcases (show j = 0 ∨ j = 1 ∨ j = 2 ∨ j = 3 ∨ j = 4 by omega) with rfl | rfl | rfl | rfl | rfl <;> rfl
theorem hello_cut (fa : ByteArray) (h : (⟨(freshL ⟨#[255]⟩).toArray⟩ : ByteArray) = fa) : (burnA fa 2078 hello.data.toList).extract 2078 2083 = hello := by
  have hl : (freshL ⟨#[255]⟩).length = 4096 := freshL_len _
  have hd : fa.data.toList = freshL ⟨#[255]⟩ := by rw [← h]
  apply ByteArray.ext
  apply Array.toList_inj.1
  rw [ByteArray.data_extract, Array.toList_extract, List.extract_eq_take_drop, burnA_list, hd]
  exact hello_at _ hl all255_at
set_option maxRecDepth 100000 in
set_option maxHeartbeats 8000000 in
theorem awake17 (w : World) :
    Calls Tryz.prog 26 #[] w fun e w' => e = .returned (.bool true) ∧ Upd none' w w' := by
  obtain ⟨fa, hfa⟩ : ∃ fa : ByteArray, (⟨(freshL ⟨#[255]⟩).toArray⟩ : ByteArray) = fa := ⟨_, rfl⟩
  have hsz : fa.size = 4096 := by rw [← hfa]; simpa [ByteArray.size] using freshL_len _
  have HFA := Lib.hid hfa
  clear hfa
  go_enter Tryz.func26, Tryz.ntmps26
  go_upto_region 2 with (go_at_call 27; refine (c_twins17 (Upd.refl none' w) _ (by decide) fa HFA.out).mono ?_; rintro e w1 ⟨b, r, rfl, hC1⟩)
  have HN := Lib.hid (rdy_new Own.emp_ok (at_new fa) hC1 (Int.le_refl 0) (by decide))
  clear hC1
  go_upto_region 5 with (first | (go_at_call 28; refine HN.out.mono ?_; rintro e w2 ⟨k, fo, fi, rfl, hR2⟩) | (go_at_call 25; refine (num_any _ _).mono ?_; rintro e w' ⟨rfl, rfl⟩))
  have hp := fun w => pages_ok 2078 40 (by decide) (by decide) w
  rw [show pagesL 2078 40 = [2, 32, 6] from by decide] at hp
  have HP := Lib.hid hp
  have HR2 := Lib.hid hR2
  clear hp hR2 HN
  go_upto_region 6 with (go_at_call 30; refine (HP.out _).mono ?_; rintro e w3 ⟨v, rfl, hrow, hown, hU3⟩; obtain ⟨oa, oc, rfl, -⟩ := hrow.form)
  have hR3 := HR2.out.row (r := (.slice oa 3 oc, ints [2, 32, 6])) hU3 (hrow.rs (by decide)) (fun g hg => ⟨hown g hg, hrow.lt g hg⟩)
  have HB := Lib.hid (rdy_burn hR3 (rest_new fa) fa rfl hsz 2078 hello (by decide) (by decide) (by decide) (by decide) (by decide) (by decide))
  clear hR3 hrow hown hU3 HR2 HP
  go_upto_region 7 with (go_at_call 29; refine HB.out.mono ?_; rintro e w4 ⟨rfl, c', q', hcr, hca, -, -, hR4⟩)
  have hc := rdy_cells hR4 _ hca
  have hex : (burnA fa 2078 hello.data.toList).extract 2078 2083 = ⟨#[104, 101, 108, 108, 111]⟩ := hello_cut fa HFA.out
  have hbs : (burnA fa 2078 hello.data.toList).size = 4096 := by rw [burnA_size]; exact hsz
  obtain ⟨fb, hfb⟩ : ∃ fb, burnA fa 2078 hello.data.toList = fb := ⟨_, rfl⟩
  rw [hfb] at hc hex hbs
  have HC := Lib.hid hc
  have HR4 := Lib.hid hR4
  clear hR4 hc hfb hca HB
  go_upto_region 8 with (go_at_call 24; refine HC.out.mono ?_; rintro e w5 ⟨rfl, rfl⟩)
  have HI := Lib.hid (fun w => burn_image k 2047 ⟨#[120]⟩ (by decide) (by decide) (by decide) (by decide) w)
  have HNO := Lib.hid (fun w => burn_no k 4096 ⟨#[120]⟩ (by decide) w)
  have HPN := Lib.hid (fun w => pages_no 0 513 (by decide) w)
  have HNIL := Lib.hid (fun w => burn_nil 2048 ⟨#[]⟩ w)
  go_upto_region 9 with (go_at_call 29; refine (HI.out _).mono ?_; rintro e w6 ⟨rfl, hU6⟩)
  have hR6 := HR4.out.fr hU6
  have HS := Lib.hid (rdy_same hR6 (.slice oa 3 oc) [2, 32, 6] List.mem_cons_self 3 rfl (by decide))
  have HU := Lib.hid hR6.up
  clear hR6 hU6 HR4 HI HC
  go_upto_region 10 with (go_at_call 29; refine (HNO.out _).mono ?_; rintro e w7 ⟨rfl, rfl⟩)
  go_upto_region 11 with (go_at_call 30; refine (HPN.out _).mono ?_; rintro e w8 ⟨rfl, rfl⟩)
  clear HNO HPN
  go_wp2_with (first | (go_at_call 25; refine (num_any _ _).mono ?_; rintro e w' ⟨rfl, rfl⟩) | (go_at_call 47; refine HS.out.mono ?_; rintro e w9 ⟨rfl, hU9⟩) | (go_at_call 29; refine (HNIL.out _).mono ?_; rintro e w10 ⟨rfl, rfl⟩))
  go_ret
  exact ⟨rfl, HU.out.trans hU9 (fun _ _ f => f)⟩
end Go.Proofs.YtkjdhkpkcepilaaGreat
