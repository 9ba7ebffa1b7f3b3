/- awake, in plain: what the chip says and does. -/
import Derived.Test.YtjdjdfllggpckaaGreatSay
import Derived.Test.YtjdjdfllggpckaaGreatWord
import Derived.KernelRfl
import Derived.Test.YtjdjdfllggpckaaGreatFresh
namespace Go.Proofs.YtjdjdfllggpckaaGreat
open Go.RowKit
def idIn : List Int := wordL [159] ++ List.replicate 8 15
theorem aw_id (a : ByteArray) : ((St.new a).said idIn).2 = [15, 15, 15, 15, 15, 15, 15, 15, 15, 15, 15, 13, 15, 15, 15, 15] := by kernel_rfl
def aw1 (a : ByteArray) : St := ((St.new a).said idIn).1
theorem aw1_sel (a : ByteArray) : (aw1 a).sel = false := by kernel_rfl
def aw2 (a : ByteArray) : St := ((aw1 a).said (wordL [6])).1
theorem aw2_sel (a : ByteArray) : (aw2 a).sel = false := by kernel_rfl
theorem aw2_first (a : ByteArray) : (aw2 a).first = 2 := by kernel_rfl
def aw3 (a : ByteArray) : St := ((aw2 a).said (wordL [2, 0, 8, 1, 65])).1
theorem aw3_sel (a : ByteArray) : (aw3 a).sel = false := by kernel_rfl
theorem aw3_first (a : ByteArray) : (aw3 a).first = 3 := by kernel_rfl
def aw4 (a : ByteArray) : St := ((aw3 a).said (List.replicate 8 15)).1
theorem aw4_sel (a : ByteArray) : (aw4 a).sel = false := by kernel_rfl
theorem aw4_first (a : ByteArray) : (aw4 a).first = 0 := by kernel_rfl
theorem aw4_cells (a : ByteArray) : (aw4 a).a = progCut a 2048 ⟨(255 :: 65 :: List.replicate 30 255).toArray⟩ all255 := by kernel_rfl
theorem turned_at (a : ByteArray) (lo n j : Nat) (turn : Nat → UInt8 → UInt8) (h : j < a.size) : (turned a lo n turn).data.toList.getD j 0 = if lo ≤ j ∧ j < lo + n then turn (j - lo) (a.data.toList.getD j 0) else a.data.toList.getD j 0 := by
  have hl : j < a.data.toList.length := h
  unfold turned
  simp only [List.getD_eq_getElem?_getD, List.getElem?_mapIdx, List.getElem?_eq_getElem hl, Option.map_some, Option.getD_some]
theorem aw4_2049 : (aw4 ⟨blankL.toArray⟩).a.data.toList.getD 2049 0 = 65 := by
  have hs : (⟨blankL.toArray⟩ : ByteArray).size = 4096 := List.length_replicate
  rw [aw4_cells]
  unfold progCut
  rw [turned_at _ _ _ _ _ (by rw [hs]; decide)]
  rw [show (⟨blankL.toArray⟩ : ByteArray).data.toList.getD 2049 0 = 255 by
    show blankL.getD 2049 0 = 255
    unfold blankL
    rw [List.getD_eq_getElem?_getD, List.getElem?_replicate]
    rfl]
  decide
theorem aw4_2048 : (aw4 ⟨blankL.toArray⟩).a.data.toList.getD 2048 0 = 255 := by
  have hs : (⟨blankL.toArray⟩ : ByteArray).size = 4096 := List.length_replicate
  rw [aw4_cells]
  unfold progCut
  rw [turned_at _ _ _ _ _ (by rw [hs]; decide)]
  rw [show (⟨blankL.toArray⟩ : ByteArray).data.toList.getD 2048 0 = 255 by
    show blankL.getD 2048 0 = 255
    unfold blankL
    rw [List.getD_eq_getElem?_getD, List.getElem?_replicate]
    rfl]
  decide
theorem aw4_size : (aw4 ⟨blankL.toArray⟩).a.size = 4096 := by
  rw [aw4_cells]
  unfold progCut
  rw [turned_size]
  exact List.length_replicate
theorem aw_inv (a : ByteArray) (ha : a.size = 4096) : (aw1 a).InvW 17 ∧ (aw2 a).InvW 26 ∧ (aw3 a).InvW 67 ∧ (aw4 a).InvW 76 := by
  have h1 : (aw1 a).InvW 17 := said_inv (new_inv a ha) idIn
  have h2 : (aw2 a).InvW 26 := said_inv h1 (wordL [6])
  have h3 : (aw3 a).InvW 67 := said_inv h2 (wordL [2, 0, 8, 1, 65])
  exact ⟨h1, h2, h3, said_inv h3 (List.replicate 8 15)⟩
end Go.Proofs.YtjdjdfllggpckaaGreat
