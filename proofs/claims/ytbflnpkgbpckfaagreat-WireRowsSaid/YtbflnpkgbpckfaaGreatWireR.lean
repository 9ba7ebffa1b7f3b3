/- Reads on wires, of a chip at rest: in plain. -/
import Derived.Test.YtbflnpkgbpckfaaGreatWireQ
import Derived.Test.YtbflnpkgbpckfaaGreatPureP
namespace Go.Proofs.YtbflnpkgbpckfaaGreat
open Go.RowKit
/-- What a chip is between commands. -/
structure Cor where
  a : ByteArray
  prot : Bool
  quad : Bool
  en : Bool
  goes : Bool
  job : Option Job
  busy : List Int
  wipes : Nat → Int
def St.cor (t : St) : Cor := ⟨t.a, t.prot, t.quad, t.en, t.goes, t.job, t.busy, t.wipes⟩
/-- A chip that is not selected, and what it is. -/
structure At (c : Cor) (t : St) : Prop where
  cor : t.cor = c
  sel : t.sel = false
def Cor.new (a : ByteArray) : Cor := ⟨a, false, false, false, false, none, [], fun _ => 0⟩
theorem at_new (a : ByteArray) : At (Cor.new a) (St.new a) := ⟨rfl, rfl⟩
theorem At.a {c : Cor} {t : St} (h : At c t) : t.a = c.a := congrArg Cor.a h.cor
theorem At.goes {c : Cor} {t : St} (h : At c t) : t.goes = c.goes := congrArg Cor.goes h.cor
theorem At.job {c : Cor} {t : St} (h : At c t) : t.job = c.job := congrArg Cor.job h.cor
theorem At.quad {c : Cor} {t : St} (h : At c t) : t.quad = c.quad := congrArg Cor.quad h.cor
theorem At.en {c : Cor} {t : St} (h : At c t) : t.en = c.en := congrArg Cor.en h.cor
theorem At.prot {c : Cor} {t : St} (h : At c t) : t.prot = c.prot := congrArg Cor.prot h.cor
theorem At.busy {c : Cor} {t : St} (h : At c t) : t.busy = c.busy := congrArg Cor.busy h.cor
theorem At.wipes {c : Cor} {t : St} (h : At c t) : t.wipes = c.wipes := congrArg Cor.wipes h.cor
/-- But for what it tells just now. -/
def Tel (s t : St) : Prop := t = { s with now := t.now, left := t.left, told := t.told, tabled := t.tabled }
theorem Tel.refl (s : St) : Tel s s := rfl
theorem Tel.trans {s t u : St} (h : Tel s t) (k : Tel t u) : Tel s u := by
  unfold Tel at h k ⊢
  rw [k, h]
theorem says_tel (s : St) : Tel s s.says.1 := by
  have h1 : Tel s s.says1 := by
    unfold St.says1 Tel
    split <;> rfl
  unfold St.says
  dsimp only
  split
  · exact h1.trans rfl
  · exact h1.trans rfl
theorem clock_tel {s : St} (hj : s.job = none) (hs : s.sel = true) (h6 : s.stage = 6) (x : Int) : Tel s (s.clock x).1 := by
  have hc : s.clock x = s.says := by
    unfold St.clock
    rw [pass_none hj]
    dsimp only
    rw [if_pos hs]
    unfold St.clockIn
    rw [if_neg (by omega), if_neg (by omega), if_neg (by omega), if_neg (by omega), if_neg (by omega), if_pos h6]
  rw [hc]
  exact says_tel s
theorem runC_tel (xs : List Int) : ∀ {s : St}, s.job = none → s.sel = true → s.stage = 6 → Tel s (runC s xs).1 := by
  induction xs with
  | nil => intro s _ _ _; exact Tel.refl s
  | cons x xs ih =>
    intro s hj hs h6
    have h := clock_tel hj hs h6 x
    have h' := h
    unfold Tel at h'
    rw [runC_cons]
    exact h.trans (ih (by rw [h']; exact hj) (by rw [h']; exact hs) (by rw [h']; exact h6))
theorem inL_tell (v : Int) (hv : 0 ≤ v ∧ v ≤ 255) : inL 1 (tellL v) = v := by
  have hb : ∀ k : Int, (13 + 2 * (v / k % 2)) / 2 % 2 = v / k % 2 := by
    intro k
    generalize v / k = q
    omega
  show (((((((0 * 2 + (13 + 2 * (v / 128 % 2)) / 2 % 2) * 2 + (13 + 2 * (v / 64 % 2)) / 2 % 2) * 2 + (13 + 2 * (v / 32 % 2)) / 2 % 2) * 2 + (13 + 2 * (v / 16 % 2)) / 2 % 2) * 2 + (13 + 2 * (v / 8 % 2)) / 2 % 2) * 2 + (13 + 2 * (v / 4 % 2)) / 2 % 2) * 2 + (13 + 2 * (v / 2 % 2)) / 2 % 2) * 2 + (13 + 2 * (v / 1 % 2)) / 2 % 2 = v
  rw [hb, hb, hb, hb, hb, hb, hb, hb]
  have e7 : 0 * 2 + v / 128 % 2 = v / 128 := by omega
  rw [e7, show v / 128 * 2 + v / 64 % 2 = v / 64 by omega, show v / 64 * 2 + v / 32 % 2 = v / 32 by omega, show v / 32 * 2 + v / 16 % 2 = v / 16 by omega, show v / 16 * 2 + v / 8 % 2 = v / 8 by omega, show v / 8 * 2 + v / 4 % 2 = v / 4 by omega, show v / 4 * 2 + v / 2 % 2 = v / 2 by omega]
  omega
theorem groups_tell (m : Nat) : ∀ (f : Nat → Int), (∀ i, 0 ≤ f i ∧ f i ≤ 255) → groups 1 m ((List.range m).flatMap fun i => tellL (f i)) = (List.range m).map f := by
  induction m with
  | zero => intro f _; rfl
  | succ m ih =>
    intro f hf
    have h8 : ((8 : Int) / 1).toNat = 8 := rfl
    have hl : (tellL (f 0)).length = 8 := rfl
    rw [List.range_succ_eq_map, List.flatMap_cons, List.flatMap_map, groups, h8, List.take_append_of_le_length (by omega), List.take_of_length_le (by omega), List.drop_append_of_le_length (by omega), List.drop_of_length_le (by omega), List.nil_append, inL_tell _ (hf 0), ih (fun i => f (Nat.succ i)) (fun i => hf _), List.map_cons, List.map_map]
    rfl
theorem says_nil (l n : Int) : Ph.says ⟨l, [], 0, n⟩ = [] := rfl
theorem ins_bytes1 (bs : List Int) : Ph.ins ⟨1, bs, 0, 0⟩ = wordL bs := by
  unfold Ph.ins Ph.says
  show bs.flatMap (fun b => outsL b 1) ++ List.replicate 0 15 ++ List.replicate 0 15 = _
  rw [List.replicate_zero, List.append_nil, List.append_nil]
  rfl
theorem ins_read1 (m : Nat) : Ph.ins ⟨1, [], 0, m⟩ = List.replicate (8 * m) 15 := by
  unfold Ph.ins
  rw [says_nil, List.nil_append]
  show List.replicate (8 * ((m : Int)).toNat) 15 = _
  rw [Int.toNat_natCast]
/-- The phases of a read on one lane. -/
def readPh (k : Int) (m : Nat) : List Ph := [⟨1, [3, 0, k / 256, k % 256], 0, 0⟩, ⟨1, [], 0, m⟩]
theorem read1_all {c : Cor} {t : St} (h : At c t) (hg : c.goes = false) (hj : c.job = none) (k : Int) (hk : 0 ≤ k ∧ k < 4096) (m : Nat) :
    ∃ d : Drv, Drv.phases ⟨t.select, [], 0, -1⟩ (readPh k m) = (d, true) ∧ d.clocks = 32 + 8 * (m : Int) ∧ d.out = (List.range m).map (fun (i : Nat) => byteOf c.a ((k + (i : Int)) % 4096).toNat) ∧ At c d.s.deselect ∧ d.s.sel = true := by
  have htg := h.goes.trans hg
  have htj := h.job.trans hj
  have hins : phsIns (readPh k m) = wordL [3, 0, k / 256, k % 256] ++ List.replicate (8 * m) 15 := by
    unfold phsIns readPh
    rw [List.flatMap_cons, List.flatMap_cons, List.flatMap_nil, ins_bytes1, ins_read1, List.append_nil]
  have hf := phases_free (readPh k m) ⟨t.select, [], 0, -1⟩ (show (-1 : Int) < 0 by decide)
  dsimp only at hf
  rw [hins, runC_app, hd3 t htg htj k] at hf
  dsimp only at hf
  have htells := tells m (s := t.hd 3 (addrOf k)) htj rfl rfl rfl rfl
  have htel := runC_tel (List.replicate (8 * m) 15) (s := t.hd 3 (addrOf k)) htj rfl rfl
  rw [htells] at hf
  have houts : phsOuts (readPh k m) (List.replicate 32 15 ++ (List.range m).flatMap fun (i : Nat) => tellL ((t.hd 3 (addrOf k)).byteAt ((t.hd 3 (addrOf k)).told + (i : Int)))) = (List.range m).map (fun (i : Nat) => byteOf c.a ((k + (i : Int)) % 4096).toNat) := by
    unfold readPh
    rw [phsOuts, phsOuts, phsOuts, ins_bytes1, says_nil, List.append_nil]
    show [] ++ groups 1 ((m : Int)).toNat (List.drop 0 (List.drop (wordL [3, 0, k / 256, k % 256]).length _)) = _
    rw [Int.toNat_natCast, List.nil_append, List.drop_zero, show (wordL [3, 0, k / 256, k % 256]).length = 32 from rfl, List.drop_append_of_le_length (by rw [List.length_replicate]; exact Nat.le_refl _), List.drop_of_length_le (by rw [List.length_replicate]; exact Nat.le_refl _), List.nil_append]
    have hby : ∀ i : Nat, (t.hd 3 (addrOf k)).byteAt ((t.hd 3 (addrOf k)).told + (i : Int)) = byteOf c.a ((k + (i : Int)) % 4096).toNat := by
      intro i
      rw [byteAt_3 rfl, ← h.a]
      show byteOf t.a ((addrOf k + (0 + (i : Int))) % 4096).toNat = _
      rw [addrOf_eq k hk, Int.zero_add]
    simp only [hby]
    exact groups_tell m _ (fun i => byteOf_bd _ _)
  refine ⟨_, hf, ?_, ?_, ?_, ?_⟩
  · dsimp only
    rw [List.length_append, List.length_replicate, show (wordL [3, 0, k / 256, k % 256]).length = 32 from rfl]
    omega
  · dsimp only
    rw [List.nil_append]
    exact houts
  · dsimp only
    unfold Tel at htel
    generalize (runC (t.hd 3 (addrOf k)) (List.replicate (8 * m) 15)).1 = u at htel
    obtain ⟨ua, uprot, uquad, uwipes, utabled, usel, uen, ugoes, ujob, ubusy, uop, ustage, uleft, ugot, uaddr, umode, umoded, udata, utold, unow, ubeyond⟩ := u
    obtain ⟨hcor, -⟩ := h
    rw [htel]
    refine ⟨?_, by kernel_rfl⟩
    rw [← hcor]
    kernel_rfl
  · dsimp only
    unfold Tel at htel
    rw [htel]
    rfl
/-- A read with no command ahead of it. -/
theorem read0_all {c : Cor} {t : St} (h : At c t) (hg : c.goes = false) (hj : c.job = none) (m : Nat) (hm : 1 ≤ m) :
    ∃ d : Drv, Drv.phases ⟨t.select, [], 0, -1⟩ [⟨1, [], 0, m⟩] = (d, true) ∧ d.clocks = 8 * (m : Int) ∧ d.out = List.replicate m 255 ∧ d.s.sel = true := by
  have htg := h.goes.trans hg
  have htj := h.job.trans hj
  have hins : phsIns [⟨1, [], 0, (m : Int)⟩] = byteBits 255 ++ List.replicate (8 * (m - 1)) 15 := by
    unfold phsIns
    rw [List.flatMap_cons, List.flatMap_nil, ins_read1, List.append_nil, show byteBits 255 = List.replicate 8 15 from by decide, List.replicate_append_replicate]
    congr 1
    omega
  have hf := phases_free [⟨1, [], 0, (m : Int)⟩] ⟨t.select, [], 0, -1⟩ (show (-1 : Int) < 0 by decide)
  dsimp only at hf
  have hw : t.works = false := by unfold St.works; rw [htj]
  have hsj : t.select.works = false := by
    unfold St.works St.select
    dsimp only
    rw [htg]
    show (match t.job with | some j => !j.susp | none => false) = false
    rw [htj]
  rw [hins, runC_still _ t.select hsj (select_sel t), runI_app] at hf
  have hsel : t.select.stage = 0 ∧ t.select.left = 8 ∧ t.select.got = 0 := by
    unfold St.select
    rw [htg]
    exact ⟨rfl, rfl, rfl⟩
  rw [runI_byte t.select hsel.1 hsel.2.1 hsel.2.2 255] at hf
  dsimp only at hf
  have hbn := begins_not ({ t.select with left := 0, got := byteIn 255 } : St) (byteIn 255) (by
    rw [show byteIn 255 = 255 from by decide]
    unfold St.known
    rw [show opIs 255 = false from by decide]
    rfl)
  rw [hbn] at hf
  have hone := runI_1 (List.replicate (8 * (m - 1)) 15) (({ ({ t.select with left := 0, got := byteIn 255 } : St) with op := opOf (byteIn 255) } : St).enter 1 0) rfl
  rw [hone] at hf
  dsimp only at hf
  refine ⟨_, hf, ?_, ?_, ?_⟩
  · dsimp only
    rw [List.length_append, List.length_replicate, show (byteBits 255).length = 8 from rfl]
    omega
  · dsimp only
    rw [List.nil_append, List.length_replicate, List.replicate_append_replicate, show 8 + 8 * (m - 1) = 8 * m by omega, phsOuts, phsOuts, says_nil, List.append_nil, List.length_nil, List.drop_zero]
    show groups 1 ((m : Int)).toNat _ = _
    rw [Int.toNat_natCast]
    clear hf hins hone hbn hm
    induction m with
    | zero => rfl
    | succ m ih =>
      rw [groups, show ((8 : Int) / 1).toNat = 8 from rfl, show 8 * (m + 1) = 8 + 8 * m by omega, ← List.replicate_append_replicate, List.take_append_of_le_length (by simp), List.take_of_length_le (by simp), List.drop_append_of_le_length (by simp), List.drop_of_length_le (by simp), List.nil_append, ih, show inL 1 (List.replicate 8 15) = 255 from by decide, List.replicate_succ]
  · dsimp only
    show ((t.select).sel) = true
    exact select_sel t
end Go.Proofs.YtbflnpkgbpckfaaGreat
