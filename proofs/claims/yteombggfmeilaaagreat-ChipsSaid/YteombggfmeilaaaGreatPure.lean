/- Plain laws of the chip's clocks: a number of eight bits on one lane. · A read on one lane, in plain. · Heads of commands, in plain: a chip on which nothing is under way. · Four lanes, quad; a page that is programmed: in plain. · Runs of a command on a chip that is at work, or is not: in plain. -/
import Derived.Test.YteombggfmeilaaaGreatSayP
import Derived.Test.YteombggfmeilaaaGreatWireM
import Derived.KernelRfl
namespace Go.Proofs.YteombggfmeilaaaGreat
open Go.RowKit
theorem foldC (l : List Int) (p : St × List Int) : l.foldl (fun (p : St × List Int) x => ((p.1.clock x).1, p.2 ++ [(p.1.clock x).2])) p = ((runC p.1 l).1, p.2 ++ (runC p.1 l).2) := by
  induction l generalizing p with
  | nil => simp [runC]
  | cons x l ih =>
    have h1 : runC p.1 (x :: l) = l.foldl (fun (p : St × List Int) x => ((p.1.clock x).1, p.2 ++ [(p.1.clock x).2])) ((p.1.clock x).1, [] ++ [(p.1.clock x).2]) := rfl
    rw [List.foldl_cons, ih, h1, ih]
    simp
theorem runC_app (s : St) (xs ys : List Int) : runC s (xs ++ ys) = ((runC (runC s xs).1 ys).1, (runC s xs).2 ++ (runC (runC s xs).1 ys).2) := by
  have h : runC s (xs ++ ys) = ys.foldl (fun (p : St × List Int) x => ((p.1.clock x).1, p.2 ++ [(p.1.clock x).2])) (runC s xs) := by
    unfold runC
    rw [List.foldl_append]
  rw [h, foldC]
theorem runC_cons (s : St) (x : Int) (xs : List Int) : runC s (x :: xs) = ((runC (s.clock x).1 xs).1, (s.clock x).2 :: (runC (s.clock x).1 xs).2) := by
  have := runC_app s [x] xs
  rw [List.singleton_append] at this
  rw [this]
  rfl
/-- A chip on which nothing is under way lets a clock pass unturned. -/
theorem pass_none {s : St} (h : s.job = none) : s.pass = s := by unfold St.pass; rw [h]
/-- One bit of a command's byte, on a chip on which nothing is under way. -/
theorem bit0 {s : St} (hj : s.job = none) (hs : s.sel = true) (h0 : s.stage = 0) (hl : s.left ≠ 1) (x : Int) : s.clock x = ({ s with got := s.got * 2 + x % 2, left := s.left - 1 }, 15) := by
  unfold St.clock
  rw [pass_none hj]
  dsimp only
  rw [if_pos hs]
  unfold St.clockIn
  rw [if_pos h0]
  dsimp only
  rw [if_neg (show ¬ (s.takesIn x 1).left = 0 by show ¬ s.left - 1 = 0; omega)]
  rfl
theorem bit0_last {s : St} (hj : s.job = none) (hs : s.sel = true) (h0 : s.stage = 0) (hl : s.left = 1) (x : Int) : s.clock x = (({ s with got := s.got * 2 + x % 2, left := s.left - 1 } : St).begins (s.got * 2 + x % 2), 15) := by
  unfold St.clock
  rw [pass_none hj]
  dsimp only
  rw [if_pos hs]
  unfold St.clockIn
  rw [if_pos h0]
  dsimp only
  rw [if_pos (show (s.takesIn x 1).left = 0 by show s.left - 1 = 0; omega)]
  rfl
/-- A chip with another number that comes. -/
def St.num (s : St) (l g : Int) : St := { s with got := g, left := l }
theorem num_bit {s : St} (hj : s.job = none) (hs : s.sel = true) (h0 : s.stage = 0) (l g : Int) (hl : l ≠ 1) (x : Int) (xs : List Int) : runC (s.num l g) (x :: xs) = ((runC (s.num (l - 1) (g * 2 + x % 2)) xs).1, 15 :: (runC (s.num (l - 1) (g * 2 + x % 2)) xs).2) := by
  rw [runC_cons, bit0 (s := s.num l g) hj hs h0 hl]
  rfl
theorem num_last {s : St} (hj : s.job = none) (hs : s.sel = true) (h0 : s.stage = 0) (g : Int) (x : Int) : runC (s.num 1 g) [x] = ((s.num 0 (g * 2 + x % 2)).begins (g * 2 + x % 2), [15]) := by
  rw [runC_cons, bit0_last (s := s.num 1 g) hj hs h0 rfl]
  rfl
set_option maxHeartbeats 1000000 in
/-- A command's byte, on a chip on which nothing is under way. -/
theorem byte0 {s : St} (hj : s.job = none) (hs : s.sel = true) (h0 : s.stage = 0) (hl : s.left = 8) (hg : s.got = 0) (b : Int) (hb : 0 ≤ b ∧ b ≤ 255) : runC s (byteBits b) = ((s.num 0 b).begins b, List.replicate 8 15) := by
  have h : s = s.num 8 0 := by
    cases s
    simp only at hl hg
    subst hl
    subst hg
    rfl
  have e : (((((((0 * 2 + (14 + b / 128 % 2) % 2) * 2 + (14 + b / 64 % 2) % 2) * 2 + (14 + b / 32 % 2) % 2) * 2 + (14 + b / 16 % 2) % 2) * 2 + (14 + b / 8 % 2) % 2) * 2 + (14 + b / 4 % 2) % 2) * 2 + (14 + b / 2 % 2) % 2) * 2 + (14 + b % 2) % 2 = b := by
    have h1 : ∀ v : Int, (14 + v % 2) % 2 = v % 2 := fun v => by omega
    rw [h1, h1, h1, h1, h1, h1, h1, h1]
    have e7 : 0 * 2 + b / 128 % 2 = b / 128 := by omega
    rw [e7, show b / 128 * 2 + b / 64 % 2 = b / 64 by omega, show b / 64 * 2 + b / 32 % 2 = b / 32 by omega, show b / 32 * 2 + b / 16 % 2 = b / 16 by omega, show b / 16 * 2 + b / 8 % 2 = b / 8 by omega, show b / 8 * 2 + b / 4 % 2 = b / 4 by omega, show b / 4 * 2 + b / 2 % 2 = b / 2 by omega]
    omega
  rw [h]
  unfold byteBits
  rw [num_bit hj hs h0 8 _ (by decide), show (8 : Int) - 1 = 7 from rfl, num_bit hj hs h0 7 _ (by decide), show (7 : Int) - 1 = 6 from rfl, num_bit hj hs h0 6 _ (by decide), show (6 : Int) - 1 = 5 from rfl,
    num_bit hj hs h0 5 _ (by decide), show (5 : Int) - 1 = 4 from rfl, num_bit hj hs h0 4 _ (by decide), show (4 : Int) - 1 = 3 from rfl, num_bit hj hs h0 3 _ (by decide), show (3 : Int) - 1 = 2 from rfl, num_bit hj hs h0 2 _ (by decide), show (2 : Int) - 1 = 1 from rfl, num_last hj hs h0, e]
  rfl
/-- What bits on one lane make of a number. -/
def bitsOn (g : Int) (xs : List Int) : Int := xs.foldl (fun g x => g * 2 + x % 2) g
theorem bitsOn_app (g : Int) (xs ys : List Int) : bitsOn g (xs ++ ys) = bitsOn (bitsOn g xs) ys := by unfold bitsOn; rw [List.foldl_append]
theorem bitsOn_byte (g b : Int) (hb : 0 ≤ b ∧ b ≤ 255) : bitsOn g (byteBits b) = g * 256 + b := by
  have h1 : ∀ v : Int, (14 + v % 2) % 2 = v % 2 := fun v => by omega
  show (((((((g * 2 + (14 + b / 128 % 2) % 2) * 2 + (14 + b / 64 % 2) % 2) * 2 + (14 + b / 32 % 2) % 2) * 2 + (14 + b / 16 % 2) % 2) * 2 + (14 + b / 8 % 2) % 2) * 2 + (14 + b / 4 % 2) % 2) * 2 + (14 + b / 2 % 2) % 2) * 2 + (14 + b % 2) % 2 = g * 256 + b
  rw [h1, h1, h1, h1, h1, h1, h1, h1]
  have e7 : b / 128 % 2 = b / 128 := by omega
  have e6 : b / 64 = b / 128 * 2 + b / 64 % 2 := by omega
  have e5 : b / 32 = b / 64 * 2 + b / 32 % 2 := by omega
  have e4 : b / 16 = b / 32 * 2 + b / 16 % 2 := by omega
  have e3 : b / 8 = b / 16 * 2 + b / 8 % 2 := by omega
  have e2 : b / 4 = b / 8 * 2 + b / 4 % 2 := by omega
  have e1 : b / 2 = b / 4 * 2 + b / 2 % 2 := by omega
  have e0 : b = b / 2 * 2 + b % 2 := by omega
  generalize b / 128 % 2 = c7 at *
  generalize b / 64 % 2 = c6 at *
  generalize b / 32 % 2 = c5 at *
  generalize b / 16 % 2 = c4 at *
  generalize b / 8 % 2 = c3 at *
  generalize b / 4 % 2 = c2 at *
  generalize b / 2 % 2 = c1 at *
  generalize b % 2 = c0 at *
  omega
/-- An address on one lane, on a chip on which nothing is under way. -/
theorem addr1 {s : St} (hj : s.job = none) (hs : s.sel = true) (h2 : s.stage = 2) (ha : s.op.addr = 1) (xs : List Int) : ∀ (l g : Int), 1 ≤ l → l = xs.length → runC (s.num l g) xs = (({ (s.num 0 (bitsOn g xs)) with addr := bitsOn g xs % 4096 } : St).behind, List.replicate xs.length 15) := by
  induction xs with
  | nil => intro l g h1 h2; simp at h2; omega
  | cons x xs ih =>
    intro l g h1 hl
    have hstep : (s.num l g).clock x = (if l - 1 = 0 then ({ (s.num (l - 1) (g * 2 + x % 2)) with addr := (g * 2 + x % 2) % 4096 } : St).behind else s.num (l - 1) (g * 2 + x % 2), 15) := by
      unfold St.clock
      rw [pass_none (show (s.num l g).job = none from hj)]
      dsimp only
      rw [if_pos (show (s.num l g).sel = true from hs)]
      unfold St.clockIn
      rw [if_neg (show ¬ (s.num l g).stage = 0 by show ¬ s.stage = 0; omega), if_pos (show (s.num l g).stage = 2 from h2)]
      have ht : (s.num l g).takesIn x (s.num l g).op.addr = s.num (l - 1) (g * 2 + x % 2) := by
        unfold St.takesIn
        rw [if_pos (show (s.num l g).op.addr = 1 from ha)]
        rfl
      rw [ht]
      rfl
    rw [runC_cons, hstep]
    cases xs with
    | nil =>
      have hl1 : l - 1 = 0 := by simp at hl; omega
      rw [if_pos hl1, hl1]
      rfl
    | cons y ys =>
      have hl1 : ¬ l - 1 = 0 := by simp at hl; omega
      rw [if_neg hl1]
      dsimp only
      rw [ih (l - 1) (g * 2 + x % 2) (by simp at hl; omega) (by simp at hl ⊢; omega)]
      rfl
/-- A chip that tells the byte v, l bits of which are left. -/
def St.telling (s : St) (v l : Int) : St := { s with now := v, left := l, told := s.told + 1, tabled := s.tabled || decide (s.op.byte = 90) }
theorem tell_first {s : St} (hj : s.job = none) (hs : s.sel = true) (h6 : s.stage = 6) (hd : s.op.data = 1) (hl : s.left = 0) (x : Int) : s.clock x = (s.telling (s.byteAt s.told) 7, 13 + 2 * (s.byteAt s.told / 128 % 2)) := by
  unfold St.clock
  rw [pass_none hj]
  dsimp only
  rw [if_pos hs]
  unfold St.clockIn
  rw [if_neg (by omega), if_neg (by omega), if_neg (by omega), if_neg (by omega), if_neg (by omega), if_pos h6]
  unfold St.says
  have h1 : s.says1 = s.telling (s.byteAt s.told) 8 := by
    unfold St.says1
    rw [if_pos hl, hd]
    rfl
  dsimp only
  rw [if_pos hd, h1]
  rfl
theorem tell_next {s : St} (hj : s.job = none) (hs : s.sel = true) (h6 : s.stage = 6) (hd : s.op.data = 1) (v l : Int) (hl : ¬ l = 0) (x : Int) : (s.telling v l).clock x = (s.telling v (l - 1), 13 + 2 * (v / 2 ^ (l - 1).toNat % 2)) := by
  unfold St.clock
  rw [pass_none (show (s.telling v l).job = none from hj)]
  dsimp only
  rw [if_pos (show (s.telling v l).sel = true from hs)]
  unfold St.clockIn
  have h6' : (s.telling v l).stage = 6 := h6
  rw [if_neg (by omega), if_neg (by omega), if_neg (by omega), if_neg (by omega), if_neg (by omega), if_pos h6']
  unfold St.says
  have h1 : (s.telling v l).says1 = s.telling v l := by
    unfold St.says1
    rw [if_neg (show ¬ (s.telling v l).left = 0 from hl)]
  dsimp only
  rw [if_pos (show (s.telling v l).op.data = 1 from hd), h1]
  rfl
/-- A byte that is told on one lane. -/
def tellL (v : Int) : List Int := [13 + 2 * (v / 128 % 2), 13 + 2 * (v / 64 % 2), 13 + 2 * (v / 32 % 2), 13 + 2 * (v / 16 % 2), 13 + 2 * (v / 8 % 2), 13 + 2 * (v / 4 % 2), 13 + 2 * (v / 2 % 2), 13 + 2 * (v / 1 % 2)]
theorem tell1 {s : St} (hj : s.job = none) (hs : s.sel = true) (h6 : s.stage = 6) (hd : s.op.data = 1) (hl : s.left = 0) : runC s (List.replicate 8 15) = (s.telling (s.byteAt s.told) 0, tellL (s.byteAt s.told)) := by
  obtain ⟨v, hv⟩ : ∃ v, s.byteAt s.told = v := ⟨_, rfl⟩
  rw [show List.replicate 8 (15 : Int) = [15, 15, 15, 15, 15, 15, 15, 15] from rfl]
  rw [runC_cons, tell_first hj hs h6 hd hl, hv]
  dsimp only
  rw [runC_cons, tell_next hj hs h6 hd v 7 (by decide), show (7 : Int) - 1 = 6 from rfl]
  dsimp only
  rw [runC_cons, tell_next hj hs h6 hd v 6 (by decide), show (6 : Int) - 1 = 5 from rfl]
  dsimp only
  rw [runC_cons, tell_next hj hs h6 hd v 5 (by decide), show (5 : Int) - 1 = 4 from rfl]
  dsimp only
  rw [runC_cons, tell_next hj hs h6 hd v 4 (by decide), show (4 : Int) - 1 = 3 from rfl]
  dsimp only
  rw [runC_cons, tell_next hj hs h6 hd v 3 (by decide), show (3 : Int) - 1 = 2 from rfl]
  dsimp only
  rw [runC_cons, tell_next hj hs h6 hd v 2 (by decide), show (2 : Int) - 1 = 1 from rfl]
  dsimp only
  rw [runC_cons, tell_next hj hs h6 hd v 1 (by decide), show (1 : Int) - 1 = 0 from rfl]
  rfl
theorem telling_byteAt (s : St) (v l i : Int) : (s.telling v l).byteAt i = s.byteAt i := rfl
/-- Bytes that are told in a row on one lane. -/
theorem tells (m : Nat) : ∀ {s : St}, s.job = none → s.sel = true → s.stage = 6 → s.op.data = 1 → s.left = 0 → (runC s (List.replicate (8 * m) 15)).2 = (List.range m).flatMap fun (i : Nat) => tellL (s.byteAt (s.told + (i : Int))) := by
  induction m with
  | zero => intro s _ _ _ _ _; rfl
  | succ m ih =>
    intro s hj hs h6 hd hl
    rw [show 8 * (m + 1) = 8 + 8 * m by omega, ← List.replicate_append_replicate, runC_app, tell1 hj hs h6 hd hl]
    dsimp only
    rw [ih (s := s.telling (s.byteAt s.told) 0) hj hs h6 hd rfl, List.range_succ_eq_map, List.flatMap_cons, List.flatMap_map]
    congr 1
    · rw [show s.told + ((0 : Nat) : Int) = s.told by omega]
    · congr 1
      funext i
      rw [telling_byteAt, show (s.telling (s.byteAt s.told) 0).told = s.told + 1 from rfl, show s.told + ((Nat.succ i : Nat) : Int) = s.told + 1 + (i : Int) by omega]
end Go.Proofs.YteombggfmeilaaaGreat
namespace Go.Proofs.YteombggfmeilaaaGreat
open Go.RowKit
theorem wordL_app (xs ys : List Int) : wordL (xs ++ ys) = wordL xs ++ wordL ys := by unfold wordL; rw [List.flatMap_append]
theorem wordL_cons (x : Int) (ys : List Int) : wordL (x :: ys) = byteBits x ++ wordL ys := by unfold wordL; rw [List.flatMap_cons]
theorem behind_3 {t : St} (hop : t.op = opOf 3) : t.behind = t.enter 6 0 := by
  unfold St.behind
  rw [hop]
  have h1 : ((opOf 3).mode && !t.moded) = false := by rw [show (opOf 3).mode = false from rfl]; rfl
  rw [h1, if_neg (by decide), if_neg (fun h => absurd h.1 (by decide)), if_neg (by decide), if_neg (by decide)]
theorem byteAt_3 {t : St} (hop : t.op = opOf 3) (i : Int) : t.byteAt i = byteOf t.a ((t.addr + i) % 4096).toNat := by
  unfold St.byteAt
  rw [hop, if_neg (by decide), if_neg (by decide), if_neg (by decide), if_neg (by decide)]
theorem reads_law (a : ByteArray) (k : Int) (hk : 0 ≤ k ∧ k < 4096) (m : Nat) :
    ((St.new a).said (wordL [3, 0, k / 256, k % 256] ++ List.replicate (8 * m) 15)).2 = List.replicate 32 15 ++ (List.range m).flatMap fun (i : Nat) => tellL (byteOf a ((k + (i : Int)) % 4096).toNat) := by
  show (runC (St.new a).select _).2 = _
  rw [wordL_cons, List.append_assoc, runC_app, byte0 (s := (St.new a).select) rfl rfl rfl rfl rfl 3 (by decide)]
  dsimp only
  obtain ⟨t, ht⟩ : ∃ t, ((St.new a).select.num 0 3).begins 3 = t := ⟨_, rfl⟩
  have hj : t.job = none := by rw [← ht]; rfl
  have hs : t.sel = true := by rw [← ht]; rfl
  have h2 : t.stage = 2 := by rw [← ht]; rfl
  have ha : t.op.addr = 1 := by rw [← ht]; rfl
  have hn : t = t.num 24 0 := by rw [← ht]; rfl
  have hop : t.op = opOf 3 := by rw [← ht]; rfl
  have hA : t.a = a := by rw [← ht]; rfl
  have htold : t.told = 0 := by rw [← ht]; rfl
  have hmd : t.moded = false := by rw [← ht]; rfl
  rw [ht]
  clear ht
  have hbits : bitsOn 0 (wordL [0, k / 256, k % 256]) = k := by
    rw [wordL_cons, wordL_cons, wordL_cons, bitsOn_app, bitsOn_app, bitsOn_app, bitsOn_byte _ (k % 256) (by omega), bitsOn_byte _ (k / 256) (by omega), bitsOn_byte _ 0 (by decide)]
    show ((0 * 256 + 0) * 256 + k / 256) * 256 + k % 256 = k
    omega
  have had := addr1 hj hs h2 ha (wordL [0, k / 256, k % 256]) 24 0 (by decide) rfl
  rw [← hn, hbits] at had
  rw [runC_app, had]
  dsimp only
  obtain ⟨u, hu⟩ : ∃ u, ({ (t.num 0 k) with addr := k % 4096 } : St).behind = u := ⟨_, rfl⟩
  have hbe : u = ({ (t.num 0 k) with addr := k % 4096 } : St).enter 6 0 := by
    rw [← hu]
    exact behind_3 hop
  rw [hu]
  clear hu
  rw [tells m (s := u) (by rw [hbe]; exact hj) (by rw [hbe]; exact hs) (by rw [hbe]; rfl) (by rw [hbe]; show t.op.data = 1; rw [hop]; rfl) (by rw [hbe]; rfl)]
  have hby : ∀ i : Nat, u.byteAt (u.told + (i : Int)) = byteOf a ((k + (i : Int)) % 4096).toNat := by
    intro i
    rw [byteAt_3 (show u.op = opOf 3 by rw [hbe]; exact hop), show u.told = 0 by rw [hbe]; exact htold, show u.addr = k % 4096 by rw [hbe]; rfl, show u.a = a by rw [hbe]; exact hA]
    rw [show (k % 4096 + (0 + (i : Int))) % 4096 = (k + (i : Int)) % 4096 by omega]
  rw [show (fun (i : Nat) => tellL (u.byteAt (u.told + (i : Int)))) = (fun (i : Nat) => tellL (byteOf a ((k + (i : Int)) % 4096).toNat)) from funext fun i => by rw [hby i]]
  rw [← List.append_assoc]
  rfl
end Go.Proofs.YteombggfmeilaaaGreat
namespace Go.Proofs.YteombggfmeilaaaGreat
open Go.RowKit
/-- A chip that tells, behind a command's head. -/
def St.hd (s : St) (c A : Int) : St := { s with sel := true, op := opOf c, stage := 6, left := 0, got := 0, addr := A, mode := 0, moded := false, data := [], told := 0, now := 0, beyond := false }
def addrOf (k : Int) : Int := bitsOn 0 (wordL [0, k / 256, k % 256]) % 4096
theorem addrOf_eq (k : Int) (hk : 0 ≤ k ∧ k < 4096) : addrOf k = k := by
  unfold addrOf
  rw [wordL_cons, wordL_cons, wordL_cons, bitsOn_app, bitsOn_app, bitsOn_app, bitsOn_byte _ (k % 256) (by omega), bitsOn_byte _ (k / 256) (by omega), bitsOn_byte _ 0 (by decide)]
  show (((0 * 256 + 0) * 256 + k / 256) * 256 + k % 256) % 4096 = k
  omega
theorem hd90 (s : St) (hg : s.goes = false) (hj : s.job = none) (k : Int) : runC s.select (wordL [90, 0, k / 256, k % 256] ++ List.replicate 8 15) = (s.hd 90 (addrOf k), List.replicate 40 15) := by
  obtain ⟨a, prot, quad, wipes, tabled, sel, en, goes, job, busy, op, stage, left, got, addr, mode, moded, data, told, now, beyond⟩ := s
  change goes = false at hg
  change job = none at hj
  subst hg
  subst hj
  kernel_rfl
theorem hd3 (s : St) (hg : s.goes = false) (hj : s.job = none) (k : Int) : runC s.select (wordL [3, 0, k / 256, k % 256]) = (s.hd 3 (addrOf k), List.replicate 32 15) := by
  obtain ⟨a, prot, quad, wipes, tabled, sel, en, goes, job, busy, op, stage, left, got, addr, mode, moded, data, told, now, beyond⟩ := s
  change goes = false at hg
  change job = none at hj
  subst hg
  subst hj
  kernel_rfl
theorem byteAt_90 {t : St} (hop : t.op = opOf 90) (i : Int) : t.byteAt i = byteOf sfdpTab ((t.addr + i) % 32).toNat := by
  unfold St.byteAt
  rw [hop, if_neg (by decide), if_neg (by decide), if_neg (by decide), if_pos (by decide)]
theorem word_in (bs : List Int) : ∀ x ∈ wordL bs, 0 ≤ x ∧ x ≤ 15 := by
  intro x hx
  unfold wordL at hx
  rw [List.mem_flatMap] at hx
  obtain ⟨b, _, hb⟩ := hx
  simp only [byteBits, List.mem_cons, List.not_mem_nil, or_false] at hb
  omega
theorem app_in {xs ys : List Int} (h1 : ∀ x ∈ xs, 0 ≤ x ∧ x ≤ 15) (h2 : ∀ x ∈ ys, 0 ≤ x ∧ x ≤ 15) : ∀ x ∈ xs ++ ys, 0 ≤ x ∧ x ≤ 15 := fun x hx => (List.mem_append.1 hx).elim (h1 x) (h2 x)
theorem rep_in (n : Nat) : ∀ x ∈ List.replicate n (15 : Int), 0 ≤ x ∧ x ≤ 15 := fun x hx => by have := List.eq_of_mem_replicate hx; omega
/-- SFDP, told. -/
theorem sfdp_law (s : St) (hg : s.goes = false) (hj : s.job = none) (k : Int) (hk : 0 ≤ k ∧ k < 4096) (m : Nat) :
    (s.said ((wordL [90, 0, k / 256, k % 256] ++ List.replicate 8 15) ++ List.replicate (8 * m) 15)).2 = List.replicate 40 15 ++ (List.range m).flatMap fun (i : Nat) => tellL (byteOf sfdpTab ((k + (i : Int)) % 32).toNat) := by
  show (runC s.select _).2 = _
  rw [runC_app, hd90 s hg hj k, addrOf_eq k hk]
  dsimp only
  rw [tells m (s := s.hd 90 k) hj rfl rfl rfl rfl]
  congr 1
  refine congrArg (fun f => List.flatMap f (List.range m)) (funext fun i => ?_)
  rw [byteAt_90 rfl]
  show tellL (byteOf sfdpTab ((k + (0 + (i : Int))) % 32).toNat) = _
  rw [show k + (0 + (i : Int)) = k + (i : Int) by omega]
end Go.Proofs.YteombggfmeilaaaGreat
namespace Go.Proofs.YteombggfmeilaaaGreat
open Go.RowKit
theorem quad_not (s : St) (hg : s.goes = false) (hj : s.job = none) (hq : s.quad = false) (k : Int) : (s.said ((wordL [107, 0, k / 256, k % 256] ++ List.replicate 8 15) ++ List.replicate 8 15)).2 = List.replicate 48 15 := by
  obtain ⟨a, prot, quad, wipes, tabled, sel, en, goes, job, busy, op, stage, left, got, addr, mode, moded, data, told, now, beyond⟩ := s
  change goes = false at hg
  change job = none at hj
  change quad = false at hq
  subst hg
  subst hj
  subst hq
  kernel_rfl
def nibs (v : Int) : List Int := [v / 16 % 16, v / 1 % 16]
theorem quad_yes (s : St) (hg : s.goes = false) (hj : s.job = none) (hq : s.quad = true) (k : Int) : (s.said ((wordL [107, 0, k / 256, k % 256] ++ List.replicate 8 15) ++ List.replicate 8 15)).2 = List.replicate 40 15 ++ (nibs (byteOf s.a ((addrOf k + 0) % 4096).toNat) ++ nibs (byteOf s.a ((addrOf k + 1) % 4096).toNat) ++ nibs (byteOf s.a ((addrOf k + 2) % 4096).toNat) ++ nibs (byteOf s.a ((addrOf k + 3) % 4096).toNat)) := by
  obtain ⟨a, prot, quad, wipes, tabled, sel, en, goes, job, busy, op, stage, left, got, addr, mode, moded, data, told, now, beyond⟩ := s
  change goes = false at hg
  change job = none at hj
  change quad = true at hq
  subst hg
  subst hj
  subst hq
  kernel_rfl
/-- Quad is set. -/
def qd1 (a : ByteArray) : St := ((St.new a).said (wordL [6])).1
def qd2 (a : ByteArray) : St := ((qd1 a).said (wordL [1, 0, 2])).1
theorem qd1_sel (a : ByteArray) : (qd1 a).sel = false := by kernel_rfl
theorem qd2_sel (a : ByteArray) : (qd2 a).sel = false := by kernel_rfl
theorem qd2_goes (a : ByteArray) : (qd2 a).goes = false := by kernel_rfl
theorem qd2_job (a : ByteArray) : (qd2 a).job = none := by kernel_rfl
theorem qd2_quad (a : ByteArray) : (qd2 a).quad = true := by kernel_rfl
theorem qd2_a (a : ByteArray) : (qd2 a).a = a := by kernel_rfl
theorem said_len (s : St) (xs : List Int) : (s.said xs).2.length = xs.length := runC_len _ _
/-- A byte is programmed. -/
def pg1 (s : St) : St := (s.said (wordL [6])).1
def pg2 (s : St) (k x : Int) : St := ((pg1 s).said (wordL [2, 0, k / 256, k % 256, x])).1
def pg3 (s : St) (k x : Int) : St := ((pg2 s k x).said (List.replicate 10 15)).1
def byteIn (x : Int) : Int := bitsOn 0 (byteBits x)
theorem pg_all (s : St) (hg : s.goes = false) (hj : s.job = none) (hp : s.prot = false) (hb : s.busy = []) (k x : Int) : (pg1 s).sel = false ∧ (pg2 s k x).sel = false ∧ (pg3 s k x).sel = false ∧ (pg3 s k x).goes = false ∧ (pg3 s k x).job = none ∧ (pg3 s k x).prot = false ∧ (pg3 s k x).busy = [] ∧ (pg3 s k x).a = progCut s.a (addrOf k - addrOf k % 32).toNat ⟨(pageOf (addrOf k) [byteIn x]).toArray⟩ all255 := by
  obtain ⟨a, prot, quad, wipes, tabled, sel, en, goes, job, busy, op, stage, left, got, addr, mode, moded, data, told, now, beyond⟩ := s
  change goes = false at hg
  change job = none at hj
  change prot = false at hp
  change busy = [] at hb
  subst hg
  subst hj
  subst hp
  subst hb
  refine ⟨?_, ?_, ?_, ?_, ?_, ?_, ?_, ?_⟩
  all_goals kernel_rfl
theorem said_of (s : St) (xs : List Int) (t : St) (ys : List Int) (h1 : (s.said xs).1 = t) (h2 : (s.said xs).2 = ys) : s.said xs = (t, ys) := by
  generalize s.said xs = p at h1 h2 ⊢
  exact Prod.ext h1 h2
theorem said_ex (s : St) (xs : List Int) (t : St) (h1 : (s.said xs).1 = t) : ∃ ys, s.said xs = (t, ys) := ⟨_, said_of s xs t _ h1 rfl⟩
theorem said_tells (s : St) (xs ys : List Int) (h2 : (s.said xs).2 = ys) : ∃ t, s.said xs = (t, ys) := ⟨_, said_of s xs _ ys rfl h2⟩
theorem qd1_said (a : ByteArray) : ∃ ys, (St.new a).said (wordL [6]) = (qd1 a, ys) := said_ex _ _ _ (by unfold qd1; rfl)
theorem qd2_said (a : ByteArray) : ∃ ys, (qd1 a).said (wordL [1, 0, 2]) = (qd2 a, ys) := said_ex _ _ _ (by unfold qd2; rfl)
theorem pg1_said (s : St) : ∃ ys, s.said (wordL [6]) = (pg1 s, ys) := said_ex _ _ _ (by unfold pg1; rfl)
theorem pg2_said (s : St) (k x : Int) : ∃ ys, (pg1 s).said (wordL [2, 0, k / 256, k % 256, x]) = (pg2 s k x, ys) := said_ex _ _ _ (by unfold pg2; rfl)
theorem pg3_said (s : St) (k x : Int) : ∃ ys, (pg2 s k x).said (List.replicate 10 15) = (pg3 s k x, ys) := said_ex _ _ _ (by unfold pg3; rfl)
end Go.Proofs.YteombggfmeilaaaGreat
namespace Go.Proofs.YteombggfmeilaaaGreat
open Go.RowKit
/-- Clocks of a command alone, with no time for what is under way. -/
def runI (s : St) : List Int → St × List Int
  | [] => (s, [])
  | x :: xs => ((runI (s.clockIn x).1 xs).1, (s.clockIn x).2 :: (runI (s.clockIn x).1 xs).2)
theorem runI_cons (s : St) (x : Int) (xs : List Int) : runI s (x :: xs) = ((runI (s.clockIn x).1 xs).1, (s.clockIn x).2 :: (runI (s.clockIn x).1 xs).2) := rfl
def Job.tk (j : Job) (n : Int) : Job := { j with left := j.left - n }
/-- So many clocks less are left of what is under way. -/
def St.tk (s : St) (n : Int) : St := { s with job := s.job.map fun j => j.tk n }
theorem tk_works (s : St) (n : Int) : (s.tk n).works = s.works := by
  unfold St.works St.tk
  cases s.job <;> rfl
theorem tk_susp (s : St) (n : Int) : (s.tk n).susp = s.susp := by
  unfold St.susp St.tk
  cases s.job <;> rfl
theorem tk_takes (s : St) (n b : Int) : (s.tk n).takes b = s.takes b := by
  unfold St.takes
  rw [tk_works]
  have h : (s.tk n).job.isNone = s.job.isNone := by unfold St.tk; cases s.job <;> rfl
  rw [h]
  rfl
theorem tk_known (s : St) (n b : Int) : (s.tk n).known b = s.known b := by
  unfold St.known
  rw [tk_takes]
theorem tk_enter (s : St) (n a c : Int) : (s.tk n).enter a c = (s.enter a c).tk n := rfl
theorem tk_behind (s : St) (n : Int) : (s.tk n).behind = s.behind.tk n := by
  unfold St.behind
  show (if s.op.mode && !s.moded then _ else if 0 < s.op.dummy ∧ s.stage ≠ 4 then _ else if s.op.data = 0 then _ else if s.op.inn then _ else _) = _
  split
  · rfl
  split
  · rfl
  split
  · rfl
  split <;> rfl
theorem tk_begins (s : St) (n b : Int) : (s.tk n).begins b = (s.begins b).tk n := by
  unfold St.begins
  dsimp only
  rw [tk_known]
  split
  · rfl
  split
  · rfl
  · exact tk_behind { s with op := opOf b } n
theorem tk_first (s : St) (n : Int) : (s.tk n).first = s.first := by
  show Go.Proofs.YteombggfmeilaaaGreat.first (s.tk n).works _ _ = Go.Proofs.YteombggfmeilaaaGreat.first s.works _ _
  rw [tk_works]
  rfl
theorem tk_second (s : St) (n : Int) : (s.tk n).second = s.second := by
  show Go.Proofs.YteombggfmeilaaaGreat.second _ (s.tk n).susp = Go.Proofs.YteombggfmeilaaaGreat.second _ s.susp
  rw [tk_susp]
  rfl
theorem tk_byteAt (s : St) (n i : Int) : (s.tk n).byteAt i = s.byteAt i := by
  unfold St.byteAt
  rw [tk_first, tk_second]
  rfl
theorem tk_says1 (s : St) (n : Int) : (s.tk n).says1 = s.says1.tk n := by
  unfold St.says1
  rw [tk_byteAt]
  show (if s.left = 0 then _ else _) = _
  split <;> rfl
theorem tk_says (s : St) (n : Int) : (s.tk n).says = (s.says.1.tk n, s.says.2) := by
  unfold St.says
  dsimp only
  rw [tk_says1]
  show (if s.op.data = 1 then _ else _) = _
  split <;> rfl
theorem tk_clockIn (s : St) (n x : Int) : (s.tk n).clockIn x = ((s.clockIn x).1.tk n, (s.clockIn x).2) := by
  unfold St.clockIn
  dsimp only
  rw [tk_says]
  show (if s.stage = 0 then _ else if s.stage = 2 then _ else if s.stage = 3 then _ else if s.stage = 4 then _ else if s.stage = 5 then _ else if s.stage = 6 then _ else if s.stage = 7 then _ else _) = _
  split
  · show (if (s.takesIn x 1).left = 0 then ((s.takesIn x 1).tk n).begins (s.takesIn x 1).got else (s.takesIn x 1).tk n, (15 : Int)) = _
    rw [tk_begins]
    split <;> rfl
  split
  · show (if (s.takesIn x s.op.addr).left = 0 then (({ (s.takesIn x s.op.addr) with addr := (s.takesIn x s.op.addr).got % 4096 } : St).tk n).behind else (s.takesIn x s.op.addr).tk n, (15 : Int)) = _
    rw [tk_behind]
    split <;> rfl
  split
  · show (if (s.takesIn x s.op.addr).left = 0 then (({ (s.takesIn x s.op.addr) with mode := (s.takesIn x s.op.addr).got, moded := true } : St).tk n).behind else (s.takesIn x s.op.addr).tk n, (15 : Int)) = _
    rw [tk_behind]
    split <;> rfl
  split
  · show (if s.left - 1 = 0 then (({ s with left := s.left - 1 } : St).tk n).behind else ({ s with left := s.left - 1 } : St).tk n, (15 : Int)) = _
    rw [tk_behind]
    split <;> rfl
  split
  · show (if (s.takesIn x s.op.data).left = 0 then (({ (s.takesIn x s.op.data) with data := (s.takesIn x s.op.data).data ++ [(s.takesIn x s.op.data).got] } : St).tk n).behind else (s.takesIn x s.op.data).tk n, (15 : Int)) = _
    rw [tk_behind]
    split <;> rfl
  split
  · rfl
  split <;> rfl
theorem tk_zero (s : St) : s.tk 0 = s := by
  unfold St.tk
  have h : (s.job.map fun j => j.tk 0) = s.job := by
    cases hj : s.job with
    | none => rfl
    | some j => show some (j.tk 0) = some j; unfold Job.tk; rw [Int.sub_zero]
  rw [h]
theorem tk_tk (s : St) (m n : Int) : (s.tk m).tk n = s.tk (m + n) := by
  unfold St.tk
  have h : ((s.job.map fun j => j.tk m).map fun j => j.tk n) = s.job.map fun j => j.tk (m + n) := by
    cases s.job with
    | none => rfl
    | some j => show some ((j.tk m).tk n) = some (j.tk (m + n)); unfold Job.tk; congr 2; show j.left - m - n = j.left - (m + n); omega
  show ({ s with job := (s.job.map fun j => j.tk m).map fun j => j.tk n } : St) = _
  rw [h]
theorem runI_tk (xs : List Int) : ∀ (s : St) (n : Int), runI (s.tk n) xs = ((runI s xs).1.tk n, (runI s xs).2) := by
  induction xs with
  | nil => intro s n; rfl
  | cons x xs ih =>
    intro s n
    unfold runI
    rw [tk_clockIn, ih]
theorem runI_len (xs : List Int) : ∀ s : St, (runI s xs).2.length = xs.length := by
  induction xs with
  | nil => intro s; rfl
  | cons x xs ih => intro s; unfold runI; rw [List.length_cons, ih, List.length_cons]
theorem runI_app (xs ys : List Int) : ∀ s : St, runI s (xs ++ ys) = ((runI (runI s xs).1 ys).1, (runI s xs).2 ++ (runI (runI s xs).1 ys).2) := by
  induction xs with
  | nil => intro s; rfl
  | cons x xs ih => intro s; rw [List.cons_append, runI_cons, ih, runI_cons]; rfl
theorem behind_job (s : St) : s.behind.job = s.job := by
  unfold St.behind
  repeat' split
  all_goals rfl
theorem begins_job (s : St) (c : Int) : (s.begins c).job = s.job := by
  unfold St.begins
  dsimp only
  split
  · rfl
  · split
    · rfl
    · rw [behind_job]
theorem says_job (s : St) : s.says.1.job = s.job := by
  have h1 : s.says1.job = s.job := by
    unfold St.says1
    split <;> rfl
  unfold St.says
  dsimp only
  split <;> exact h1
theorem clockIn_job (s : St) (x : Int) : (s.clockIn x).1.job = s.job := by
  unfold St.clockIn
  dsimp only
  split
  · split
    · rw [begins_job]; rfl
    · rfl
  split
  · split
    · rw [behind_job]; rfl
    · rfl
  split
  · split
    · rw [behind_job]; rfl
    · rfl
  split
  · split
    · rw [behind_job]
    · rfl
  split
  · split
    · rw [behind_job]; rfl
    · rfl
  split
  · exact says_job s
  split <;> rfl
/-- A run on a chip on which nothing is at work. -/
theorem runC_still (xs : List Int) : ∀ s : St, s.works = false → s.sel = true → runC s xs = runI s xs := by
  induction xs with
  | nil => intro s _ _; rfl
  | cons x xs ih =>
    intro s hw hs
    have hp : s.pass = s := by
      unfold St.pass
      unfold St.works at hw
      cases hj : s.job with
      | none => rfl
      | some j => rw [hj] at hw; simp at hw; dsimp only; rw [if_pos hw]
    have hc : s.clock x = s.clockIn x := by unfold St.clock; rw [hp]; dsimp only; rw [if_pos hs]
    rw [runC_cons, hc]
    unfold runI
    rw [ih (s.clockIn x).1 (by unfold St.works; rw [clockIn_job]; exact hw) (by rw [clockIn_sel]; exact hs)]
/-- A run on a chip on which something is at work that does not end within it. -/
theorem runC_busy (xs : List Int) : ∀ (s : St) (j : Job), s.job = some j → j.susp = false → (xs.length : Int) < j.left → s.sel = true → runC s xs = ((runI s xs).1.tk xs.length, (runI s xs).2) := by
  induction xs with
  | nil => intro s j _ _ _ _; show (s, []) = (s.tk 0, []); rw [tk_zero]
  | cons x xs ih =>
    intro s j hj hsu hl hs
    rw [List.length_cons] at hl
    have hp : s.pass = s.tk 1 := by
      obtain ⟨sec, page, data, left, susp⟩ := j
      change susp = false at hsu
      subst hsu
      unfold St.pass St.tk
      rw [hj]
      dsimp only at hl ⊢
      rw [if_neg (by decide), if_neg (by omega)]
      rfl
    have hc : s.clock x = ((s.clockIn x).1.tk 1, (s.clockIn x).2) := by
      unfold St.clock
      rw [hp]
      dsimp only
      rw [if_pos (show (s.tk 1).sel = true from hs), tk_clockIn]
    have hjn : ((s.clockIn x).1.tk 1).job = some (j.tk 1) := by
      unfold St.tk
      dsimp only
      rw [clockIn_job, hj]
      rfl
    rw [runC_cons, hc]
    dsimp only
    rw [ih ((s.clockIn x).1.tk 1) (j.tk 1) hjn hsu (by show (xs.length : Int) < j.left - 1; omega) (by show (s.clockIn x).1.sel = true; rw [clockIn_sel]; exact hs), runI_tk, tk_tk, runI_cons, List.length_cons, show ((xs.length + 1 : Nat) : Int) = 1 + (xs.length : Int) by omega]
theorem runI_1 (xs : List Int) : ∀ s : St, s.stage = 1 → runI s xs = (s, List.replicate xs.length 15) := by
  induction xs with
  | nil => intro s _; rfl
  | cons x xs ih =>
    intro s h
    have hc : s.clockIn x = (s, 15) := by
      unfold St.clockIn
      rw [if_neg (by omega), if_neg (by omega), if_neg (by omega), if_neg (by omega), if_neg (by omega), if_neg (by omega), if_neg (by omega)]
    unfold runI
    rw [hc]
    dsimp only
    rw [ih s h]
    rfl
theorem begins_not (s : St) (b : Int) (h : s.known b = false) : s.begins b = ({ s with op := opOf b } : St).enter 1 0 := by
  unfold St.begins
  dsimp only
  rw [h]
  rfl
/-- A command's byte. -/
theorem runI_byte (s : St) (h0 : s.stage = 0) (hl : s.left = 8) (hg : s.got = 0) (b : Int) : runI s (byteBits b) = (({ s with left := 0, got := byteIn b } : St).begins (byteIn b), List.replicate 8 15) := by
  obtain ⟨a, prot, quad, wipes, tabled, sel, en, goes, job, busy, op, stage, left, got, addr, mode, moded, data, told, now, beyond⟩ := s
  change stage = 0 at h0
  change left = 8 at hl
  change got = 0 at hg
  subst h0
  subst hl
  subst hg
  kernel_rfl
end Go.Proofs.YteombggfmeilaaaGreat
