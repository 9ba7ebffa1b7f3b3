/- What holds of a chip at all times holds behind a clock. -/
import Derived.Test.YtjdjdfllggpckaaGreatChipI
namespace Go.Proofs.YtjdjdfllggpckaaGreat
open Go.RowKit
theorem op_facts (c : Int) : ((opOf c).mode = true → (opOf c).addr = 4) ∧ ((opOf c).inn = true → (opOf c).data = 1) ∧ ((opOf c).data = 0 ∨ (opOf c).data = 1 ∨ (opOf c).data = 4) ∧ 0 ≤ (opOf c).dummy ∧ (opOf c).dummy ≤ 8 ∧ ((opOf c).addr = 0 ∨ (opOf c).addr = 1 ∨ (opOf c).addr = 4) := by
  unfold opOf
  repeat' split
  all_goals simp [op0]
theorem behind_part (s : St) (c : Int) (hc : s.op = opOf c) : s.behind.Part := by
  obtain ⟨h1, h2, h3, h4, h5, h6⟩ := op_facts c
  rw [← hc] at h1 h2 h3 h4 h5 h6
  unfold St.behind
  split
  · have hm : s.op.mode = true := by simp_all
    have ha := h1 hm
    right; right; right; left
    simp only [St.enter, ha]
    decide
  · split
    · right; right; right; right; left
      refine ⟨rfl, ?_, ?_⟩ <;> simp only [St.enter] <;> omega
    · split
      · right; right; right; right; right; right; right; rfl
      · split
        · rename_i hi
          have hd := h2 hi
          right; right; right; right; right; left
          simp only [St.enter, hd, hi]
          decide
        · rename_i hd0 hi
          right; right; right; right; right; right; left
          refine ⟨rfl, ?_, ?_⟩
          · simpa [St.enter] using hi
          · simp only [St.enter]; omega
theorem begins_part (s : St) (c : Int) : (s.begins c).Part := by
  unfold St.begins
  dsimp only
  split
  · right; left; rfl
  · split
    · rename_i ha
      have h6 := (op_facts c).2.2.2.2.2
      have hb : (opOf c).addr = 1 ∨ (opOf c).addr = 4 := by omega
      right; right; left
      rcases hb with h | h <;> simp only [St.enter, h] <;> decide
    · exact behind_part _ c rfl
/-- What holds at all times but of how far a command's part is. -/
structure St.InvB (s : St) (N : Int) : Prop where
  size : s.a.size = 4096
  job : ∀ j, s.job = some j → j.Ok
  addr : 0 ≤ s.addr ∧ s.addr < 4096
  told : 0 ≤ s.told ∧ s.told ≤ N
  len : (s.data.length : Int) ≤ N
  data : ∀ x ∈ s.data, 0 ≤ x ∧ x ≤ 255
  now : 0 ≤ s.now ∧ s.now ≤ 255
  mode : 0 ≤ s.mode ∧ s.mode ≤ 255
  op : ∃ c, s.op = opOf c
  wipes : ∀ k, 0 ≤ s.wipes k ∧ s.wipes k ≤ N
  busy : s.busy.length ≤ 16 ∧ ∀ d ∈ s.busy, 1 ≤ d ∧ d ≤ 400
theorem St.Inv.b {s : St} {N : Int} (h : s.Inv N) : s.InvB N := ⟨h.size, h.job, h.addr, h.told, h.len, h.data, h.now, h.mode, h.op, h.wipes, h.busy⟩
theorem St.InvB.inv {s : St} {N : Int} (h : s.InvB N) (p : s.Part) : s.Inv N := ⟨h.size, h.job, h.addr, h.told, h.len, h.data, h.now, h.mode, h.op, h.wipes, h.busy, p⟩
theorem St.InvB.mono {s : St} {N M : Int} (h : s.InvB N) (hm : N ≤ M) : s.InvB M :=
  ⟨h.size, h.job, h.addr, ⟨h.told.1, by have := h.told.2; omega⟩, by have := h.len; omega, h.data, h.now, h.mode, h.op, fun k => ⟨(h.wipes k).1, by have := (h.wipes k).2; omega⟩, h.busy⟩
theorem St.Inv.mono {s : St} {N M : Int} (h : s.Inv N) (hm : N ≤ M) : s.Inv M := (h.b.mono hm).inv h.part
theorem behind_inv {s : St} {N : Int} (h : s.InvB N) : s.behind.Inv N := by
  obtain ⟨c, hc⟩ := h.op
  have hp := behind_part s c hc
  have key : s.behind.a = s.a ∧ s.behind.job = s.job ∧ s.behind.wipes = s.wipes ∧ s.behind.busy = s.busy ∧ s.behind.addr = s.addr ∧ s.behind.told = s.told ∧ s.behind.data = s.data ∧ s.behind.now = s.now ∧ s.behind.mode = s.mode ∧ s.behind.op = s.op := by
    unfold St.behind
    repeat' split
    all_goals exact ⟨rfl, rfl, rfl, rfl, rfl, rfl, rfl, rfl, rfl, rfl⟩
  obtain ⟨e1, e2, e3, e4, f1, f2, f3, f4, f5, f6⟩ := key
  exact ⟨by rw [e1]; exact h.size, by rw [e2]; exact h.job, by rw [f1]; exact h.addr, by rw [f2]; exact h.told, by rw [f3]; exact h.len, by rw [f3]; exact h.data, by rw [f4]; exact h.now, by rw [f5]; exact h.mode, ⟨c, by rw [f6, hc]⟩, by rw [e3]; exact h.wipes, by rw [e4]; exact h.busy, hp⟩
theorem begins_inv {s : St} {N : Int} (h : s.InvB N) (c : Int) : (s.begins c).Inv N := by
  have hB : ({ s with op := opOf c } : St).InvB N := ⟨h.size, h.job, h.addr, h.told, h.len, h.data, h.now, h.mode, ⟨c, rfl⟩, h.wipes, h.busy⟩
  have hp := begins_part s c
  unfold St.begins at hp ⊢
  dsimp only at hp ⊢
  split
  · rename_i hk
    rw [if_pos hk] at hp
    exact ⟨h.size, h.job, h.addr, h.told, h.len, h.data, h.now, h.mode, ⟨c, rfl⟩, h.wipes, h.busy, hp⟩
  · rename_i hk
    rw [if_neg hk] at hp
    split
    · rename_i ha
      rw [if_pos ha] at hp
      exact ⟨h.size, h.job, h.addr, h.told, h.len, h.data, h.now, h.mode, ⟨c, rfl⟩, h.wipes, h.busy, hp⟩
    · exact behind_inv hB
theorem step2 {g l x B : Int} (hl : 1 ≤ l) (h : (g + 1) * 2 ^ l.toNat ≤ B) : (g * 2 + x % 2 + 1) * 2 ^ (l - 1).toNat ≤ B := by
  have e : l.toNat = (l - 1).toNat + 1 := by omega
  rw [e, Int.pow_succ] at h
  have hx : x % 2 ≤ 1 := by omega
  have hp := pow2_pos (l - 1).toNat
  generalize (2 : Int) ^ (l - 1).toNat = p at *
  have e2 : (g + 1) * (p * 2) = (g * 2 + 2) * p := by
    rw [Int.mul_comm p 2, ← Int.mul_assoc, Int.add_mul, Int.one_mul]
  have : (g * 2 + x % 2 + 1) * p ≤ (g * 2 + 2) * p := Int.mul_le_mul_of_nonneg_right (by omega) (by omega)
  omega
theorem step16 {g l x B : Int} (hl : 1 ≤ l) (h : (g + 1) * 16 ^ l.toNat ≤ B) : (g * 16 + x % 16 + 1) * 16 ^ (l - 1).toNat ≤ B := by
  have e : l.toNat = (l - 1).toNat + 1 := by omega
  rw [e, Int.pow_succ] at h
  have hx : x % 16 ≤ 15 := by omega
  have hp := pow16_pos (l - 1).toNat
  generalize (16 : Int) ^ (l - 1).toNat = p at *
  have e2 : (g + 1) * (p * 16) = (g * 16 + 16) * p := by
    rw [Int.mul_comm p 16, ← Int.mul_assoc, Int.add_mul, Int.one_mul]
  have : (g * 16 + x % 16 + 1) * p ≤ (g * 16 + 16) * p := Int.mul_le_mul_of_nonneg_right (by omega) (by omega)
  omega
theorem St.InvB.num {s : St} {N : Int} (h : s.InvB N) (g l : Int) : ({ s with got := g, left := l } : St).InvB N := ⟨h.size, h.job, h.addr, h.told, h.len, h.data, h.now, h.mode, h.op, h.wipes, h.busy⟩
theorem says_inv {s : St} {N : Int} (h : s.Inv N) (hs : s.stage = 6) (hi : s.op.inn = false) (hk : s.op.data = 1 ∧ 0 ≤ s.left ∧ s.left ≤ 7 ∨ s.op.data = 4 ∧ 0 ≤ s.left ∧ s.left ≤ 1) : s.says.1.Inv (N + 1) := by
  have hb := byteAt_bd s s.told
  have h' := (h.mono (show N ≤ N + 1 by omega)).b
  have key : ∃ no l t tb, s.says1 = { s with now := no, left := l, told := t, tabled := tb } ∧ (0 ≤ no ∧ no ≤ 255) ∧ (0 ≤ t ∧ t ≤ N + 1) ∧ (s.op.data = 1 ∧ 1 ≤ l ∧ l ≤ 8 ∨ s.op.data = 4 ∧ 1 ≤ l ∧ l ≤ 2) := by
    have ht := h.told
    unfold St.says1
    split
    · refine ⟨_, _, _, _, rfl, hb, by omega, ?_⟩
      rcases hk with ⟨hd, _⟩ | ⟨hd, _⟩ <;> rw [hd]
      · exact .inl ⟨rfl, by decide, by decide⟩
      · exact .inr ⟨rfl, by decide, by decide⟩
    · exact ⟨s.now, s.left, s.told, s.tabled, rfl, h.now, by omega, by omega⟩
  obtain ⟨no, l, t, tb, e, hno, ht, hl⟩ := key
  have key2 : s.says.1 = { s with now := no, left := l - 1, told := t, tabled := tb } := by
    unfold St.says
    rw [e]
    dsimp only
    split <;> rfl
  rw [key2]
  refine ⟨h'.size, h'.job, h'.addr, ht, h'.len, h'.data, hno, h'.mode, h'.op, h'.wipes, h'.busy, .inr (.inr (.inr (.inr (.inr (.inr (.inl ⟨hs, hi, ?_⟩))))))⟩
  dsimp only
  omega
theorem clockIn_inv {s : St} {N : Int} (h : s.Inv N) (x : Int) : (s.clockIn x).1.Inv (N + 1) := by
  have hpos : 0 ≤ N := by have := h.told; omega
  have h' := (h.mono (show N ≤ N + 1 by omega)).b
  obtain ⟨c, hc⟩ := h.op
  obtain ⟨o1, o2, o3, o4, o5, o6⟩ := op_facts c
  rw [← hc] at o1 o2 o3 o4 o5 o6
  have n4 : ¬ (4 : Int) = 1 := by decide
  unfold St.clockIn
  rcases h.part with ⟨hs, l1, l2, g0, gl⟩ | hs | ⟨hs, g0, hk⟩ | ⟨hs, ha, l1, l2, g0, gl⟩ | ⟨hs, l1, l2⟩ | ⟨hs, hi, hd, l1, l2, g0, gl⟩ | ⟨hs, hi, hk⟩ | hs
  · rw [if_pos hs]
    dsimp only
    have hgl := step2 (x := x) l1 gl
    split
    · exact begins_inv (h'.num _ _) _
    · rename_i hne
      have hne' : ¬ s.left - 1 = 0 := hne
      refine (h'.num _ _).inv (.inl ⟨hs, ?_, ?_, ?_, ?_⟩)
      · dsimp only; omega
      · dsimp only; omega
      · dsimp only; rw [if_pos rfl]; omega
      · dsimp only; rw [if_pos rfl]; exact hgl
  · rw [if_neg (by omega), if_neg (by omega), if_neg (by omega), if_neg (by omega), if_neg (by omega), if_neg (by omega), if_neg (by omega)]
    exact h'.inv h.part
  · rw [if_neg (by omega), if_pos hs]
    dsimp only
    split
    · refine behind_inv ⟨h'.size, h'.job, ?_, h'.told, h'.len, h'.data, h'.now, h'.mode, h'.op, h'.wipes, h'.busy⟩
      dsimp only
      omega
    · rename_i hne
      have hne' : ¬ s.left - 1 = 0 := hne
      rcases hk with ⟨ha, l1, l2, gl⟩ | ⟨ha, l1, l2, gl⟩
      · have hgl := step2 (x := x) l1 gl
        refine (h'.num _ _).inv (.inr (.inr (.inl ⟨hs, ?_, .inl ⟨ha, ?_, ?_, ?_⟩⟩)))
        · dsimp only; rw [if_pos ha]; omega
        · dsimp only; omega
        · dsimp only; omega
        · dsimp only; rw [if_pos ha]; exact hgl
      · have hgl := step16 (x := x) l1 gl
        have ha1 : ¬ s.op.addr = 1 := by omega
        refine (h'.num _ _).inv (.inr (.inr (.inl ⟨hs, ?_, .inr ⟨ha, ?_, ?_, ?_⟩⟩)))
        · dsimp only; rw [if_neg ha1]; omega
        · dsimp only; omega
        · dsimp only; omega
        · dsimp only; rw [if_neg ha1]; exact hgl
  · rw [if_neg (by omega), if_neg (by omega), if_pos hs]
    dsimp only
    have hgl := step16 (x := x) l1 gl
    have ha1 : ¬ s.op.addr = 1 := by omega
    split
    · rename_i he
      have he' : s.left - 1 = 0 := he
      refine behind_inv ⟨h'.size, h'.job, h'.addr, h'.told, h'.len, h'.data, h'.now, ?_, h'.op, h'.wipes, h'.busy⟩
      rw [he'] at hgl
      have hgl2 : s.got * 16 + x % 16 + 1 ≤ 256 := by simpa using hgl
      show 0 ≤ (if s.op.addr = 1 then s.got * 2 + x % 2 else s.got * 16 + x % 16) ∧ (if s.op.addr = 1 then s.got * 2 + x % 2 else s.got * 16 + x % 16) ≤ 255
      rw [if_neg ha1]
      omega
    · rename_i hne
      have hne' : ¬ s.left - 1 = 0 := hne
      refine (h'.num _ _).inv (.inr (.inr (.inr (.inl ⟨hs, ha, ?_, ?_, ?_, ?_⟩))))
      · dsimp only; omega
      · dsimp only; omega
      · dsimp only; rw [if_neg ha1]; omega
      · dsimp only; rw [if_neg ha1]; exact hgl
  · rw [if_neg (by omega), if_neg (by omega), if_neg (by omega), if_pos hs]
    dsimp only
    split
    · exact behind_inv (h'.num s.got (s.left - 1))
    · rename_i hne
      refine (h'.num s.got (s.left - 1)).inv (.inr (.inr (.inr (.inr (.inl ⟨hs, ?_, ?_⟩)))))
      · dsimp only; omega
      · dsimp only; omega
  · rw [if_neg (by omega), if_neg (by omega), if_neg (by omega), if_neg (by omega), if_pos hs]
    dsimp only
    have hgl := step2 (x := x) l1 gl
    split
    · rename_i he
      have he' : s.left - 1 = 0 := he
      rw [he'] at hgl
      have hgl2 : s.got * 2 + x % 2 + 1 ≤ 256 := by simpa using hgl
      have hgot : (s.takesIn x s.op.data).got = s.got * 2 + x % 2 := by show (if s.op.data = 1 then s.got * 2 + x % 2 else s.got * 16 + x % 16) = _; rw [if_pos hd]
      have hl := h.len
      refine behind_inv ⟨h'.size, h'.job, h'.addr, h'.told, ?_, ?_, h'.now, h'.mode, h'.op, h'.wipes, h'.busy⟩
      · show ((s.data ++ [(s.takesIn x s.op.data).got]).length : Int) ≤ N + 1
        rw [List.length_append]
        simp only [List.length_cons, List.length_nil]
        omega
      · intro y hy
        have hy' : y ∈ s.data ++ [(s.takesIn x s.op.data).got] := hy
        rw [List.mem_append] at hy'
        rcases hy' with hy' | hy'
        · exact h.data y hy'
        · rw [List.mem_singleton] at hy'
          rw [hy', hgot]
          omega
    · rename_i hne
      have hne' : ¬ s.left - 1 = 0 := hne
      refine (h'.num _ _).inv (.inr (.inr (.inr (.inr (.inr (.inl ⟨hs, hi, hd, ?_, ?_, ?_, ?_⟩))))))
      · dsimp only; omega
      · dsimp only; omega
      · dsimp only; rw [if_pos hd]; omega
      · dsimp only; rw [if_pos hd]; exact hgl
  · rw [if_neg (by omega), if_neg (by omega), if_neg (by omega), if_neg (by omega), if_neg (by omega), if_pos hs]
    exact says_inv h hs hi hk
  · rw [if_neg (by omega), if_neg (by omega), if_neg (by omega), if_neg (by omega), if_neg (by omega), if_neg (by omega), if_pos hs]
    exact ⟨h'.size, h'.job, h'.addr, h'.told, h'.len, h'.data, h'.now, h'.mode, h'.op, h'.wipes, h'.busy, .inr (.inr (.inr (.inr (.inr (.inr (.inr hs))))))⟩
end Go.Proofs.YtjdjdfllggpckaaGreat
