/- The walk over a clock of a command: data that go. -/
import Derived.Test.YtjdjdfllggpckaaGreatChipWB
import Derived.Deep.AppendLies
import Derived.Deep.RegionLaw
namespace Go.Proofs.YtjdjdfllggpckaaGreat
open Go.RowKit
theorem clock5_mk {b : Nat} {x : Int} {s : St} {jv bv dv : Value} {w w1 w2 : World} {g1 : Int} {g n cap : Nat} (hn : (ints s.data).length = n) (hU1 : Upd (fun k => k = b) w w1) (h2 : w2.ownsRow 0 3 1 (.slice (some ⟨g, 0, none⟩) (n + 1) cap) (n + 1) (ints s.data ++ [.int .i64 g1]))
    (hB2 : CB w2 b (s.takesIn x s.op.data) jv bv dv) (U3 : Upd (fun k => dv.ownBlock = some k) w1 w2) (h4 : dv.ownBlock = some g ∨ w1.heap.size ≤ g) (hdb : ∀ k, dv.ownBlock = some k → k ≠ b) (hbl : b < w1.heap.size) :
    ∃ dv', CB (w2.setCell ⟨b, 32, none⟩ (.slice (some ⟨g, 0, none⟩) (n + 1) cap)) b { s.takesIn x s.op.data with data := s.data ++ [g1] } jv bv dv' ∧ Row (w2.setCell ⟨b, 32, none⟩ (.slice (some ⟨g, 0, none⟩) (n + 1) cap)) 3 dv' (ints (s.data ++ [g1])) ∧ (∀ k, dv'.ownBlock = some k → dv.ownBlock = some k ∨ w.heap.size ≤ k) ∧
      Upd (fun k => k = b ∨ dv.ownBlock = some k) w (w2.setCell ⟨b, 32, none⟩ (.slice (some ⟨g, 0, none⟩) (n + 1) cap)) := by
  have hgb : g ≠ b := by
    rcases h4 with h4 | h4
    · exact hdb g h4
    · omega
  have hs := (Upd.refl (fun k => k = b) w2).setCell ⟨b, 32, none⟩ (.slice (some ⟨g, 0, none⟩) (n + 1) cap) (fun _ => rfl)
  have hw := hU1.size
  refine ⟨_, hB2.set 32 (.slice (some ⟨g, 0, none⟩) (n + 1) cap), ?_, ?_, ?_⟩
  · have hR : Row w2 3 (.slice (some ⟨g, 0, none⟩) (n + 1) cap) (ints (s.data ++ [g1])) := by
      unfold Row
      rw [ints_app, show ints [g1] = [Value.int .i64 g1] from rfl, List.length_append, hn]
      exact h2
    exact hR.upd hs (fun k hk e => hgb (by simp [Value.ownBlock] at hk; rw [hk, e]))
  · intro k hk
    simp [Value.ownBlock] at hk
    subst hk
    rcases h4 with h4 | h4
    · exact .inl h4
    · exact .inr (by omega)
  · exact ((hU1.mono (T := fun k => k = b ∨ dv.ownBlock = some k) (fun _ _ e => .inl e)).trans U3 (fun _ _ e => .inr e)).trans hs (fun _ _ e => .inl e)
set_option maxRecDepth 100000 in
set_option maxHeartbeats 1000000 in
theorem clock5 (b : Nat) (x : Int) (s : St) (jv bv dv : Value) (w : World) (h : CB w b s jv bv dv) (hd : Row w 3 dv (ints s.data)) (hdb : ∀ k, dv.ownBlock = some k → k ≠ b) (ha : s.op.mode = true → s.op.addr = 1 ∨ s.op.addr = 4) (hda : s.op.inn = true → s.op.data ≠ 0 → s.op.data = 1 ∨ s.op.data = 4)
    (hs : s.stage = 5) (hln : s.op.data = 1 ∨ s.op.data = 4) (hl : 1 ≤ s.left ∧ s.left ≤ 400) (hg : 0 ≤ s.got ∧ s.got ≤ 1073741824) (hlen : s.data.length ≤ 1048576) :
    Calls Tryz.prog 45 #[.pointer (some ⟨b, 0, none⟩), .int .i64 x] w (ClockPost b s jv bv dv w x) := by
  have c26 := h.cell 26
  have c24 := h.cell 24
  simp only [St.list, List.getElem?_cons_succ, List.getElem?_cons_zero] at c26 c24
  rw [hs] at c26
  go_enter Tryz.func45, Tryz.ntmps45
  go_wp2_with fail
  refine (cmd_takesIn b s jv bv dv x s.op.data _ h hln hg hl).mono ?_
  rintro e w1 ⟨rfl, hB1, hU1⟩
  by_cases h1 : s.left - 1 = 0
  · have hb1 : (s.left - 1 == 0) = true := by simpa using h1
    rw [hb1]
    obtain ⟨g1, hg1⟩ : ∃ g1, (s.takesIn x s.op.data).got = g1 := ⟨_, rfl⟩
    obtain ⟨da, dc, rfl, -⟩ := hd.form
    have c28 := hB1.cell 28
    have c32 := hB1.cell 32
    have f32 := hB1.frozen 32
    simp only [St.list, List.getElem?_cons_succ, List.getElem?_cons_zero] at c28 c32
    rw [hg1] at c28
    go_upto_region 20 with fail
    have hd1 := Lib.hid (hd.upd hU1 hdb)
    obtain ⟨i0, hi0, hz0, hz1, hz2⟩ := info_parts info_int
    have HB1 := Lib.hid hB1
    go_cut [] (fun wx => ∃ dv', CB wx b { s.takesIn x s.op.data with data := s.data ++ [g1] } jv bv dv' ∧ Row wx 3 dv' (ints (s.data ++ [g1])) ∧ (∀ k, dv'.ownBlock = some k → (Value.slice da (ints s.data).length dc).ownBlock = some k ∨ w.heap.size ≤ k) ∧ Upd (fun k => k = b ∨ (Value.slice da (ints s.data).length dc).ownBlock = some k) w wx)
    case first =>
      have U0 : Upd none' w1 (w1.alloc (.cells #[.int .i64 g1] 3)).drew := ((Upd.refl none' w1).alloc _).drew
      have hown := Lib.hid (hd1.out.upd U0 (fun _ _ f => f))
      have hnews : ∀ j u, [Value.int .i64 g1][j]? = some u → (w1.alloc (.cells #[.int .i64 g1] 3)).drew.cell? ((⟨w1.heap.size, 0, none⟩ : Addr).add j) = some u := World.news_of_block (cs := #[.int .i64 g1]) (Blk.new w1 [.int .i64 g1] 3).drew
      have HN := Lib.hid hnews
      have hbl := hB1.lt
      clear hnews
      go_region_law (refine step_append_lies _ rfl _ _ 27 rfl 0 3 i0 (.int .i64 0) 1 8 Tryz.underlying27 hi0 hz0 hz1 hz2 rfl (by decide) _ _ (ints s.data) rfl hown.out _ 1 1 [.int .i64 g1] rfl rfl HN.out (by intro u hu; simp at hu; subst hu; rfl) (by decide) (by simp [ints, maxLen]; omega) (by simp [ints]; omega) (Nat.zero_le _) _ rfl ?_; intro g cap w2 h2 h3 h4 h5; have U2 := (Upd.refl none' w1).trans U0 (fun _ _ f => f); have U3 := (U2.mono (T := fun k => (Value.slice da (ints s.data).length dc).ownBlock = some k) (fun _ _ f => f.elim)).grown h3 (fun k hk _ => hk); have HB2 := Lib.hid (HB1.out.upd U3 (fun e => hdb b e rfl)); have m32 := HB2.out.cell 32; have n32 := HB2.out.frozen 32; simp only [St.list, List.getElem?_cons_succ, List.getElem?_cons_zero] at m32)
      all_goals
        have h4' : (Value.slice da (ints s.data).length dc).ownBlock = some g ∨ w1.heap.size ≤ g := h4.imp_right (fun e => by rw [e]; simp)
        go_wp2_with fail
        go_meet
        exact clock5_mk rfl hU1 h2 HB2.out U3 h4' hdb hbl
    case rest =>
      obtain ⟨dv', hB3, hR3, hf3, hU3⟩ := hcut
      have hs0 : ¬ s.stage = 0 := by omega
      have hs2 : ¬ s.stage = 2 := by omega
      have hs3 : ¬ s.stage = 3 := by omega
      have hs4 : ¬ s.stage = 4 := by omega
      have hR : s.clockIn x = ({ s.takesIn x s.op.data with data := s.data ++ [g1] }.behind, 15) := by
        unfold St.clockIn
        rw [if_neg hs0, if_neg hs2, if_neg hs3, if_neg hs4, if_pos hs]
        dsimp only
        rw [if_pos (show (s.takesIn x s.op.data).left = 0 from h1), hg1]
        rfl
      have HR := Lib.hid hR
      have HR3 := Lib.hid hR3
      have HF3 := Lib.hid hf3
      have HU3 := Lib.hid hU3
      clear hR hR3 hf3 hU3 hs0 hs2 hs3 hs4
      go_wp2_with fail
      refine (cmd_behind b _ jv bv dv' _ hB3 ha hda).mono ?_
      rintro e w2 ⟨rfl, hB4, hU4⟩
      go_wp2
      go_ret
      have hU := HU3.out.trans hU4 (fun _ _ e => .inl e)
      have hR := HR.out
      have hne : ∀ k, dv'.ownBlock = some k → k ≠ b := fun k hk => by
        rcases HF3.out k hk with h5 | h5
        · exact hdb k h5
        · have := h.lt; omega
      refine ⟨dv', by rw [hR]; rfl, by rw [hR]; exact hB4, ?_, HF3.out, hU⟩
      rw [hR]
      dsimp only
      rw [behind_data]
      exact HR3.out.upd hU4 hne
  · have hb1 : (s.left - 1 == 0) = false := by simpa using h1
    have hR : s.clockIn x = (s.takesIn x s.op.data, 15) := by
      unfold St.clockIn
      rw [if_neg (by omega), if_neg (by omega), if_neg (by omega), if_neg (by omega), if_pos hs]
      dsimp only
      rw [if_neg (show ¬ (s.takesIn x s.op.data).left = 0 from h1)]
    rw [hb1]
    have HR := Lib.hid hR
    clear hR
    go_wp2
    go_ret
    have hR := HR.out
    refine ⟨dv, by rw [hR]; rfl, by rw [hR]; exact hB1, ?_, fun k hk => .inl hk, hU1.mono (fun k _ e => .inl e)⟩
    rw [hR]
    exact hd.upd hU1 hdb
end Go.Proofs.YtjdjdfllggpckaaGreat
