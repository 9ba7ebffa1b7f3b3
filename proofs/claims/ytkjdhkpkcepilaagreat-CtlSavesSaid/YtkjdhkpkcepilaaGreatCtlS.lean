/- A controller at rest, with its registers and queues: its calls. -/
import Derived.Test.YtkjdhkpkcepilaaGreatCtlR
namespace Go.Proofs.YtkjdhkpkcepilaaGreat
open Go.RowKit
/-- Registers r0, r1, r2; a bound L (-1: none); queues xs, ys; so many clocks at most on the chip (n), just so many driven (q). -/
def Reg (c : Cor) (b k : Nat) (r0 r1 r2 L : Int) (xs ys : List Int) (n q : Int) (w0 w : World) (rows : List (Value × List Value)) : Prop :=
  ∃ (s : St) (N : Int) (fo fi : Nat), At c s ∧ Ctx (ChipP b s N) ((CtlC k b fo fi ⟨r0, r1, r2, q, false, L, false⟩).star (QQ fo fi xs ys)) w0 w rows ∧ 0 ≤ N ∧ N ≤ n ∧ 0 ≤ q ∧ q ≤ n ∧ n ≤ 1048575 ∧ -1 ≤ L ∧ L ≤ 1048576
theorem Reg.rowsub {c : Cor} {b k : Nat} {r0 r1 r2 L n q : Int} {xs ys : List Int} {w0 w : World} {rows rows' : List (Value × List Value)} (h : Reg c b k r0 r1 r2 L xs ys n q w0 w rows) (hs : ∀ r ∈ rows', r ∈ rows) : Reg c b k r0 r1 r2 L xs ys n q w0 w rows' := by
  obtain ⟨s, N, fo, fi, h1, h2, h3⟩ := h
  exact ⟨s, N, fo, fi, h1, h2.sub hs, h3⟩
theorem Reg.fr {c : Cor} {b k : Nat} {r0 r1 r2 L n q : Int} {xs ys : List Int} {w0 w w' : World} {rows : List (Value × List Value)} (h : Reg c b k r0 r1 r2 L xs ys n q w0 w rows) (u : Upd none' w w') : Reg c b k r0 r1 r2 L xs ys n q w0 w' rows := by
  obtain ⟨s, N, fo, fi, h1, h2, h3⟩ := h
  exact ⟨s, N, fo, fi, h1, h2.frame u, h3⟩
theorem Reg.up {c : Cor} {b k : Nat} {r0 r1 r2 L n q : Int} {xs ys : List Int} {w0 w : World} {rows : List (Value × List Value)} (h : Reg c b k r0 r1 r2 L xs ys n q w0 w rows) : Upd none' w0 w := by
  obtain ⟨s, N, fo, fi, h1, h2, h3⟩ := h
  exact h2.upd
theorem Reg.nil {c : Cor} {b k : Nat} {r0 r1 r2 L n q : Int} {xs ys : List Int} {w0 w : World} {rows : List (Value × List Value)} (h : Reg c b k r0 r1 r2 L xs ys n q w0 w rows) : Reg c b k r0 r1 r2 L xs ys n q w0 w ((.slice none 0 0, ints []) :: rows) := by
  obtain ⟨s, N, fo, fi, h1, h2, h3⟩ := h
  exact ⟨s, N, fo, fi, h1, h2.nilrow, h3⟩
theorem Reg.rs {c : Cor} {b k : Nat} {r0 r1 r2 L n q : Int} {xs ys : List Int} {w0 w : World} {rows : List (Value × List Value)} (h : Reg c b k r0 r1 r2 L xs ys n q w0 w rows) {r : Value × List Value} (hr : r ∈ rows) : RS w r.1 r.2 := by
  obtain ⟨s, N, fo, fi, h1, h2, h3⟩ := h
  exact h2.rs_mem hr
theorem Reg.most {c : Cor} {b k : Nat} {r0 r1 r2 L n m q : Int} {xs ys : List Int} {w0 w : World} {rows : List (Value × List Value)} (h : Reg c b k r0 r1 r2 L xs ys n q w0 w rows) (hm : n ≤ m) (hm2 : m ≤ 1048575) : Reg c b k r0 r1 r2 L xs ys m q w0 w rows := by
  obtain ⟨s, N, fo, fi, h1, h2, h3, h4, h5, h6, h7, h8⟩ := h
  exact ⟨s, N, fo, fi, h1, h2, h3, by omega, h5, by omega, hm2, h8⟩
theorem reg_new {w0 w : World} {b : Nat} {s : St} {c : Cor} {N : Int} {rows : List (Value × List Value)} (hA : At c s) (hC : Ctx (ChipP b s N) .emp w0 w rows) (h0 : 0 ≤ N) (hN : N ≤ 1048575) :
    Calls Tryz.prog 28 #[.pointer (some ⟨b, 0, none⟩)] w fun e w' => ∃ k, e = .returned (.tuple #[.pointer (some ⟨k, 0, none⟩), .int .i64 0]) ∧ Reg c b k 0 0 0 (-1) [] [] N 0 w0 w' rows := by
  refine (q_new hC).mono ?_
  rintro e w' ⟨k, fo, fi, rfl, hC2⟩
  exact ⟨k, rfl, s, N, fo, fi, hA, hC2, h0, Int.le_refl _, Int.le_refl _, h0, hN, by decide, by decide⟩
theorem reg_run {c : Cor} {b k : Nat} {r0 r1 r2 L n q : Int} {xs ys : List Int} {w0 w : World} {rows : List (Value × List Value)} (h : Reg c b k r0 r1 r2 L xs ys n q w0 w rows) (o : Int) (ho : opIs o = true) (ho2 : o ≠ 235) (at_ : Int) (a : Option Addr) (cp : Nat) (data : List Int) (hdd : (.slice a data.length cp, ints data) ∈ rows) (read : Int) (hmay : cmdMay (opOf o) at_ data read = true)
    (c' : Cor) (out : List Int) (clk : Int) (hclk : phsMany (cmdPhs (opOf o) at_ data read) = clk) (hroom : n + clk + 1 ≤ 1048575) (L' : Int) (hL : L = -1 ∧ L' = -1 ∨ clk ≤ L ∧ L' = L - clk) (hd : ∀ t, At c t → ∃ d : Drv, Drv.phases ⟨t.select, [], 0, -1⟩ (cmdPhs (opOf o) at_ data read) = (d, true) ∧ d.clocks = clk ∧ d.out = out ∧ At c' d.s.deselect) :
    Calls Tryz.prog 36 #[.pointer (some ⟨k, 0, none⟩), .int .i64 o, .int .i64 at_, .slice a data.length cp, .int .i64 read] w fun e w' => ∃ oa oc, e = .returned (.tuple #[.slice oa out.length oc, .int .i64 0]) ∧ Reg c' b k r0 r1 r2 L' xs ys (n + clk + 1) (q + clk) w0 w' ((.slice oa out.length oc, ints out) :: rows) := by
  obtain ⟨s, N, fo, fi, hA, hC, hN0, hN, hq0, hqn, hn, hl1, hl2⟩ := h
  obtain ⟨d, e1, e2, e3, e4⟩ := hd s hA
  have hk := phases_kept (cmdPhs (opOf o) at_ data read) ⟨s.select, [], 0, -1⟩ (cmd_all o ho at_ data read hmay)
  rw [e1] at hk
  have hc0 := hk.up
  dsimp only at hc0
  have e1' : Drv.phases ⟨s.select, [], 0, L⟩ (cmdPhs (opOf o) at_ data read) = ({ d with most := L }, true) := by
    rcases hL with ⟨rfl, -⟩ | ⟨hL, -⟩
    · exact phases_lift' e1
    · exact phases_lift e1 L (by omega)
  refine (c_run (K := ⟨r0, r1, r2, q, false, L, false⟩) (qq_ok _ _ _ _) hC hN0 hA.sel (by dsimp only; omega) (by dsimp only; omega) rfl rfl o ho ho2 at_ a cp data hdd read hmay (by omega) { d with most := L } e1').mono ?_
  rintro e w' ⟨oa, oc, rfl, hC2⟩
  dsimp only at hC2 ⊢
  rw [e3] at hC2 ⊢
  refine ⟨oa, oc, rfl, d.s.deselect, N + d.clocks + 1, fo, fi, e4, ?_, ?_⟩
  · have hKK : KS.driven ⟨r0, r1, r2, q, false, L, false⟩ ⟨d.s, out, d.clocks, L⟩ = ⟨r0, r1, r2, q + clk, false, L', false⟩ := by
      unfold KS.driven
      dsimp only
      rw [e2]
      rcases hL with ⟨rfl, rfl⟩ | ⟨hL, rfl⟩
      · rw [if_neg (by decide)]
      · rw [if_pos (by omega)]
    rw [hKK] at hC2
    exact hC2
  · rcases hL with ⟨rfl, rfl⟩ | ⟨hL, rfl⟩ <;> omega
theorem reg_cut {c : Cor} {b k : Nat} {r0 r1 r2 L n q : Int} {xs ys : List Int} {w0 w : World} {rows : List (Value × List Value)} (h : Reg c b k r0 r1 r2 L xs ys n q w0 w rows) (x : Int) (hx : 0 ≤ x) (hx2 : x ≤ 1048576) :
    Calls Tryz.prog 32 #[.pointer (some ⟨k, 0, none⟩), .int .i64 x] w fun e w' => e = .returned (.int .i64 0) ∧ Reg c b k r0 r1 r2 x xs ys n q w0 w' rows := by
  obtain ⟨s, N, fo, fi, hA, hC, hN0, hN, hq0, hqn, hn, hl1, hl2⟩ := h
  refine (c_cut (qq_ok _ _ _ _) hC x hx).mono ?_
  rintro e w' ⟨rfl, hC2⟩
  exact ⟨rfl, s, N, fo, fi, hA, hC2, hN0, hN, hq0, hqn, hn, by omega, hx2⟩
theorem reg_none {c : Cor} {b k : Nat} {r0 r1 r2 L n q : Int} {xs ys : List Int} {w0 w : World} {rows : List (Value × List Value)} (h : Reg c b k r0 r1 r2 L xs ys n q w0 w rows) (o at_ read : Int) (ho : opIs o = false) (v : Value) :
    Calls Tryz.prog 36 #[.pointer (some ⟨k, 0, none⟩), .int .i64 o, .int .i64 at_, v, .int .i64 read] w fun e w' => e = .returned (.tuple #[.slice none 0 0, .int .i64 1100]) ∧ Upd none' w w' := by
  obtain ⟨s, N, fo, fi, hA, hC, -⟩ := h
  exact c_run_none hC rfl o at_ read ho v
theorem reg_clocks {c : Cor} {b k : Nat} {r0 r1 r2 L n q : Int} {xs ys : List Int} {w0 w : World} {rows : List (Value × List Value)} (h : Reg c b k r0 r1 r2 L xs ys n q w0 w rows) :
    Calls Tryz.prog 31 #[.pointer (some ⟨k, 0, none⟩)] w fun e w' => e = .returned (.int .i64 q) ∧ w = w' := by
  obtain ⟨s, N, fo, fi, hA, hC, -⟩ := h
  exact k_clocks hC
theorem reg_lost {c : Cor} {b k : Nat} {r0 r1 r2 L n q : Int} {xs ys : List Int} {w0 w : World} {rows : List (Value × List Value)} (h : Reg c b k r0 r1 r2 L xs ys n q w0 w rows) :
    Calls Tryz.prog 46 #[.pointer (some ⟨k, 0, none⟩)] w fun e w' => e = .returned (.bool false) ∧ w = w' := by
  obtain ⟨s, N, fo, fi, hA, hC, -⟩ := h
  exact c_lost hC false rfl
/-- A controller whose power went. -/
def Gone (b k : Nat) (q : Int) (w0 w : World) (rows : List (Value × List Value)) : Prop := ∃ (s : St) (N : Int) (fo fi : Nat) (xs ys : List Int) (K : KS), Ctx (ChipP b s N) ((CtlC k b fo fi K).star (QQ fo fi xs ys)) w0 w rows ∧ K.lost = true ∧ K.clocks = q
theorem Gone.fr {b k : Nat} {q : Int} {w0 w w' : World} {rows : List (Value × List Value)} (h : Gone b k q w0 w rows) (u : Upd none' w w') : Gone b k q w0 w' rows := by
  obtain ⟨s, N, fo, fi, xs, ys, K, h1, h2⟩ := h
  exact ⟨s, N, fo, fi, xs, ys, K, h1.frame u, h2⟩
theorem Gone.up {b k : Nat} {q : Int} {w0 w : World} {rows : List (Value × List Value)} (h : Gone b k q w0 w rows) : Upd none' w0 w := by
  obtain ⟨s, N, fo, fi, xs, ys, K, h1, h2⟩ := h
  exact h1.upd
theorem Gone.rs {b k : Nat} {q : Int} {w0 w : World} {rows : List (Value × List Value)} (h : Gone b k q w0 w rows) {r : Value × List Value} (hr : r ∈ rows) : RS w r.1 r.2 := by
  obtain ⟨s, N, fo, fi, xs, ys, K, h1, h2⟩ := h
  exact h1.rs_mem hr
theorem gone_run {b k : Nat} {q : Int} {w0 w : World} {rows : List (Value × List Value)} (h : Gone b k q w0 w rows) (o at_ read : Int) (v : Value) :
    Calls Tryz.prog 36 #[.pointer (some ⟨k, 0, none⟩), .int .i64 o, .int .i64 at_, v, .int .i64 read] w fun e w' => e = .returned (.tuple #[.slice none 0 0, .int .i64 1101]) ∧ w = w' := by
  obtain ⟨s, N, fo, fi, xs, ys, K, h1, h2, -⟩ := h
  exact c_run_lost h1 h2 o at_ read v
theorem gone_clocks {b k : Nat} {q : Int} {w0 w : World} {rows : List (Value × List Value)} (h : Gone b k q w0 w rows) :
    Calls Tryz.prog 31 #[.pointer (some ⟨k, 0, none⟩)] w fun e w' => e = .returned (.int .i64 q) ∧ w = w' := by
  obtain ⟨s, N, fo, fi, xs, ys, K, h1, h2, rfl⟩ := h
  exact k_clocks h1
theorem gone_lost {b k : Nat} {q : Int} {w0 w : World} {rows : List (Value × List Value)} (h : Gone b k q w0 w rows) :
    Calls Tryz.prog 46 #[.pointer (some ⟨k, 0, none⟩)] w fun e w' => e = .returned (.bool true) ∧ w = w' := by
  obtain ⟨s, N, fo, fi, xs, ys, K, h1, h2, -⟩ := h
  exact c_lost h1 true h2
theorem gone_write {b k : Nat} {q : Int} {w0 w : World} {rows : List (Value × List Value)} (h : Gone b k q w0 w rows) (r x : Int) :
    Calls Tryz.prog 43 #[.pointer (some ⟨k, 0, none⟩), .int .i64 r, .int .i64 x] w fun e w' => e = .returned (.int .i64 1101) ∧ w = w' := by
  obtain ⟨s, N, fo, fi, xs, ys, K, h1, h2, -⟩ := h
  have hst := k_state h1
  rw [h2] at hst
  clear h1 h2
  go_enter Tryz.func43, Tryz.ntmps43
  go_wp2_with (go_at_call 63; refine hst.mono ?_; rintro e w1 ⟨rfl, rfl⟩)
  go_ret
  exact ⟨rfl, rfl⟩
/-- A command that is cut: just so many clocks as the bound tells are driven. -/
theorem reg_gone {c : Cor} {b k : Nat} {r0 r1 r2 L n q : Int} {xs ys : List Int} {w0 w : World} {rows : List (Value × List Value)} (h : Reg c b k r0 r1 r2 L xs ys n q w0 w rows) (o : Int) (ho : opIs o = true) (ho2 : o ≠ 235) (at_ : Int) (a : Option Addr) (cp : Nat) (data : List Int) (hdd : (.slice a data.length cp, ints data) ∈ rows) (read : Int) (hmay : cmdMay (opOf o) at_ data read = true)
    (hL : 0 ≤ L) (hclk : L < phsMany (cmdPhs (opOf o) at_ data read)) (hroom : n + phsMany (cmdPhs (opOf o) at_ data read) ≤ 1048575) :
    Calls Tryz.prog 36 #[.pointer (some ⟨k, 0, none⟩), .int .i64 o, .int .i64 at_, .slice a data.length cp, .int .i64 read] w fun e w' => e = .returned (.tuple #[.slice none 0 0, .int .i64 1101]) ∧ Gone b k (q + L) w0 w' rows := by
  obtain ⟨s, N, fo, fi, hA, hC, hN0, hN, hq0, hqn, hn, hl1, hl2⟩ := h
  have hcnt := phases_cnt (cmdPhs (opOf o) at_ data read) ⟨s.select, [], 0, L⟩ (cmd_all o ho at_ data read hmay) hL hL
  obtain ⟨d, hd⟩ : ∃ d, Drv.phases ⟨s.select, [], 0, L⟩ (cmdPhs (opOf o) at_ data read) = d := ⟨_, rfl⟩
  rw [hd] at hcnt
  obtain ⟨d1, d2⟩ := d
  obtain ⟨m1, m2, m3⟩ := hcnt
  dsimp only at m1 m2 m3
  rw [decide_eq_false (by omega)] at m3
  subst m3
  have hdc : d1.clocks = L := by rw [m2]; omega
  refine (c_run_cut (K := ⟨r0, r1, r2, q, false, L, false⟩) (qq_ok _ _ _ _) hC hN0 hA.sel (by dsimp only; omega) (by dsimp only; omega) rfl rfl o ho ho2 at_ a cp data hdd read hmay (by omega) d1 hd).mono ?_
  rintro e w' ⟨rfl, hC2⟩
  exact ⟨rfl, d1.s, _, fo, fi, xs, ys, _, hC2, rfl, by show q + d1.clocks = _; rw [hdc]⟩
/-- May a register have a number? -/
def regB (r x : Int) : Bool := decide ((r = 0 ∨ r = 1) ∧ 0 ≤ x ∧ x < 4096 ∨ r = 2 ∧ 0 ≤ x ∧ x ≤ 16 ∨ r = 4 ∧ 0 ≤ x ∧ x < 256)
set_option maxHeartbeats 2000000 in
theorem ctl_reg (r x : Int) (w : World) : Calls Tryz.prog 76 #[.int .i64 r, .int .i64 x] w fun e w' => e = .returned (.bool (regB r x)) ∧ w = w' := by
  rcases (show r = 0 ∨ r = 1 ∨ r = 2 ∨ r = 4 ∨ (r ≠ 0 ∧ r ≠ 1 ∧ r ≠ 2 ∧ r ≠ 4) by omega) with h0 | h1 | h2 | h4 | ⟨n0, n1, n2, n4⟩
  · subst h0
    by_cases hb : 0 ≤ x ∧ x < 4096
    · rw [show regB 0 x = true from decide_eq_true (by omega)]
      obtain ⟨p1, p2⟩ := hb
      go_enter Tryz.func76, Tryz.ntmps76
      go_wp2
      go_ret
      exact ⟨rfl, rfl⟩
    · rw [show regB 0 x = false from decide_eq_false (by omega)]
      rcases (show ¬ 0 ≤ x ∨ 0 ≤ x ∧ ¬ x < 4096 by omega) with p1 | ⟨p1, p2⟩
      all_goals
        go_enter Tryz.func76, Tryz.ntmps76
        go_wp2
        go_ret
        exact ⟨rfl, rfl⟩
  · subst h1
    by_cases hb : 0 ≤ x ∧ x < 4096
    · rw [show regB 1 x = true from decide_eq_true (by omega)]
      obtain ⟨p1, p2⟩ := hb
      go_enter Tryz.func76, Tryz.ntmps76
      go_wp2
      go_ret
      exact ⟨rfl, rfl⟩
    · rw [show regB 1 x = false from decide_eq_false (by omega)]
      rcases (show ¬ 0 ≤ x ∨ 0 ≤ x ∧ ¬ x < 4096 by omega) with p1 | ⟨p1, p2⟩
      all_goals
        go_enter Tryz.func76, Tryz.ntmps76
        go_wp2
        go_ret
        exact ⟨rfl, rfl⟩
  · subst h2
    by_cases hb : 0 ≤ x ∧ x ≤ 16
    · rw [show regB 2 x = true from decide_eq_true (by omega)]
      obtain ⟨p1, p2⟩ := hb
      go_enter Tryz.func76, Tryz.ntmps76
      go_wp2
      go_ret
      exact ⟨rfl, rfl⟩
    · rw [show regB 2 x = false from decide_eq_false (by omega)]
      rcases (show ¬ 0 ≤ x ∨ 0 ≤ x ∧ ¬ x ≤ 16 by omega) with p1 | ⟨p1, p2⟩
      all_goals
        go_enter Tryz.func76, Tryz.ntmps76
        go_wp2
        go_ret
        exact ⟨rfl, rfl⟩
  · subst h4
    have hb := lane_byte x
    cases hv : byteB x
    all_goals
      rw [hv] at hb
      simp only [byteB, decide_eq_true_eq, decide_eq_false_iff_not] at hv
      first
        | rw [show regB 4 x = true from decide_eq_true (by omega)]
        | rw [show regB 4 x = false from decide_eq_false (by omega)]
      go_enter Tryz.func76, Tryz.ntmps76
      go_wp2_with (go_at_call 92; refine (hb _).mono ?_; rintro e w1 ⟨rfl, rfl⟩)
      go_ret
      exact ⟨rfl, rfl⟩
  · rw [show regB r x = false from decide_eq_false (by omega)]
    have m0 : (r == 0) = false := by simp; omega
    have m1 : (r == 1) = false := by simp; omega
    have m2 : (r == 2) = false := by simp; omega
    have m4 : (r == 4) = false := by simp; omega
    go_enter Tryz.func76, Tryz.ntmps76
    go_wp2
    go_ret
    exact ⟨rfl, rfl⟩
theorem q_cells {P Q : Own} {w0 w : World} {rows : List (Value × List Value)} {k b fo fi : Nat} {K : KS} (h : Ctx P ((CtlC k b fo fi K).star Q) w0 w rows) :
    w.cell? ⟨k, 1, none⟩ = some (.int .i64 K.r0) ∧ w.cell? ⟨k, 2, none⟩ = some (.int .i64 K.r1) ∧ w.cell? ⟨k, 3, none⟩ = some (.int .i64 K.r2) ∧ w.cell? ⟨k, 4, none⟩ = some (.pointer (some ⟨fo, 0, none⟩)) ∧ w.cell? ⟨k, 5, none⟩ = some (.pointer (some ⟨fi, 0, none⟩)) ∧ (∀ j, w.frozen? ⟨k, j, none⟩ = false) := by
  obtain ⟨S, ⟨h1, h2⟩, h3⟩ := h.get2
  have c1 := h1.cell 1
  have c2 := h1.cell 2
  have c3 := h1.cell 3
  have c4 := h1.cell 4
  have c5 := h1.cell 5
  simp only [KS.cells, List.getElem?_cons_succ, List.getElem?_cons_zero] at c1 c2 c3 c4 c5
  exact ⟨c1, c2, c3, c4, c5, fun j => h1.frozen j⟩
/-- A register is written. -/
theorem reg_w {c : Cor} {b k : Nat} {r0 r1 r2 L n q : Int} {xs ys : List Int} {w0 w : World} {rows : List (Value × List Value)} (h : Reg c b k r0 r1 r2 L xs ys n q w0 w rows) (r x : Int) (hr : r = 0 ∨ r = 1 ∨ r = 2) (hx : regB r x = true) :
    Calls Tryz.prog 43 #[.pointer (some ⟨k, 0, none⟩), .int .i64 r, .int .i64 x] w fun e w' => e = .returned (.int .i64 0) ∧ Reg c b k (if r = 0 then x else r0) (if r = 1 then x else r1) (if r = 2 then x else r2) L xs ys n q w0 w' rows := by
  obtain ⟨s, N, fo, fi, hA, hC, hrest⟩ := h
  obtain ⟨c1, c2, c3, c4, c5, hf⟩ := q_cells hC
  have hst := k_state hC
  have hrg := ctl_reg r x
  rw [hx] at hrg
  have f1 := hf 1
  have f2 := hf 2
  have f3 := hf 3
  rcases hr with rfl | rfl | rfl
  · have HS := Lib.hid (ctl_set (K' := ⟨x, r1, r2, q, false, L, false⟩) (qq_ok _ _ _ _) hC 1 (.int .i64 x) rfl)
    have HR := Lib.hid (And.intro hA hrest)
    clear hC hx hA hrest hf
    go_enter Tryz.func43, Tryz.ntmps43
    go_wp2_with (first | (go_at_call 63; refine hst.mono ?_; rintro e w1 ⟨rfl, rfl⟩) | (go_at_call 76; refine (hrg _).mono ?_; rintro e w1 ⟨rfl, rfl⟩))
    go_ret
    exact ⟨rfl, s, N, fo, fi, HR.out.1, HS.out, HR.out.2⟩
  · have HS := Lib.hid (ctl_set (K' := ⟨r0, x, r2, q, false, L, false⟩) (qq_ok _ _ _ _) hC 2 (.int .i64 x) rfl)
    have HR := Lib.hid (And.intro hA hrest)
    clear hC hx hA hrest hf
    go_enter Tryz.func43, Tryz.ntmps43
    go_wp2_with (first | (go_at_call 63; refine hst.mono ?_; rintro e w1 ⟨rfl, rfl⟩) | (go_at_call 76; refine (hrg _).mono ?_; rintro e w1 ⟨rfl, rfl⟩))
    go_ret
    exact ⟨rfl, s, N, fo, fi, HR.out.1, HS.out, HR.out.2⟩
  · have HS := Lib.hid (ctl_set (K' := ⟨r0, r1, x, q, false, L, false⟩) (qq_ok _ _ _ _) hC 3 (.int .i64 x) rfl)
    have HR := Lib.hid (And.intro hA hrest)
    clear hC hx hA hrest hf
    go_enter Tryz.func43, Tryz.ntmps43
    go_wp2_with (first | (go_at_call 63; refine hst.mono ?_; rintro e w1 ⟨rfl, rfl⟩) | (go_at_call 76; refine (hrg _).mono ?_; rintro e w1 ⟨rfl, rfl⟩))
    go_ret
    exact ⟨rfl, s, N, fo, fi, HR.out.1, HS.out, HR.out.2⟩
/-- What may not be written. -/
theorem reg_wno {c : Cor} {b k : Nat} {r0 r1 r2 L n q : Int} {xs ys : List Int} {w0 w : World} {rows : List (Value × List Value)} (h : Reg c b k r0 r1 r2 L xs ys n q w0 w rows) (r x : Int) (hx : regB r x = false) :
    Calls Tryz.prog 43 #[.pointer (some ⟨k, 0, none⟩), .int .i64 r, .int .i64 x] w fun e w' => e = .returned (.int .i64 1100) ∧ w = w' := by
  obtain ⟨s, N, fo, fi, hA, hC, -⟩ := h
  have hst := k_state hC
  have hrg := ctl_reg r x
  rw [hx] at hrg
  clear hC hA hx
  go_enter Tryz.func43, Tryz.ntmps43
  go_wp2_with (first | (go_at_call 63; refine hst.mono ?_; rintro e w1 ⟨rfl, rfl⟩) | (go_at_call 76; refine (hrg _).mono ?_; rintro e w1 ⟨rfl, rfl⟩))
  go_ret
  exact ⟨rfl, rfl⟩
/-- A byte is queued. -/
theorem reg_wd {c : Cor} {b k : Nat} {r0 r1 r2 L n q : Int} {xs ys : List Int} {w0 w : World} {rows : List (Value × List Value)} (h : Reg c b k r0 r1 r2 L xs ys n q w0 w rows) (x : Int) (hx : regB 4 x = true) (hl : xs.length < 16) :
    Calls Tryz.prog 43 #[.pointer (some ⟨k, 0, none⟩), .int .i64 4, .int .i64 x] w fun e w' => e = .returned (.int .i64 0) ∧ Reg c b k r0 r1 r2 L (xs ++ [x]) ys n q w0 w' rows := by
  obtain ⟨s, N, fo, fi, hA, hC, hrest⟩ := h
  obtain ⟨c1, c2, c3, c4, c5, hf⟩ := q_cells hC
  have hst := k_state hC
  have hrg := ctl_reg 4 x
  rw [hx] at hrg
  have hpush := fifo_push_ok fo x xs w (q_out hC) hl
  have HP := Lib.hid hpush
  have HR := Lib.hid (And.intro hA (And.intro hC hrest))
  clear hC hx hA hrest hf hpush
  go_enter Tryz.func43, Tryz.ntmps43
  go_wp2_with (first | (go_at_call 63; refine hst.mono ?_; rintro e w1 ⟨rfl, rfl⟩) | (go_at_call 76; refine (hrg _).mono ?_; rintro e w1 ⟨rfl, rfl⟩) | (go_at_call 77; refine HP.out.mono ?_; rintro e w1 ⟨rfl, hF, hU⟩))
  go_ret
  exact ⟨rfl, s, N, fo, fi, HR.out.1, q_out' HR.out.2.1 hF hU, HR.out.2.2⟩
theorem reg_wfull {c : Cor} {b k : Nat} {r0 r1 r2 L n q : Int} {xs ys : List Int} {w0 w : World} {rows : List (Value × List Value)} (h : Reg c b k r0 r1 r2 L xs ys n q w0 w rows) (x : Int) (hx : regB 4 x = true) (hl : 16 ≤ xs.length) :
    Calls Tryz.prog 43 #[.pointer (some ⟨k, 0, none⟩), .int .i64 4, .int .i64 x] w fun e w' => e = .returned (.int .i64 801) ∧ Reg c b k r0 r1 r2 L xs ys n q w0 w' rows := by
  obtain ⟨s, N, fo, fi, hA, hC, hrest⟩ := h
  obtain ⟨c1, c2, c3, c4, c5, hf⟩ := q_cells hC
  have hst := k_state hC
  have hrg := ctl_reg 4 x
  rw [hx] at hrg
  have hpush := fifo_push_no fo x xs w (q_out hC) hl
  have HP := Lib.hid hpush
  have HR := Lib.hid (And.intro hA (And.intro hC hrest))
  clear hC hx hA hrest hf hpush
  go_enter Tryz.func43, Tryz.ntmps43
  go_wp2_with (first | (go_at_call 63; refine hst.mono ?_; rintro e w1 ⟨rfl, rfl⟩) | (go_at_call 76; refine (hrg _).mono ?_; rintro e w1 ⟨rfl, rfl⟩) | (go_at_call 77; refine HP.out.mono ?_; rintro e w1 ⟨rfl, hF, hU⟩))
  go_ret
  exact ⟨rfl, s, N, fo, fi, HR.out.1, q_out' HR.out.2.1 hF hU, HR.out.2.2⟩
end Go.Proofs.YtkjdhkpkcepilaaGreat
