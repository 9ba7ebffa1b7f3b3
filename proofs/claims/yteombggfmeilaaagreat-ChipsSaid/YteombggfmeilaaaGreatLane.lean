/- 'append' of one element at a step of a region that draws its order. · The walks over package lane. -/
import Derived.Test.YteombggfmeilaaaGreatLow
import Derived.Deep.RegionHeld3
import Derived.Test.YteombggfmeilaaaGreatWireM
namespace Go.Proofs.YteombggfmeilaaaGreat
open Go.RowKit
theorem step_app1 {P : Program} {w : World} {ops : Array Oper} {o : Oper} {a : Act} {K : Act → World → Prop} {Q : Exit → Act → World → Prop} {E : Prop} (hgd : o.guard = none) (s x : Operand) (t : TypeId)
    (ho : o.op = .call { callee := .builtin .append, args := #[s, x], argTypes := #[t, t] })
    (e : TypeId) (z : Value) (bytes : Nat) (ht : P.underlying t = some (.slice e)) (hi : (P.info? e).map (fun i => (i.zero, i.size, i.bytes)) = some (some z, 1, bytes)) (hzs : z.cells.size = 1)
    (v : Value) (xs : List Value) (n : Nat) (hn : xs.length = n) (hs : a.eval s = v) (w0 : World) (u : Value) (hA : w.Alike (w0.alloc (.cells #[u] e))) (hown : Row w0 e v xs)
    (hx : a.eval x = .slice (some ⟨w0.heap.size, 0, none⟩) 1 1) (hu : u.oneCell' = true) (hlen : n ≤ 17592186044415) (hbytes : (n + 1) * bytes ≤ 140737488355328)
    (h : ∀ g cap w', Row w' e (.slice (some ⟨g, 0, none⟩) (n + 1) cap) (xs ++ [u]) → Upd (fun k => v.ownBlock = some k) w0 w' → (v.ownBlock = some g ∨ w0.heap.size ≤ g) → g < w'.heap.size → K (a.put o.dst (.slice (some ⟨g, 0, none⟩) (n + 1) cap)) w') :
    if Region.wanted o (yielded ops a.tmps) = true then Oper.wp P o a w K Q else E := by
  subst hn
  obtain ⟨i0, hi0, hz0, hz1, hz2⟩ := info_parts hi
  have hU : Upd none' w0 w := ((Upd.refl none' w0).alloc _).alike hA
  refine step_append_lies w hgd s x t ho 0 e i0 z 1 bytes ht hi0 hz0 hz1 hz2 hzs (by decide) v xs.length xs hs (hown.upd hU (fun _ _ f => f)) ⟨w0.heap.size, 0, none⟩ 1 1 [u] hx rfl ?_ ?_ (by decide) (by unfold maxLen; omega) hbytes (Nat.zero_le _) w.heap.size rfl ?_
  · intro j u' hj
    match j, hj with
    | 0, hj =>
      simp at hj; subst hj
      have := (Blk.new w0 [u] e).alike hA
      have := this.cell 0
      simpa [Addr.add] using this
    | j + 1, hj => simp at hj
  · intro u' hu'
    simp at hu'; subst hu'; exact hu
  · intro g cap w' h2 h3 h4 h5
    refine h g cap w' ?_ ((hU.mono (fun _ _ f => f.elim)).trans ((Upd.refl _ w).grown h3 (fun k hk _ => hk)) (fun _ _ k => k)) ?_ h5
    · unfold Row
      rw [List.length_append]; exact h2
    · rcases h4 with h4 | h4
      · exact .inl h4
      · exact .inr (by rw [h4]; exact hU.size)
end Go.Proofs.YteombggfmeilaaaGreat
namespace Go.Proofs.YteombggfmeilaaaGreat
open Go.RowKit
theorem lane_lanes (n : Int) (w : World) : Calls Tryz.prog 176 #[.int .i64 n] w fun e w' => e = .returned (.bool (lanesB n)) ∧ w = w' := by
  by_cases h1 : n = 1
  · subst h1
    go_enter Tryz.func176, Tryz.ntmps176
    go_wp2
    go_ret
    exact ⟨rfl, rfl⟩
  · by_cases h4 : n = 4
    · subst h4
      go_enter Tryz.func176, Tryz.ntmps176
      go_wp2
      go_ret
      exact ⟨rfl, rfl⟩
    · have e1 : (n == 1) = false := by simpa using h1
      have e4 : (n == 4) = false := by simpa using h4
      go_enter Tryz.func176, Tryz.ntmps176
      go_wp2
      go_ret
      exact ⟨by rw [show lanesB n = false from decide_eq_false (by omega)]; rfl, rfl⟩
theorem lane_byte (b : Int) (w : World) : Calls Tryz.prog 175 #[.int .i64 b] w fun e w' => e = .returned (.bool (byteB b)) ∧ w = w' := by
  by_cases h1 : 0 ≤ b
  · by_cases h2 : b < 256
    · go_enter Tryz.func175, Tryz.ntmps175
      go_wp2
      go_ret
      exact ⟨by rw [show byteB b = true from decide_eq_true ⟨h1, h2⟩]; rfl, rfl⟩
    · go_enter Tryz.func175, Tryz.ntmps175
      go_wp2
      go_ret
      exact ⟨by rw [show byteB b = false from decide_eq_false (by omega)]; rfl, rfl⟩
  · go_enter Tryz.func175, Tryz.ntmps175
    go_wp2
    go_ret
    exact ⟨by rw [show byteB b = false from decide_eq_false (by omega)]; rfl, rfl⟩
theorem lane_many (l : Int) (hl : l = 1 ∨ l = 4) (w : World) : Calls Tryz.prog 92 #[.int .i64 l] w fun e w' => e = .returned (.int .i64 (8 / l)) ∧ w = w' := by
  rcases hl with rfl | rfl
  all_goals
    go_enter Tryz.func92, Tryz.ntmps92
    go_wp2
    go_ret
    exact ⟨rfl, rfl⟩
/-- A byte's clocks. -/
def outBits (b l : Int) : List Int := if l = 1 then [b / 128 % 2, b / 64 % 2, b / 32 % 2, b / 16 % 2, b / 8 % 2, b / 4 % 2, b / 2 % 2, b % 2] else [b / 16 % 16, b % 16]

def out1 (b : Int) : List Int := outBits b 1
set_option maxHeartbeats 2000000 in
theorem lane_out1 (w : World) (b : Int) (hb : 0 ≤ b ∧ b < 256) :
    Calls Tryz.prog 199 #[.int .i64 b, .int .i64 1] w fun e w' => ∃ v, e = .returned (.tuple #[v, .int .i64 0]) ∧ Row w' 3 v (ints (outBits b 1)) ∧ (∀ k, v.ownBlock = some k → w.heap.size ≤ k) ∧ Upd none' w w' := by
  have hby := lane_byte b
  rw [show byteB b = true from decide_eq_true hb] at hby
  have hla := lane_lanes 1
  go_enter Tryz.func199, Tryz.ntmps199
  go_wp2_with (first | (go_at_call 176; refine (hla _).mono ?_; rintro e w1 ⟨rfl, rfl⟩) | (go_at_call 175; refine (hby _).mono ?_; rintro e w1 ⟨rfl, rfl⟩))
  clear hby hla
  go_loopw [6, 7] (fun ov jv wr => ∃ j : Nat, j ≤ 8 ∧ jv = .int .i64 (7 - 1 * (j : Int)) ∧ Row wr 3 ov (ints ((outBits b 1).take j)) ∧ (∀ k, ov.ownBlock = some k → w.heap.size ≤ k) ∧ Upd none' w wr) (fun _ jv _ => (intOf jv + 1).toNat)
  case atStart => exact ⟨0, by omega, rfl, by rw [List.take_zero]; exact Row.nil _ _, fun k hk => (by simp [Value.ownBlock] at hk), Upd.refl _ _⟩
  case round =>
    rename World => W2
    obtain ⟨j, hj, rfl, hrow2, hown2, hU2⟩ := hrel
    obtain ⟨oa2, oc2, rfl, -⟩ := hrow2.form
    have hol2 : (ints ((outBits b 1).take j)).length = j := by
      rw [ints_len, List.length_take, show (outBits b 1).length = 8 from rfl, Nat.min_eq_left hj]
    rw [hol2] at hrow2 hown2 ⊢
    have HROW2 := Lib.hid hrow2
    have HOWN2 := Lib.hid hown2
    have HU2 := Lib.hid hU2
    have HOL := Lib.hid hol2
    clear hrow2 hown2 hU2 hol2
    rcases (show j = 0 ∨ j = 1 ∨ j = 2 ∨ j = 3 ∨ j = 4 ∨ j = 5 ∨ j = 6 ∨ j = 7 ∨ j = 8 by omega) with rfl | rfl | rfl | rfl | rfl | rfl | rfl | rfl | rfl
    · have ha := i64_and1 (b / 128)
      go_upto_region 7 with fail
      go_region_held3 (fun w' => True) (exact trivial) ((go_must (refine step_app1 rfl _ _ 33 rfl 3 (.int .i64 0) 8 Tryz.underlying33 info_int rfl (.slice oa2 0 oc2) (ints ((outBits b 1).take 0)) 0 HOL.out rfl W2 (.int .i64 (bits .and .i64 (b / 128) (IntKind.i64.wrap (IntKind.i64.wrap 2 - 1)))) ⟨rfl, rfl, rfl⟩ HROW2.out rfl rfl (by omega) (by omega) ?_); intro g cap w3 hR3 hU3 hg3 hgs3; rw [show IntKind.i64.wrap (IntKind.i64.wrap 2 - 1) = 1 from by decide, ha] at hR3))
      all_goals
        go_wp2
        refine ⟨?rel, ?measure⟩
        case rel =>
          have hg : w.heap.size ≤ g := by
            rcases hg3 with e | e
            · exact HOWN2.out g e
            · have := HU2.out.size; omega
          refine ⟨1, by omega, by go_num, ?_, ?_, ?_⟩
          · rw [show (outBits b 1).take 1 = (outBits b 1).take 0 ++ [b / 128 % 2] from rfl, ints_app]
            exact hR3
          · intro k hk
            simp [Value.ownBlock] at hk
            rw [← hk]
            exact hg
          · exact HU2.out.trans hU3 (fun k h1 h2 => absurd (HOWN2.out k h2) (by omega))
        case measure => (try simp [intOf]); (try omega)
    · have ha := i64_and1 (b / 64)
      go_upto_region 7 with fail
      go_region_held3 (fun w' => True) (exact trivial) ((go_must (refine step_app1 rfl _ _ 33 rfl 3 (.int .i64 0) 8 Tryz.underlying33 info_int rfl (.slice oa2 1 oc2) (ints ((outBits b 1).take 1)) 1 HOL.out rfl W2 (.int .i64 (bits .and .i64 (b / 64) (IntKind.i64.wrap (IntKind.i64.wrap 2 - 1)))) ⟨rfl, rfl, rfl⟩ HROW2.out rfl rfl (by omega) (by omega) ?_); intro g cap w3 hR3 hU3 hg3 hgs3; rw [show IntKind.i64.wrap (IntKind.i64.wrap 2 - 1) = 1 from by decide, ha] at hR3))
      all_goals
        go_wp2
        refine ⟨?rel, ?measure⟩
        case rel =>
          have hg : w.heap.size ≤ g := by
            rcases hg3 with e | e
            · exact HOWN2.out g e
            · have := HU2.out.size; omega
          refine ⟨2, by omega, by go_num, ?_, ?_, ?_⟩
          · rw [show (outBits b 1).take 2 = (outBits b 1).take 1 ++ [b / 64 % 2] from rfl, ints_app]
            exact hR3
          · intro k hk
            simp [Value.ownBlock] at hk
            rw [← hk]
            exact hg
          · exact HU2.out.trans hU3 (fun k h1 h2 => absurd (HOWN2.out k h2) (by omega))
        case measure => (try simp [intOf]); (try omega)
    · have ha := i64_and1 (b / 32)
      go_upto_region 7 with fail
      go_region_held3 (fun w' => True) (exact trivial) ((go_must (refine step_app1 rfl _ _ 33 rfl 3 (.int .i64 0) 8 Tryz.underlying33 info_int rfl (.slice oa2 2 oc2) (ints ((outBits b 1).take 2)) 2 HOL.out rfl W2 (.int .i64 (bits .and .i64 (b / 32) (IntKind.i64.wrap (IntKind.i64.wrap 2 - 1)))) ⟨rfl, rfl, rfl⟩ HROW2.out rfl rfl (by omega) (by omega) ?_); intro g cap w3 hR3 hU3 hg3 hgs3; rw [show IntKind.i64.wrap (IntKind.i64.wrap 2 - 1) = 1 from by decide, ha] at hR3))
      all_goals
        go_wp2
        refine ⟨?rel, ?measure⟩
        case rel =>
          have hg : w.heap.size ≤ g := by
            rcases hg3 with e | e
            · exact HOWN2.out g e
            · have := HU2.out.size; omega
          refine ⟨3, by omega, by go_num, ?_, ?_, ?_⟩
          · rw [show (outBits b 1).take 3 = (outBits b 1).take 2 ++ [b / 32 % 2] from rfl, ints_app]
            exact hR3
          · intro k hk
            simp [Value.ownBlock] at hk
            rw [← hk]
            exact hg
          · exact HU2.out.trans hU3 (fun k h1 h2 => absurd (HOWN2.out k h2) (by omega))
        case measure => (try simp [intOf]); (try omega)
    · have ha := i64_and1 (b / 16)
      go_upto_region 7 with fail
      go_region_held3 (fun w' => True) (exact trivial) ((go_must (refine step_app1 rfl _ _ 33 rfl 3 (.int .i64 0) 8 Tryz.underlying33 info_int rfl (.slice oa2 3 oc2) (ints ((outBits b 1).take 3)) 3 HOL.out rfl W2 (.int .i64 (bits .and .i64 (b / 16) (IntKind.i64.wrap (IntKind.i64.wrap 2 - 1)))) ⟨rfl, rfl, rfl⟩ HROW2.out rfl rfl (by omega) (by omega) ?_); intro g cap w3 hR3 hU3 hg3 hgs3; rw [show IntKind.i64.wrap (IntKind.i64.wrap 2 - 1) = 1 from by decide, ha] at hR3))
      all_goals
        go_wp2
        refine ⟨?rel, ?measure⟩
        case rel =>
          have hg : w.heap.size ≤ g := by
            rcases hg3 with e | e
            · exact HOWN2.out g e
            · have := HU2.out.size; omega
          refine ⟨4, by omega, by go_num, ?_, ?_, ?_⟩
          · rw [show (outBits b 1).take 4 = (outBits b 1).take 3 ++ [b / 16 % 2] from rfl, ints_app]
            exact hR3
          · intro k hk
            simp [Value.ownBlock] at hk
            rw [← hk]
            exact hg
          · exact HU2.out.trans hU3 (fun k h1 h2 => absurd (HOWN2.out k h2) (by omega))
        case measure => (try simp [intOf]); (try omega)
    · have ha := i64_and1 (b / 8)
      go_upto_region 7 with fail
      go_region_held3 (fun w' => True) (exact trivial) ((go_must (refine step_app1 rfl _ _ 33 rfl 3 (.int .i64 0) 8 Tryz.underlying33 info_int rfl (.slice oa2 4 oc2) (ints ((outBits b 1).take 4)) 4 HOL.out rfl W2 (.int .i64 (bits .and .i64 (b / 8) (IntKind.i64.wrap (IntKind.i64.wrap 2 - 1)))) ⟨rfl, rfl, rfl⟩ HROW2.out rfl rfl (by omega) (by omega) ?_); intro g cap w3 hR3 hU3 hg3 hgs3; rw [show IntKind.i64.wrap (IntKind.i64.wrap 2 - 1) = 1 from by decide, ha] at hR3))
      all_goals
        go_wp2
        refine ⟨?rel, ?measure⟩
        case rel =>
          have hg : w.heap.size ≤ g := by
            rcases hg3 with e | e
            · exact HOWN2.out g e
            · have := HU2.out.size; omega
          refine ⟨5, by omega, by go_num, ?_, ?_, ?_⟩
          · rw [show (outBits b 1).take 5 = (outBits b 1).take 4 ++ [b / 8 % 2] from rfl, ints_app]
            exact hR3
          · intro k hk
            simp [Value.ownBlock] at hk
            rw [← hk]
            exact hg
          · exact HU2.out.trans hU3 (fun k h1 h2 => absurd (HOWN2.out k h2) (by omega))
        case measure => (try simp [intOf]); (try omega)
    · have ha := i64_and1 (b / 4)
      go_upto_region 7 with fail
      go_region_held3 (fun w' => True) (exact trivial) ((go_must (refine step_app1 rfl _ _ 33 rfl 3 (.int .i64 0) 8 Tryz.underlying33 info_int rfl (.slice oa2 5 oc2) (ints ((outBits b 1).take 5)) 5 HOL.out rfl W2 (.int .i64 (bits .and .i64 (b / 4) (IntKind.i64.wrap (IntKind.i64.wrap 2 - 1)))) ⟨rfl, rfl, rfl⟩ HROW2.out rfl rfl (by omega) (by omega) ?_); intro g cap w3 hR3 hU3 hg3 hgs3; rw [show IntKind.i64.wrap (IntKind.i64.wrap 2 - 1) = 1 from by decide, ha] at hR3))
      all_goals
        go_wp2
        refine ⟨?rel, ?measure⟩
        case rel =>
          have hg : w.heap.size ≤ g := by
            rcases hg3 with e | e
            · exact HOWN2.out g e
            · have := HU2.out.size; omega
          refine ⟨6, by omega, by go_num, ?_, ?_, ?_⟩
          · rw [show (outBits b 1).take 6 = (outBits b 1).take 5 ++ [b / 4 % 2] from rfl, ints_app]
            exact hR3
          · intro k hk
            simp [Value.ownBlock] at hk
            rw [← hk]
            exact hg
          · exact HU2.out.trans hU3 (fun k h1 h2 => absurd (HOWN2.out k h2) (by omega))
        case measure => (try simp [intOf]); (try omega)
    · have ha := i64_and1 (b / 2)
      go_upto_region 7 with fail
      go_region_held3 (fun w' => True) (exact trivial) ((go_must (refine step_app1 rfl _ _ 33 rfl 3 (.int .i64 0) 8 Tryz.underlying33 info_int rfl (.slice oa2 6 oc2) (ints ((outBits b 1).take 6)) 6 HOL.out rfl W2 (.int .i64 (bits .and .i64 (b / 2) (IntKind.i64.wrap (IntKind.i64.wrap 2 - 1)))) ⟨rfl, rfl, rfl⟩ HROW2.out rfl rfl (by omega) (by omega) ?_); intro g cap w3 hR3 hU3 hg3 hgs3; rw [show IntKind.i64.wrap (IntKind.i64.wrap 2 - 1) = 1 from by decide, ha] at hR3))
      all_goals
        go_wp2
        refine ⟨?rel, ?measure⟩
        case rel =>
          have hg : w.heap.size ≤ g := by
            rcases hg3 with e | e
            · exact HOWN2.out g e
            · have := HU2.out.size; omega
          refine ⟨7, by omega, by go_num, ?_, ?_, ?_⟩
          · rw [show (outBits b 1).take 7 = (outBits b 1).take 6 ++ [b / 2 % 2] from rfl, ints_app]
            exact hR3
          · intro k hk
            simp [Value.ownBlock] at hk
            rw [← hk]
            exact hg
          · exact HU2.out.trans hU3 (fun k h1 h2 => absurd (HOWN2.out k h2) (by omega))
        case measure => (try simp [intOf]); (try omega)
    · have ha := i64_and1 (b)
      go_upto_region 7 with fail
      go_region_held3 (fun w' => True) (exact trivial) ((go_must (refine step_app1 rfl _ _ 33 rfl 3 (.int .i64 0) 8 Tryz.underlying33 info_int rfl (.slice oa2 7 oc2) (ints ((outBits b 1).take 7)) 7 HOL.out rfl W2 (.int .i64 (bits .and .i64 (b) (IntKind.i64.wrap (IntKind.i64.wrap 2 - 1)))) ⟨rfl, rfl, rfl⟩ HROW2.out rfl rfl (by omega) (by omega) ?_); intro g cap w3 hR3 hU3 hg3 hgs3; rw [show IntKind.i64.wrap (IntKind.i64.wrap 2 - 1) = 1 from by decide, ha] at hR3))
      all_goals
        go_wp2
        refine ⟨?rel, ?measure⟩
        case rel =>
          have hg : w.heap.size ≤ g := by
            rcases hg3 with e | e
            · exact HOWN2.out g e
            · have := HU2.out.size; omega
          refine ⟨8, by omega, by go_num, ?_, ?_, ?_⟩
          · rw [show (outBits b 1).take 8 = (outBits b 1).take 7 ++ [b % 2] from rfl, ints_app]
            exact hR3
          · intro k hk
            simp [Value.ownBlock] at hk
            rw [← hk]
            exact hg
          · exact HU2.out.trans hU3 (fun k h1 h2 => absurd (HOWN2.out k h2) (by omega))
        case measure => (try simp [intOf]); (try omega)
    · go_wp2
      go_ret2
      exact ⟨_, rfl, HROW2.out, HOWN2.out, HU2.out⟩
def out4 (b : Int) : List Int := outBits b 4
set_option maxHeartbeats 2000000 in
theorem lane_out4 (w : World) (b : Int) (hb : 0 ≤ b ∧ b < 256) :
    Calls Tryz.prog 199 #[.int .i64 b, .int .i64 4] w fun e w' => ∃ v, e = .returned (.tuple #[v, .int .i64 0]) ∧ Row w' 3 v (ints (outBits b 4)) ∧ (∀ k, v.ownBlock = some k → w.heap.size ≤ k) ∧ Upd none' w w' := by
  have hby := lane_byte b
  rw [show byteB b = true from decide_eq_true hb] at hby
  have hla := lane_lanes 4
  go_enter Tryz.func199, Tryz.ntmps199
  go_wp2_with (first | (go_at_call 176; refine (hla _).mono ?_; rintro e w1 ⟨rfl, rfl⟩) | (go_at_call 175; refine (hby _).mono ?_; rintro e w1 ⟨rfl, rfl⟩))
  clear hby hla
  go_loopw [6, 7] (fun ov jv wr => ∃ j : Nat, j ≤ 2 ∧ jv = .int .i64 (4 - 4 * (j : Int)) ∧ Row wr 3 ov (ints ((outBits b 4).take j)) ∧ (∀ k, ov.ownBlock = some k → w.heap.size ≤ k) ∧ Upd none' w wr) (fun _ jv _ => (intOf jv + 4).toNat)
  case atStart => exact ⟨0, by omega, rfl, by rw [List.take_zero]; exact Row.nil _ _, fun k hk => (by simp [Value.ownBlock] at hk), Upd.refl _ _⟩
  case round =>
    rename World => W2
    obtain ⟨j, hj, rfl, hrow2, hown2, hU2⟩ := hrel
    obtain ⟨oa2, oc2, rfl, -⟩ := hrow2.form
    have hol2 : (ints ((outBits b 4).take j)).length = j := by
      rw [ints_len, List.length_take, show (outBits b 4).length = 2 from rfl, Nat.min_eq_left hj]
    rw [hol2] at hrow2 hown2 ⊢
    have HROW2 := Lib.hid hrow2
    have HOWN2 := Lib.hid hown2
    have HU2 := Lib.hid hU2
    have HOL := Lib.hid hol2
    clear hrow2 hown2 hU2 hol2
    rcases (show j = 0 ∨ j = 1 ∨ j = 2 by omega) with rfl | rfl | rfl
    · have ha := i64_and15 (b / 16)
      go_upto_region 7 with fail
      go_region_held3 (fun w' => True) (exact trivial) ((go_must (refine step_app1 rfl _ _ 33 rfl 3 (.int .i64 0) 8 Tryz.underlying33 info_int rfl (.slice oa2 0 oc2) (ints ((outBits b 4).take 0)) 0 HOL.out rfl W2 (.int .i64 (bits .and .i64 (b / 16) (IntKind.i64.wrap (IntKind.i64.wrap 16 - 1)))) ⟨rfl, rfl, rfl⟩ HROW2.out rfl rfl (by omega) (by omega) ?_); intro g cap w3 hR3 hU3 hg3 hgs3; rw [show IntKind.i64.wrap (IntKind.i64.wrap 16 - 1) = 15 from by decide, ha] at hR3))
      all_goals
        go_wp2
        refine ⟨?rel, ?measure⟩
        case rel =>
          have hg : w.heap.size ≤ g := by
            rcases hg3 with e | e
            · exact HOWN2.out g e
            · have := HU2.out.size; omega
          refine ⟨1, by omega, by go_num, ?_, ?_, ?_⟩
          · rw [show (outBits b 4).take 1 = (outBits b 4).take 0 ++ [b / 16 % 16] from rfl, ints_app]
            exact hR3
          · intro k hk
            simp [Value.ownBlock] at hk
            rw [← hk]
            exact hg
          · exact HU2.out.trans hU3 (fun k h1 h2 => absurd (HOWN2.out k h2) (by omega))
        case measure => (try simp [intOf]); (try omega)
    · have ha := i64_and15 (b)
      go_upto_region 7 with fail
      go_region_held3 (fun w' => True) (exact trivial) ((go_must (refine step_app1 rfl _ _ 33 rfl 3 (.int .i64 0) 8 Tryz.underlying33 info_int rfl (.slice oa2 1 oc2) (ints ((outBits b 4).take 1)) 1 HOL.out rfl W2 (.int .i64 (bits .and .i64 (b) (IntKind.i64.wrap (IntKind.i64.wrap 16 - 1)))) ⟨rfl, rfl, rfl⟩ HROW2.out rfl rfl (by omega) (by omega) ?_); intro g cap w3 hR3 hU3 hg3 hgs3; rw [show IntKind.i64.wrap (IntKind.i64.wrap 16 - 1) = 15 from by decide, ha] at hR3))
      all_goals
        go_wp2
        refine ⟨?rel, ?measure⟩
        case rel =>
          have hg : w.heap.size ≤ g := by
            rcases hg3 with e | e
            · exact HOWN2.out g e
            · have := HU2.out.size; omega
          refine ⟨2, by omega, by go_num, ?_, ?_, ?_⟩
          · rw [show (outBits b 4).take 2 = (outBits b 4).take 1 ++ [b % 16] from rfl, ints_app]
            exact hR3
          · intro k hk
            simp [Value.ownBlock] at hk
            rw [← hk]
            exact hg
          · exact HU2.out.trans hU3 (fun k h1 h2 => absurd (HOWN2.out k h2) (by omega))
        case measure => (try simp [intOf]); (try omega)
    · go_wp2
      go_ret2
      exact ⟨_, rfl, HROW2.out, HOWN2.out, HU2.out⟩
def foldB (m : Int) (xs : List Int) : Int := xs.foldl (fun b x => b * m + x) 0
theorem foldB_snoc (m : Int) (xs : List Int) (x : Int) : foldB m (xs ++ [x]) = foldB m xs * m + x := by unfold foldB; rw [List.foldl_append]; rfl
theorem take_one (xs : List Int) (i : Nat) (h : i < xs.length) : xs.take (i + 1) = xs.take i ++ [xs.getD i 0] := by
  rw [List.take_add_one]
  simp [List.getD_eq_getElem?_getD, List.getElem?_eq_getElem h]
theorem foldB_bd1 (xs : List Int) (hx : ∀ x ∈ xs, 0 ≤ x ∧ x < 2) : ∀ i : Nat, i ≤ xs.length → 0 ≤ foldB 2 (xs.take i) ∧ foldB 2 (xs.take i) < 2 ^ i := by
  intro i
  induction i with
  | zero => intro _; rw [List.take_zero]; exact ⟨by decide, by decide⟩
  | succ i ih =>
    intro h
    have h1 := ih (by omega)
    have h2 := hx (xs.getD i 0) (by rw [List.getD_eq_getElem?_getD, List.getElem?_eq_getElem (show i < xs.length by omega)]; exact List.getElem_mem _)
    rw [take_one xs i (by omega), foldB_snoc, Int.pow_succ]
    omega
set_option maxHeartbeats 2000000 in
theorem lane_in1 (w : World) (v : Value) (xs : List Int) (hr : RS w v (ints xs)) (hl : xs.length = 8) (hx : ∀ x ∈ xs, 0 ≤ x ∧ x < 2) :
    Calls Tryz.prog 200 #[v, .int .i64 1] w fun e w' => e = .returned (.tuple #[.int .i64 (foldB 2 xs), .int .i64 0]) ∧ w = w' := by
  have hla := lane_lanes 1
  have hma := lane_many 1 (by decide)
  rw [show (8 : Int) / 1 = 8 from rfl] at hma
  obtain ⟨h1, a, cap, rfl, h4, h5⟩ := hr
  rw [ints_len, hl] at h1 h4 h5 ⊢
  obtain ⟨bb, oo, rfl, hbb, hcc⟩ := h5 (by intro h; have := congrArg List.length h; rw [ints_len, hl] at this; simp at this)
  have HCC := Lib.hid hcc
  clear hcc h5
  go_enter Tryz.func200, Tryz.ntmps200
  go_wp2_with (first | (go_at_call 176; refine (hla _).mono ?_; rintro e w1 ⟨rfl, rfl⟩) | (go_at_call 92; refine (hma _).mono ?_; rintro e w1 ⟨rfl, rfl⟩))
  clear hla hma
  go_loopw [6, 21] (fun bv iv wr => ∃ i : Nat, i ≤ 8 ∧ iv = .int .i64 (i : Int) ∧ bv = .int .i64 (foldB 2 (xs.take i)) ∧ Hid (w = wr)) (fun _ iv _ => 8 - (intOf iv).toNat)
  case atStart => exact ⟨0, by omega, rfl, rfl, Lib.hid rfl⟩
  case round =>
    rename World => W2
    obtain ⟨i, hi, rfl, rfl, hw⟩ := hrel
    by_cases hlt : i < 8
    · have hbd := foldB_bd1 xs hx i (by omega)
      have htk := take_one xs i (by omega)
      have hxi := hx (xs.getD i 0) (by rw [List.getD_eq_getElem?_getD, List.getElem?_eq_getElem (show i < xs.length by omega)]; exact List.getElem_mem _)
      have hcell : W2.cell? ⟨bb, oo + i, none⟩ = some (.int .i64 (xs.getD i 0)) := by
        rw [← hw.out, HCC.out i hlt, ints_at _ _ (by omega)]
      have hsn := foldB_snoc 2 (xs.take i) (xs.getD i 0)
      rw [← htk] at hsn
      have hpw : (2 : Int) ^ i ≤ 256 := by
        rcases (show i = 0 ∨ i = 1 ∨ i = 2 ∨ i = 3 ∨ i = 4 ∨ i = 5 ∨ i = 6 ∨ i = 7 by omega) with rfl | rfl | rfl | rfl | rfl | rfl | rfl | rfl <;> decide
      obtain ⟨y, hy⟩ : ∃ y, xs.getD i 0 = y := ⟨_, rfl⟩
      obtain ⟨b0, hb0⟩ : ∃ b0, foldB 2 (xs.take i) = b0 := ⟨_, rfl⟩
      rw [hy] at hcell hsn hxi
      rw [hb0] at hbd hsn ⊢
      have ho := i64_or1 (b0 * 2) y (by omega) (by omega) (by omega) hxi.1 hxi.2
      have HSN := Lib.hid hsn
      have hb1 : 0 ≤ b0 ∧ b0 < 256 := by omega
      have hy1 : ¬ y < 0 := by omega
      have hy2 : ¬ 2 ≤ y := by omega
      clear hsn htk hpw hbd hy hb0 hl hx
      go_wp2
      refine ⟨?rel, ?measure⟩
      case rel => exact ⟨i + 1, by omega, by go_num, by rw [HSN.out], hw⟩
      case measure => simp [intOf]; omega
    · have hie : i = 8 := by omega
      subst hie
      have hf : foldB 2 (xs.take 8) = foldB 2 xs := by rw [List.take_of_length_le (by omega)]
      rw [hf]
      go_wp2
      go_ret2
      exact ⟨rfl, hw.out⟩
theorem foldB_bd4 (xs : List Int) (hx : ∀ x ∈ xs, 0 ≤ x ∧ x < 16) : ∀ i : Nat, i ≤ xs.length → 0 ≤ foldB 16 (xs.take i) ∧ foldB 16 (xs.take i) < 16 ^ i := by
  intro i
  induction i with
  | zero => intro _; rw [List.take_zero]; exact ⟨by decide, by decide⟩
  | succ i ih =>
    intro h
    have h1 := ih (by omega)
    have h2 := hx (xs.getD i 0) (by rw [List.getD_eq_getElem?_getD, List.getElem?_eq_getElem (show i < xs.length by omega)]; exact List.getElem_mem _)
    rw [take_one xs i (by omega), foldB_snoc, Int.pow_succ]
    omega
set_option maxHeartbeats 2000000 in
theorem lane_in4 (w : World) (v : Value) (xs : List Int) (hr : RS w v (ints xs)) (hl : xs.length = 2) (hx : ∀ x ∈ xs, 0 ≤ x ∧ x < 16) :
    Calls Tryz.prog 200 #[v, .int .i64 4] w fun e w' => e = .returned (.tuple #[.int .i64 (foldB 16 xs), .int .i64 0]) ∧ w = w' := by
  have hla := lane_lanes 4
  have hma := lane_many 4 (by decide)
  rw [show (8 : Int) / 4 = 2 from rfl] at hma
  obtain ⟨h1, a, cap, rfl, h4, h5⟩ := hr
  rw [ints_len, hl] at h1 h4 h5 ⊢
  obtain ⟨bb, oo, rfl, hbb, hcc⟩ := h5 (by intro h; have := congrArg List.length h; rw [ints_len, hl] at this; simp at this)
  have HCC := Lib.hid hcc
  clear hcc h5
  go_enter Tryz.func200, Tryz.ntmps200
  go_wp2_with (first | (go_at_call 176; refine (hla _).mono ?_; rintro e w1 ⟨rfl, rfl⟩) | (go_at_call 92; refine (hma _).mono ?_; rintro e w1 ⟨rfl, rfl⟩))
  clear hla hma
  go_loopw [6, 21] (fun bv iv wr => ∃ i : Nat, i ≤ 2 ∧ iv = .int .i64 (i : Int) ∧ bv = .int .i64 (foldB 16 (xs.take i)) ∧ Hid (w = wr)) (fun _ iv _ => 2 - (intOf iv).toNat)
  case atStart => exact ⟨0, by omega, rfl, rfl, Lib.hid rfl⟩
  case round =>
    rename World => W2
    obtain ⟨i, hi, rfl, rfl, hw⟩ := hrel
    by_cases hlt : i < 2
    · have hbd := foldB_bd4 xs hx i (by omega)
      have htk := take_one xs i (by omega)
      have hxi := hx (xs.getD i 0) (by rw [List.getD_eq_getElem?_getD, List.getElem?_eq_getElem (show i < xs.length by omega)]; exact List.getElem_mem _)
      have hcell : W2.cell? ⟨bb, oo + i, none⟩ = some (.int .i64 (xs.getD i 0)) := by
        rw [← hw.out, HCC.out i hlt, ints_at _ _ (by omega)]
      have hsn := foldB_snoc 16 (xs.take i) (xs.getD i 0)
      rw [← htk] at hsn
      have hpw : (16 : Int) ^ i ≤ 256 := by
        rcases (show i = 0 ∨ i = 1 by omega) with rfl | rfl <;> decide
      obtain ⟨y, hy⟩ : ∃ y, xs.getD i 0 = y := ⟨_, rfl⟩
      obtain ⟨b0, hb0⟩ : ∃ b0, foldB 16 (xs.take i) = b0 := ⟨_, rfl⟩
      rw [hy] at hcell hsn hxi
      rw [hb0] at hbd hsn ⊢
      have ho := i64_or4 (b0 * 16) y (by omega) (by omega) (by omega) hxi.1 hxi.2
      have HSN := Lib.hid hsn
      have hb1 : 0 ≤ b0 ∧ b0 < 256 := by omega
      have hy1 : ¬ y < 0 := by omega
      have hy2 : ¬ 16 ≤ y := by omega
      clear hsn htk hpw hbd hy hb0 hl hx
      go_wp2
      refine ⟨?rel, ?measure⟩
      case rel => exact ⟨i + 1, by omega, by go_num, by rw [HSN.out], hw⟩
      case measure => simp [intOf]; omega
    · have hie : i = 2 := by omega
      subst hie
      have hf : foldB 16 (xs.take 2) = foldB 16 xs := by rw [List.take_of_length_le (by omega)]
      rw [hf]
      go_wp2
      go_ret2
      exact ⟨rfl, hw.out⟩
end Go.Proofs.YteombggfmeilaaaGreat
