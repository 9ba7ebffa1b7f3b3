/- ChipId: a chip tells its three bytes over and over, whatever it holds: for every text and every number. No condition. -/
import Derived.Test.YtjdjdfllggpckaaGreatAwake6
import Derived.Test.YtjdjdfllggpckaaGreatBytesOf
namespace Go.Proofs.YtjdjdfllggpckaaGreat
open Go.RowKit
def idL (m : Nat) : List Int := (List.range m).map (fun i => ([239, 64, 12] : List Int).getD (i % 3) 0)
theorem id_law (a : ByteArray) (m : Nat) (h1 : 1 ≤ m) (h2 : m ≤ 16) : bytesN ((St.new a).said (wordL [159] ++ List.replicate (8 * m) 15)).2 8 m = idL m := by
  rcases (show m = 1 ∨ m = 2 ∨ m = 3 ∨ m = 4 ∨ m = 5 ∨ m = 6 ∨ m = 7 ∨ m = 8 ∨ m = 9 ∨ m = 10 ∨ m = 11 ∨ m = 12 ∨ m = 13 ∨ m = 14 ∨ m = 15 ∨ m = 16 by omega) with rfl | rfl | rfl | rfl | rfl | rfl | rfl | rfl | rfl | rfl | rfl | rfl | rfl | rfl | rfl | rfl
  all_goals kernel_rfl
theorem said_len (s : St) (xs : List Int) : (s.said xs).2.length = xs.length := runC_len _ _
theorem id_in (m : Nat) : ∀ x ∈ wordL [159] ++ List.replicate (8 * m) 15, 0 ≤ x ∧ x ≤ 15 := by
  intro x hx
  rw [List.mem_append] at hx
  rcases hx with hx | hx
  · have : ∀ y ∈ wordL [159], 0 ≤ y ∧ y ≤ 15 := by decide
    exact this x hx
  · have := List.eq_of_mem_replicate hx
    omega
theorem quiet_i (w : World) (a0 : Option Addr) (n0 c0 : Nat) (xs : List Int) (k : Nat) (x : Int) (hx : x = (k : Int)) (hr : RS w (.slice a0 n0 c0) (ints xs)) (hc0 : a0 = none → c0 = 0) (hlen : xs.length ≤ 1048576) (hk : k ≤ 1048576) :
    Calls Tryz.prog 15 #[.slice a0 n0 c0, .int .i64 x] w fun e w' => ∃ v', e = .returned v' ∧ Row w' 3 v' (ints (xs ++ List.replicate k 15)) ∧ (∀ g, v'.ownBlock = some g → w.heap.size ≤ g) ∧ Upd none' w w' := by
  rw [hx]
  exact law_quiet w a0 n0 c0 xs k hr hc0 hlen hk
theorem bytes_i (w : World) (a0 : Option Addr) (n0 c0 : Nat) (xs : List Int) (f n : Nat) (hr : RS w (.slice a0 n0 c0) (ints xs)) (hlen : xs.length ≤ 1048576) (hf : f ≤ xs.length) (hn : (xs.length - f) / 8 = n) (ys : List Int) (hy : bytesN xs f n = ys) :
    Calls Tryz.prog 17 #[.slice a0 n0 c0, .int .i64 (f : Int)] w fun e w' => ∃ v', e = .returned v' ∧ Row w' 3 v' (ints ys) ∧ (∀ g, v'.ownBlock = some g → w.heap.size ≤ g) ∧ Upd none' w w' := by
  subst hn
  subst hy
  exact law_bytesOf w a0 n0 c0 xs f hr hlen hf
theorem idL_at (m i : Nat) (h : i < m) : (idL m).getD i 0 = ([239, 64, 12] : List Int).getD (i % 3) 0 := by
  unfold idL
  rw [List.getD_eq_getElem?_getD, List.getElem?_map, List.getElem?_range h]
  rfl
theorem idL_len (m : Nat) : (idL m).length = m := by unfold idL; rw [List.length_map, List.length_range]
set_option maxRecDepth 100000 in
set_option maxHeartbeats 4000000 in
theorem lawChipId (w : World) (s : ByteArray) (hs : s.size ≤ maxLen) (many : Int) (_ : (Lit.int .i64 many).wf = true) :
    Calls Tryz.prog 5 #[.string s, .int .i64 many] w fun e w' => e = .returned (.bool true) ∧ Upd none' w w' := by
  have hand := i64_and15 many
  obtain ⟨m, hm⟩ : ∃ m : Nat, many % 16 + 1 = (m : Int) := ⟨(many % 16 + 1).toNat, by omega⟩
  have hm1 : 1 ≤ m := by omega
  have hm2 : m ≤ 16 := by omega
  have hwr : IntKind.i64.wrap (1 + many % 16) = (m : Int) := by rw [Int.add_comm, hm]; exact IntWalk.i64_in _ (by omega)
  have HM := Lib.hid hm
  clear hm
  go_enter Tryz.func5, Tryz.ntmps5
  go_upto_region 7 with (first | (go_at_call 11; refine (awake6 _).mono ?_; rintro e w0 ⟨rfl, hU0⟩) | (go_at_call 12; refine (law_fresh s _ hs).mono ?_; rintro e w1 ⟨b, S0, rfl, hA0, hS0, hU1⟩))
  have hUw := hU0.trans hU1 (fun _ _ f => f)
  have hS0' : ∀ k, S0 k → w.heap.size ≤ k := fun k hk => Nat.le_trans hU0.size (hS0 k hk)
  have hsz : (⟨(freshL s).toArray⟩ : ByteArray).size = 4096 := by simpa [ByteArray.size] using freshL_len s
  have HNI := Lib.hid (new_inv ⟨(freshL s).toArray⟩ hsz)
  have HLAW := Lib.hid (id_law ⟨(freshL s).toArray⟩ m hm1 hm2)
  generalize (⟨(freshL s).toArray⟩ : ByteArray) = fa at *
  clear hU0 hU1 hS0 hand hwr
  obtain ⟨xs, hxs⟩ : ∃ xs, wordL [159] ++ List.replicate (8 * m) 15 = xs := ⟨_, rfl⟩
  have hxl : xs.length = 8 + 8 * m := by rw [← hxs, List.length_append, List.length_replicate]; rfl
  have hxi : ∀ x ∈ xs, 0 ≤ x ∧ x ≤ 15 := by rw [← hxs]; exact id_in m
  rw [hxs] at HLAW
  have hol : ((St.new fa).said xs).2.length = 8 + 8 * m := by rw [said_len, hxl]
  have hq := fun W a0 n0 c0 (hr : RS W (.slice a0 n0 c0) (ints (wordL [159]))) (hc : a0 = none → c0 = 0) => quiet_i W a0 n0 c0 (wordL [159]) (8 * m) (8 * (m : Int)) (by omega) hr hc (by decide) (by omega)
  rw [hxs] at hq
  have HQ := Lib.hid hq
  have HXI := Lib.hid hxi
  clear hq hxi hxs
  go_upto_region 8 with (first | (go_at_call 16; refine (law_word _ _ [159] (rs_lit w1 [159] (by decide)) (by decide) (by decide)).mono ?_; rintro e wA ⟨va, rfl, hRa, hfa, hUa⟩; have hUa' := ((Upd.refl none' w1).alloc (.cells (ints [159]).toArray 3)).trans hUa (fun _ _ f => f); obtain ⟨aa, ca, rfl, -, hna, -⟩ := hRa.form) | (go_at_call 15; refine (HQ.out _ _ _ _ (hRa.rs (by decide)) (fun h => (hna h).2)).mono ?_; rintro e wB ⟨vb, rfl, hRb, hfb, hUb⟩; have hUb' := hUa'.trans hUb (fun _ _ f => f); obtain ⟨ab, cb, rfl, -⟩ := hRb.form) | (go_at_call 14; refine (law_say b (St.new fa) S0 _ (hA0.upd hUb' (fun _ _ f => f)) 0 HNI.out _ xs (hRb.rs (by rw [ints_len]; omega)) (fun k hk e => by have h1 := hfb k hk; have h2 := hA0.lt k e; have h3 := hUa'.size; omega) (by omega) rfl HXI.out).mono ?_; rintro e wC ⟨vc, S1, rfl, hRc, hfc, hAc, hSc, hUc⟩; obtain ⟨ac, cc, rfl, -⟩ := hRc.form) | (go_at_call 17; refine (bytes_i _ _ _ _ _ 8 m (hRc.rs (by rw [ints_len]; omega)) (by omega) (by omega) (by omega) _ HLAW.out).mono ?_; rintro e wD ⟨vd, rfl, hRd, hfd, hUd⟩; obtain ⟨ad, cd, rfl, -⟩ := hRd.form))
  have hbl : (ints (idL m)).length = m := by rw [ints_len, idL_len]
  rw [hbl] at hRd hfd ⊢
  have hUD : Upd none' w wD := ((hUw.trans hUb' (fun _ _ f => f)).trans hUc (fun k h1 h2 => by have := hS0' k h2; omega)).trans hUd (fun _ _ f => f)
  have hrs := hRd.rs (by rw [ints_len, idL_len]; omega)
  obtain ⟨gd, od, rfl, hgd, hcd⟩ : ∃ gd od, ad = some ⟨gd, od, none⟩ ∧ gd < wD.heap.size ∧ ∀ j, j < m → wD.cell? ⟨gd, od + j, none⟩ = some (.int .i64 ((idL m).getD j 0)) := by
    obtain ⟨_, a', cap, e, _, h5⟩ := hrs
    simp only [Value.slice.injEq, hbl] at e
    obtain ⟨g, o, h6, h7, h8⟩ := h5 (by intro h; rw [h] at hbl; simp at hbl; omega)
    refine ⟨g, o, by rw [e.1, h6], h7, fun j hj => ?_⟩
    rw [h8 j (by rw [hbl]; exact hj), ints_at _ _ (by rw [idL_len]; exact hj)]
  have HUD := Lib.hid hUD
  have HCD := Lib.hid hcd
  clear hUD hcd hrs hRd hfd hUd hRc hfc hAc hSc hUc hRb hfb hUb hUb' hRa hfa hUa hUa' hna hUw hS0' hol hxl HNI HLAW HQ HXI hA0 hsz
  go_wp2_with fail
  go_loopw [8] (fun iv wr => ∃ i : Nat, i ≤ m ∧ iv = .int .i64 i ∧ Hid (Upd none' wD wr)) (fun iv _ => m - (intOf iv).toNat)
  case atStart => exact ⟨0, by omega, rfl, Lib.hid (Upd.refl _ _)⟩
  case round =>
    obtain ⟨i, hi, rfl, hU⟩ := hrel
    by_cases hlt : i < m
    · have hcell : wr.cell? ⟨gd, od + i, none⟩ = some (.int .i64 (([239, 64, 12] : List Int).getD (i % 3) 0)) := by
        rw [hU.out.cell (p := ⟨gd, od + i, none⟩) hgd (fun f => f), HCD.out i hlt, idL_at m i hlt]
      have hgr : gd < wr.heap.size := Nat.lt_of_lt_of_le hgd hU.out.size
      rcases (show i % 3 = 0 ∨ i % 3 = 1 ∨ i % 3 = 2 by omega) with h3 | h3 | h3
      · have hq : (i : Int).tmod 3 = 0 := by rw [Int.tmod_eq_emod_of_nonneg (by omega)]; omega
        rw [h3, show ([239, 64, 12] : List Int).getD 0 0 = 239 from rfl] at hcell
        clear h3
        go_upto_region 13 with fail
        go_region
        all_goals
          go_wp2
          refine ⟨?rel, ?measure⟩
          case rel => exact ⟨i + 1, by omega, by go_num, by first | exact Lib.hid ((hU.out.alloc _).drew) | exact Lib.hid ((hU.out.drew).alloc _)⟩
          case measure => simp [intOf]; omega
      · have hq : (i : Int).tmod 3 = 1 := by rw [Int.tmod_eq_emod_of_nonneg (by omega)]; omega
        rw [h3, show ([239, 64, 12] : List Int).getD 1 0 = 64 from rfl] at hcell
        clear h3
        go_upto_region 13 with fail
        go_region
        all_goals
          go_wp2
          refine ⟨?rel, ?measure⟩
          case rel => exact ⟨i + 1, by omega, by go_num, by first | exact Lib.hid ((hU.out.alloc _).drew) | exact Lib.hid ((hU.out.drew).alloc _)⟩
          case measure => simp [intOf]; omega
      · have hq : (i : Int).tmod 3 = 2 := by rw [Int.tmod_eq_emod_of_nonneg (by omega)]; omega
        rw [h3, show ([239, 64, 12] : List Int).getD 2 0 = 12 from rfl] at hcell
        clear h3
        go_upto_region 13 with fail
        go_region
        all_goals
          go_wp2
          refine ⟨?rel, ?measure⟩
          case rel => exact ⟨i + 1, by omega, by go_num, by first | exact Lib.hid ((hU.out.alloc _).drew) | exact Lib.hid ((hU.out.drew).alloc _)⟩
          case measure => simp [intOf]; omega
    · have him : i = m := by omega
      subst him
      go_wp2
      go_ret
      exact ⟨rfl, HUD.out.trans hU.out (fun _ _ f => f)⟩
end Go.Proofs.YtjdjdfllggpckaaGreat
