/- ChipTwice: a page that is programmed twice has the bits that both leave: for every three numbers, and choice. No condition. -/
import Derived.Test.YtjdjdfllggpckaaCtxD
import Derived.Test.YtjdjdfllggpckaaAwake6
namespace Go.Proofs.Ytjdjdfllggpckaa
open Go.RowKit
theorem cut_all (old d : UInt8) : old &&& ~~~((255 : UInt8) &&& ~~~d) = old &&& d := by
  have h : (255 : UInt8) &&& ~~~d = ~~~d := by
    apply UInt8.toNat_inj.1
    rw [UInt8.toNat_and]
    exact Nat.and_two_pow_sub_one_of_lt_two_pow (n := 8) (by exact (~~~d).toNat_lt) |> fun e => by rw [Nat.and_comm]; exact e
  rw [h, UInt8.not_not]
theorem and_255 (x : UInt8) : x &&& 255 = x := by
  apply UInt8.toNat_inj.1
  rw [UInt8.toNat_and]
  exact Nat.and_two_pow_sub_one_of_lt_two_pow (n := 8) x.toNat_lt
theorem mask_all (i : Nat) : maskAt all255 i = 255 := by
  unfold maskAt
  rw [if_neg (by decide), show all255.size = 1 from rfl, Nat.mod_one]
  rfl
/-- A page of one byte, programmed. -/
theorem prog_at (a : ByteArray) (ha : a.size = 4096) (k : Nat) (hk : k < 4096) (x : Int) (j : Nat) (hj : j < 4096) :
    (progCut a ((k : Int) - (k : Int) % 32).toNat ⟨(pageOf (k : Int) [x]).toArray⟩ all255).data.toList.getD j 0 = if j = k then a.data.toList.getD j 0 &&& UInt8.ofNat (x % 256).toNat else a.data.toList.getD j 0 := by
  have hsz : (⟨(pageOf (k : Int) [x]).toArray⟩ : ByteArray).size = 32 := page_len _ _
  unfold progCut
  rw [turned_at _ _ _ _ _ (by omega), hsz]
  by_cases hin : ((k : Int) - (k : Int) % 32).toNat ≤ j ∧ j < ((k : Int) - (k : Int) % 32).toNat + 32
  · rw [if_pos hin, mask_all, cut_all]
    have hp : pageOf (k : Int) [x] = (List.replicate 32 255).set (((k : Int) + ((0 : Nat) : Int)) % 32).toNat (UInt8.ofNat (x % 256).toNat) := rfl
    have hd : (⟨(pageOf (k : Int) [x]).toArray⟩ : ByteArray).data.toList = pageOf (k : Int) [x] := rfl
    rw [hd, hp]
    have hg : ∀ (i n : Nat) (v : UInt8), n < 32 → i < 32 → ((List.replicate 32 (255 : UInt8)).set n v).getD i 0 = if n = i then v else 255 := by
      intro i n v hn hi
      rw [List.getD_eq_getElem?_getD, List.getElem?_set, List.length_replicate, List.getElem?_replicate, if_pos hi]
      by_cases h : n = i
      · rw [if_pos h, if_pos h, if_pos hn]; rfl
      · rw [if_neg h, if_neg h]; rfl
    rw [hg _ _ _ (by omega) (by omega)]
    by_cases hjk : j = k
    · subst hjk
      rw [if_pos (by omega), if_pos rfl]
    · rw [if_neg (by omega), if_neg hjk]
      exact and_255 _
  · rw [if_neg hin, if_neg (by omega)]
theorem bits_low (a b : Int) : bits .and .i64 (a % 256) b = ((UInt8.ofNat (a % 256).toNat &&& UInt8.ofNat (b % 256).toNat).toNat : Int) := by
  have h1 : (BitVec.ofInt 64 (a % 256)).toNat = (a % 256).toNat := by rw [BitVec.toNat_ofInt]; omega
  have h2 : (BitVec.ofInt 64 b).toNat % 256 = (b % 256).toNat := by rw [BitVec.toNat_ofInt]; omega
  have h3 : (BitVec.ofInt 64 (a % 256) &&& BitVec.ofInt 64 b).toNat = (UInt8.ofNat (a % 256).toNat &&& UInt8.ofNat (b % 256).toNat).toNat := by
    rw [BitVec.toNat_and, h1, UInt8.toNat_and, UInt8.toNat_ofNat', UInt8.toNat_ofNat']
    have hlt : (a % 256).toNat &&& (BitVec.ofInt 64 b).toNat < 2 ^ 8 := Nat.lt_of_le_of_lt Nat.and_le_left (by omega)
    rw [← Nat.mod_eq_of_lt hlt, Nat.and_mod_two_pow]
    rw [show (2 : Nat) ^ 8 = 256 from rfl, h2]
    congr 1
    omega
  show IntKind.i64.wrap ((BitVec.ofInt 64 (a % 256) &&& BitVec.ofInt 64 b).toNat : Nat) = _
  rw [h3, IntKind.wrap_i64]
  have := (UInt8.ofNat (a % 256).toNat &&& UInt8.ofNat (b % 256).toNat).toNat_lt
  omega
def twT (fa : ByteArray) (k x0 x1 : Int) : Nat → St
  | 0 => St.new fa
  | 1 => pg3 (St.new fa) k x0
  | _ => pg3 (pg3 (St.new fa) k x0) k x1
theorem fresh255 : freshL ⟨#[255]⟩ = blankL := by
  unfold freshL
  rw [if_neg (by decide)]
  unfold blankL
  apply List.ext_getElem
  · rw [List.length_map, List.length_range, List.length_replicate]
  · intro i h1 h2
    rw [List.getElem_map, List.getElem_range, List.getElem_replicate]
    unfold freshAt
    rw [show (⟨#[255]⟩ : ByteArray).size = 1 from rfl, Nat.mod_one]
    rfl
theorem blank_at (j : Nat) (h : j < 4096) : (⟨blankL.toArray⟩ : ByteArray).data.toList.getD j 0 = 255 := by
  show blankL.getD j 0 = 255
  unfold blankL
  rw [List.getD_eq_getElem?_getD, List.getElem?_replicate, if_pos h]
  rfl
theorem get_of_getD (a : ByteArray) (j : Nat) (h : j < a.size) : a[j]'h = a.data.toList.getD j 0 := by
  rw [List.getD_eq_getElem?_getD, List.getElem?_eq_getElem (show j < a.data.toList.length from h)]
  rfl
/-- What is in the cells behind both programs. -/
theorem tw_end (k : Nat) (hk : k < 4096) (x0 x1 : Int) (hx0 : 0 ≤ x0 ∧ x0 ≤ 255) (hx1 : 0 ≤ x1 ∧ x1 ≤ 255) : ∃ a2 : ByteArray, (twT ⟨blankL.toArray⟩ k x0 x1 2).a = a2 ∧ a2.size = 4096 ∧ (∀ h : k < a2.size, ((a2[k]'h).toNat : Int) = ((UInt8.ofNat x0.toNat &&& UInt8.ofNat x1.toNat).toNat : Int)) ∧ ∀ h : (k + 1) % 4096 < a2.size, ((a2[(k + 1) % 4096]'h).toNat : Int) = 255 := by
  have hs : (⟨blankL.toArray⟩ : ByteArray).size = 4096 := List.length_replicate
  obtain ⟨_, _, _, g1, j1, p1, b1, a1⟩ := pg_all (St.new ⟨blankL.toArray⟩) rfl rfl rfl rfl (k : Int) x0
  obtain ⟨_, _, _, _, _, _, _, a2⟩ := pg_all (pg3 (St.new ⟨blankL.toArray⟩) k x0) g1 j1 p1 b1 (k : Int) x1
  rw [addrOf_eq (k : Int) (by omega), byteIn_eq _ hx0] at a1
  replace a1 : (pg3 (St.new ⟨blankL.toArray⟩) k x0).a = progCut ⟨blankL.toArray⟩ ((k : Int) - (k : Int) % 32).toNat ⟨(pageOf (k : Int) [x0]).toArray⟩ all255 := a1
  rw [addrOf_eq (k : Int) (by omega), byteIn_eq _ hx1, a1] at a2
  have hsz1 : (progCut (⟨blankL.toArray⟩ : ByteArray) ((k : Int) - (k : Int) % 32).toNat ⟨(pageOf (k : Int) [x0]).toArray⟩ all255).size = 4096 := by unfold progCut; rw [turned_size]; exact hs
  have q1 := fun j hj => prog_at (⟨blankL.toArray⟩ : ByteArray) hs k hk x0 j hj
  have q2 := fun j hj => prog_at _ hsz1 k hk x1 j hj
  refine ⟨_, a2, by show (progCut _ _ _ _).size = 4096; unfold progCut; rw [turned_size]; exact hsz1, fun h => ?_, fun h => ?_⟩
  · rw [get_of_getD]
    show (((progCut _ _ _ _).data.toList.getD k 0).toNat : Int) = _
    rw [q2 k hk, if_pos rfl]
    show (((progCut _ _ _ _).data.toList.getD k 0 &&& _).toNat : Int) = _
    rw [q1 k hk, if_pos rfl, blank_at k hk]
    rw [show x0 % 256 = x0 by omega, show x1 % 256 = x1 by omega]
    rw [UInt8.and_comm 255, and_255]
  · rw [get_of_getD]
    show (((progCut _ _ _ _).data.toList.getD _ 0).toNat : Int) = _
    rw [q2 _ (by omega), if_neg (by omega)]
    show (((progCut _ _ _ _).data.toList.getD _ 0).toNat : Int) = _
    rw [q1 _ (by omega), if_neg (by omega), blank_at _ (by omega)]
    rfl
theorem twWant0 (a _b : Int) : a % 256 = ((UInt8.ofNat (a % 256).toNat &&& UInt8.ofNat (a % 256).toNat).toNat : Int) := by
  rw [UInt8.and_self, UInt8.toNat_ofNat']
  omega
theorem twWant1 (a b : Int) : bits .and .i64 (a % 256) b = ((UInt8.ofNat (a % 256).toNat &&& UInt8.ofNat (b % 256).toNat).toNat : Int) := bits_low a b
set_option maxRecDepth 100000 in
set_option maxHeartbeats 4000000 in
theorem lawTwice0 (w : World) (at' a b' : Int) :
    Calls Try.prog 6 #[.int .i64 at', .int .i64 a, .int .i64 b', .bool false] w fun e w' => e = .returned (.bool true) ∧ Upd none' w w' := by
  obtain ⟨k, hat, hk⟩ := at_4095 at'
  have handa := i64_and255 a
  have handb := i64_and255 b'
  have hwant := twWant0 a b'
  obtain ⟨x0, hx0⟩ : ∃ x0, a % 256 = x0 := ⟨_, rfl⟩
  obtain ⟨x1, hx1⟩ : ∃ x1, x0 = x1 := ⟨_, rfl⟩
  have b0 : 0 ≤ x0 ∧ x0 ≤ 255 := by omega
  have b1 : 0 ≤ x1 ∧ x1 ≤ 255 := by omega
  obtain ⟨a2, ha2, hsz, hk2, hk3⟩ := tw_end k hk x0 x1 b0 b1
  have HA2 := Lib.hid ha2
  have hks : k < a2.size := by omega
  have hki : (k : Int) < 4096 := by omega
  obtain ⟨q, hq2, hq3, hqt, hwi⟩ := sum_4096 k 1 hk (by decide)
  have hqs : q < a2.size := by omega
  have hqi : (q : Int) < 4096 := by omega
  replace hqt : ((k : Int) + 1).tmod 4096 = (q : Int) := hqt
  replace hwi : IntKind.i64.wrap ((k : Int) + 1) = (k : Int) + 1 := hwi
  have hqe : (k + 1) % 4096 = q := by omega
  have hv2 := hk2 hks
  have hv3 : ((a2[q]'hqs).toNat : Int) = 255 := by
    subst hqe
    exact hk3 hqs
  clear ha2 hk2 hk3 hq3 hqe
  rw [hx0] at hwant
  have hwant' : x0 = ((UInt8.ofNat x0.toNat &&& UInt8.ofNat x1.toNat).toNat : Int) := by rw [← hx1]; exact hwant
  rw [← hwant'] at hv2
  have hw8 : wrap64 ((a2[k]'hks).toNat : Int) = _ := (wrap64_byte' (a2[k]'hks)).trans hv2
  clear hv2
  clear hwant'
  have HFA : Hid ((⟨(freshL ⟨#[255]⟩).toArray⟩ : ByteArray) = ⟨blankL.toArray⟩) := by
    show (⟨(freshL ⟨#[255]⟩).toArray⟩ : ByteArray) = ⟨blankL.toArray⟩
    rw [fresh255]
  generalize (⟨blankL.toArray⟩ : ByteArray) = fa at *
  have HW0 := Lib.hid (word5_in 2 k x0 (by decide) hk b0)
  have HW1 := Lib.hid (word5_in 2 k x1 (by decide) hk b1)
  have hkand := i64_and255 (k : Int)
  obtain ⟨s11, s12, s13, g1, j1, p1, c1, _⟩ := pg_all (St.new fa) rfl rfl rfl rfl (k : Int) x0
  obtain ⟨s21, s22, s23, g2, j2, p2, c2, _⟩ := pg_all (pg3 (St.new fa) k x0) g1 j1 p1 c1 (k : Int) x1
  have HS := Lib.hid (And.intro s11 (And.intro s12 (And.intro s13 (And.intro s21 s22))))
  have HS3 := Lib.hid s23
  clear s11 s12 s13 s21 s22 s23 g1 j1 p1 c1 g2 j2 p2 c2 hwant
  rw [hx0] at handa
  subst hx1
  clear hx0
  go_enter Try.func6, Try.ntmps6
  go_upto_region 7 with (first | (go_at_call 7; refine (awake6 _).mono ?_; rintro e w0 ⟨rfl, hU0⟩) | (go_at_call 8; refine (c_fresh hU0 _ (by decide) fa HFA.out).mono ?_; rintro e w1 ⟨b, rfl, hC1⟩))
  go_wp2_with fail
  go_loopw [11, 12] (fun iv _ wr => ∃ i : Nat, i ≤ 2 ∧ iv = .int .i64 i ∧ Ctx (ChipP b (twT fa k x0 x0 i) (61 * i)) .emp w wr []) (fun iv _ _ => 2 - (intOf iv).toNat)
  case atStart => exact ⟨0, by omega, rfl, hC1⟩
  case round =>
    obtain ⟨i, hi, rfl, hC⟩ := hrel
    clear hC1 hU0 hat
    rcases (show i = 0 ∨ i = 1 ∨ i = 2 by omega) with rfl | rfl | rfl
    · have hD1 : Ctx (ChipP b (St.new fa) 0) .emp w wr [] := hC
      obtain ⟨y1, hy1⟩ := pg1_said (St.new fa)
      obtain ⟨y2, hy2⟩ := pg2_said (St.new fa) k x0
      obtain ⟨y3, hy3⟩ := pg3_said (St.new fa) k x0
      have HY := Lib.hid (And.intro hy1 (And.intro hy2 hy3))
      clear hC hy1 hy2 hy3
      go_upto_region 14 with (first | (go_at_call 12; refine (c_wordl hD1 [6] 1 8 rfl rfl (by decide) (by decide)).mono ?_; rintro e w2 ⟨a1, c1, rfl, hn1, hC2⟩) | (go_at_call 11; refine (c_say hC2 0 _ 8 _ (wordL [6]) rfl (by omega) rfl (word_in _) (pg1 (St.new fa)) _ HY.out.1).mono ?_; rintro e w3 ⟨a2', c2, rfl, hn2, hC3'⟩))
      have hC3 := hC3'.drop
      clear hD1 hC2 hC3' hn1 hn2
      go_upto_region 15 with (first | (go_at_call 12; refine (c_wordl hC3 [2, 0, (k : Int) / 256, (k : Int) % 256, x0] 5 40 rfl rfl (by decide) HW0.out).mono ?_; rintro e w4 ⟨a3, c3, rfl, hn3, hC4⟩) | (go_at_call 11; refine (c_say hC4 0 _ 40 _ (wordL [2, 0, (k : Int) / 256, (k : Int) % 256, x0]) rfl (by omega) HS.out.1 (word_in _) (pg2 (St.new fa) k x0) _ HY.out.2.1).mono ?_; rintro e w5 ⟨a4, c4, rfl, hn4, hC5'⟩))
      have hC5 := hC5'.drop
      clear hC3 hC4 hC5' hn3 hn4
      go_wp2_with (first | (go_at_call 15; refine (c_quiet0 hC5 10 _ rfl (by omega)).mono ?_; rintro e w6 ⟨a5, c5, rfl, hn5, hC6⟩) | (go_at_call 11; refine (c_say hC6 0 _ 10 _ (List.replicate 10 15) rfl (by omega) HS.out.2.1 (rep_in _) (pg3 (St.new fa) k x0) _ HY.out.2.2).mono ?_; rintro e w7 ⟨a6, c6, rfl, hn6, hC7'⟩))
      have hC7 := hC7'.drop
      clear hC5 hC6 hC7' hn5 hn6
      refine ⟨?rel, ?measure⟩
      case rel => exact ⟨1, by omega, by go_num, hC7⟩
      case measure => simp [intOf]
    · have hD1 : Ctx (ChipP b (pg3 (St.new fa) k x0) 61) .emp w wr [] := hC
      obtain ⟨y1, hy1⟩ := pg1_said (pg3 (St.new fa) k x0)
      obtain ⟨y2, hy2⟩ := pg2_said (pg3 (St.new fa) k x0) k x0
      obtain ⟨y3, hy3⟩ := pg3_said (pg3 (St.new fa) k x0) k x0
      have HY := Lib.hid (And.intro hy1 (And.intro hy2 hy3))
      clear hC hy1 hy2 hy3
      go_upto_region 14 with (first | (go_at_call 12; refine (c_wordl hD1 [6] 1 8 rfl rfl (by decide) (by decide)).mono ?_; rintro e w2 ⟨a1, c1, rfl, hn1, hC2⟩) | (go_at_call 11; refine (c_say hC2 0 _ 8 _ (wordL [6]) rfl (by omega) HS.out.2.2.1 (word_in _) (pg1 (pg3 (St.new fa) k x0)) _ HY.out.1).mono ?_; rintro e w3 ⟨a2', c2, rfl, hn2, hC3'⟩))
      have hC3 := hC3'.drop
      clear hD1 hC2 hC3' hn1 hn2
      go_upto_region 15 with (first | (go_at_call 12; refine (c_wordl hC3 [2, 0, (k : Int) / 256, (k : Int) % 256, x0] 5 40 rfl rfl (by decide) HW1.out).mono ?_; rintro e w4 ⟨a3, c3, rfl, hn3, hC4⟩) | (go_at_call 11; refine (c_say hC4 0 _ 40 _ (wordL [2, 0, (k : Int) / 256, (k : Int) % 256, x0]) rfl (by omega) HS.out.2.2.2.1 (word_in _) (pg2 (pg3 (St.new fa) k x0) k x0) _ HY.out.2.1).mono ?_; rintro e w5 ⟨a4, c4, rfl, hn4, hC5'⟩))
      have hC5 := hC5'.drop
      clear hC3 hC4 hC5' hn3 hn4
      go_wp2_with (first | (go_at_call 15; refine (c_quiet0 hC5 10 _ rfl (by omega)).mono ?_; rintro e w6 ⟨a5, c5, rfl, hn5, hC6⟩) | (go_at_call 11; refine (c_say hC6 0 _ 10 _ (List.replicate 10 15) rfl (by omega) HS.out.2.2.2.2 (rep_in _) (pg3 (pg3 (St.new fa) k x0) k x0) _ HY.out.2.2).mono ?_; rintro e w7 ⟨a6, c6, rfl, hn6, hC7'⟩))
      have hC7 := hC7'.drop
      clear hC5 hC6 hC7' hn5 hn6
      refine ⟨?rel, ?measure⟩
      case rel => exact ⟨2, by omega, by go_num, hC7⟩
      case measure => simp [intOf]
    · go_wp2_with (go_at_call 9; refine (c_cells hC a2 HA2.out).mono ?_; rintro e w2 ⟨rfl, rfl⟩)
      go_ret
      exact ⟨rfl, hC.upd⟩
set_option maxRecDepth 100000 in
set_option maxHeartbeats 4000000 in
theorem lawTwice1 (w : World) (at' a b' : Int) :
    Calls Try.prog 6 #[.int .i64 at', .int .i64 a, .int .i64 b', .bool true] w fun e w' => e = .returned (.bool true) ∧ Upd none' w w' := by
  obtain ⟨k, hat, hk⟩ := at_4095 at'
  have handa := i64_and255 a
  have handb := i64_and255 b'
  have hwant := twWant1 a b'
  obtain ⟨x0, hx0⟩ : ∃ x0, a % 256 = x0 := ⟨_, rfl⟩
  obtain ⟨x1, hx1⟩ : ∃ x1, b' % 256 = x1 := ⟨_, rfl⟩
  have b0 : 0 ≤ x0 ∧ x0 ≤ 255 := by omega
  have b1 : 0 ≤ x1 ∧ x1 ≤ 255 := by omega
  obtain ⟨a2, ha2, hsz, hk2, hk3⟩ := tw_end k hk x0 x1 b0 b1
  have HA2 := Lib.hid ha2
  have hks : k < a2.size := by omega
  have hki : (k : Int) < 4096 := by omega
  obtain ⟨q, hq2, hq3, hqt, hwi⟩ := sum_4096 k 1 hk (by decide)
  have hqs : q < a2.size := by omega
  have hqi : (q : Int) < 4096 := by omega
  replace hqt : ((k : Int) + 1).tmod 4096 = (q : Int) := hqt
  replace hwi : IntKind.i64.wrap ((k : Int) + 1) = (k : Int) + 1 := hwi
  have hqe : (k + 1) % 4096 = q := by omega
  have hv2 := hk2 hks
  have hv3 : ((a2[q]'hqs).toNat : Int) = 255 := by
    subst hqe
    exact hk3 hqs
  clear ha2 hk2 hk3 hq3 hqe
  rw [hx0] at hwant
  have hwant' : bits .and .i64 x0 b' = ((UInt8.ofNat x0.toNat &&& UInt8.ofNat x1.toNat).toNat : Int) := by rw [← hx1]; exact hwant
  rw [← hwant'] at hv2
  have hw8 : wrap64 ((a2[k]'hks).toNat : Int) = _ := (wrap64_byte' (a2[k]'hks)).trans hv2
  clear hv2
  clear hwant'
  have HFA : Hid ((⟨(freshL ⟨#[255]⟩).toArray⟩ : ByteArray) = ⟨blankL.toArray⟩) := by
    show (⟨(freshL ⟨#[255]⟩).toArray⟩ : ByteArray) = ⟨blankL.toArray⟩
    rw [fresh255]
  generalize (⟨blankL.toArray⟩ : ByteArray) = fa at *
  have HW0 := Lib.hid (word5_in 2 k x0 (by decide) hk b0)
  have HW1 := Lib.hid (word5_in 2 k x1 (by decide) hk b1)
  have hkand := i64_and255 (k : Int)
  obtain ⟨s11, s12, s13, g1, j1, p1, c1, _⟩ := pg_all (St.new fa) rfl rfl rfl rfl (k : Int) x0
  obtain ⟨s21, s22, s23, g2, j2, p2, c2, _⟩ := pg_all (pg3 (St.new fa) k x0) g1 j1 p1 c1 (k : Int) x1
  have HS := Lib.hid (And.intro s11 (And.intro s12 (And.intro s13 (And.intro s21 s22))))
  have HS3 := Lib.hid s23
  clear s11 s12 s13 s21 s22 s23 g1 j1 p1 c1 g2 j2 p2 c2 hwant
  rw [hx0] at handa
  rw [hx1] at handb
  clear hx0 hx1
  go_enter Try.func6, Try.ntmps6
  go_upto_region 7 with (first | (go_at_call 7; refine (awake6 _).mono ?_; rintro e w0 ⟨rfl, hU0⟩) | (go_at_call 8; refine (c_fresh hU0 _ (by decide) fa HFA.out).mono ?_; rintro e w1 ⟨b, rfl, hC1⟩))
  go_wp2_with fail
  go_loopw [11, 12] (fun iv _ wr => ∃ i : Nat, i ≤ 2 ∧ iv = .int .i64 i ∧ Ctx (ChipP b (twT fa k x0 x1 i) (61 * i)) .emp w wr []) (fun iv _ _ => 2 - (intOf iv).toNat)
  case atStart => exact ⟨0, by omega, rfl, hC1⟩
  case round =>
    obtain ⟨i, hi, rfl, hC⟩ := hrel
    clear hC1 hU0 hat
    rcases (show i = 0 ∨ i = 1 ∨ i = 2 by omega) with rfl | rfl | rfl
    · have hD1 : Ctx (ChipP b (St.new fa) 0) .emp w wr [] := hC
      obtain ⟨y1, hy1⟩ := pg1_said (St.new fa)
      obtain ⟨y2, hy2⟩ := pg2_said (St.new fa) k x0
      obtain ⟨y3, hy3⟩ := pg3_said (St.new fa) k x0
      have HY := Lib.hid (And.intro hy1 (And.intro hy2 hy3))
      clear hC hy1 hy2 hy3
      go_upto_region 14 with (first | (go_at_call 12; refine (c_wordl hD1 [6] 1 8 rfl rfl (by decide) (by decide)).mono ?_; rintro e w2 ⟨a1, c1, rfl, hn1, hC2⟩) | (go_at_call 11; refine (c_say hC2 0 _ 8 _ (wordL [6]) rfl (by omega) rfl (word_in _) (pg1 (St.new fa)) _ HY.out.1).mono ?_; rintro e w3 ⟨a2', c2, rfl, hn2, hC3'⟩))
      have hC3 := hC3'.drop
      clear hD1 hC2 hC3' hn1 hn2
      go_upto_region 15 with (first | (go_at_call 12; refine (c_wordl hC3 [2, 0, (k : Int) / 256, (k : Int) % 256, x0] 5 40 rfl rfl (by decide) HW0.out).mono ?_; rintro e w4 ⟨a3, c3, rfl, hn3, hC4⟩) | (go_at_call 11; refine (c_say hC4 0 _ 40 _ (wordL [2, 0, (k : Int) / 256, (k : Int) % 256, x0]) rfl (by omega) HS.out.1 (word_in _) (pg2 (St.new fa) k x0) _ HY.out.2.1).mono ?_; rintro e w5 ⟨a4, c4, rfl, hn4, hC5'⟩))
      have hC5 := hC5'.drop
      clear hC3 hC4 hC5' hn3 hn4
      go_wp2_with (first | (go_at_call 15; refine (c_quiet0 hC5 10 _ rfl (by omega)).mono ?_; rintro e w6 ⟨a5, c5, rfl, hn5, hC6⟩) | (go_at_call 11; refine (c_say hC6 0 _ 10 _ (List.replicate 10 15) rfl (by omega) HS.out.2.1 (rep_in _) (pg3 (St.new fa) k x0) _ HY.out.2.2).mono ?_; rintro e w7 ⟨a6, c6, rfl, hn6, hC7'⟩))
      have hC7 := hC7'.drop
      clear hC5 hC6 hC7' hn5 hn6
      refine ⟨?rel, ?measure⟩
      case rel => exact ⟨1, by omega, by go_num, hC7⟩
      case measure => simp [intOf]
    · have hD1 : Ctx (ChipP b (pg3 (St.new fa) k x0) 61) .emp w wr [] := hC
      obtain ⟨y1, hy1⟩ := pg1_said (pg3 (St.new fa) k x0)
      obtain ⟨y2, hy2⟩ := pg2_said (pg3 (St.new fa) k x0) k x1
      obtain ⟨y3, hy3⟩ := pg3_said (pg3 (St.new fa) k x0) k x1
      have HY := Lib.hid (And.intro hy1 (And.intro hy2 hy3))
      clear hC hy1 hy2 hy3
      go_upto_region 14 with (first | (go_at_call 12; refine (c_wordl hD1 [6] 1 8 rfl rfl (by decide) (by decide)).mono ?_; rintro e w2 ⟨a1, c1, rfl, hn1, hC2⟩) | (go_at_call 11; refine (c_say hC2 0 _ 8 _ (wordL [6]) rfl (by omega) HS.out.2.2.1 (word_in _) (pg1 (pg3 (St.new fa) k x0)) _ HY.out.1).mono ?_; rintro e w3 ⟨a2', c2, rfl, hn2, hC3'⟩))
      have hC3 := hC3'.drop
      clear hD1 hC2 hC3' hn1 hn2
      go_upto_region 15 with (first | (go_at_call 12; refine (c_wordl hC3 [2, 0, (k : Int) / 256, (k : Int) % 256, x1] 5 40 rfl rfl (by decide) HW1.out).mono ?_; rintro e w4 ⟨a3, c3, rfl, hn3, hC4⟩) | (go_at_call 11; refine (c_say hC4 0 _ 40 _ (wordL [2, 0, (k : Int) / 256, (k : Int) % 256, x1]) rfl (by omega) HS.out.2.2.2.1 (word_in _) (pg2 (pg3 (St.new fa) k x0) k x1) _ HY.out.2.1).mono ?_; rintro e w5 ⟨a4, c4, rfl, hn4, hC5'⟩))
      have hC5 := hC5'.drop
      clear hC3 hC4 hC5' hn3 hn4
      go_wp2_with (first | (go_at_call 15; refine (c_quiet0 hC5 10 _ rfl (by omega)).mono ?_; rintro e w6 ⟨a5, c5, rfl, hn5, hC6⟩) | (go_at_call 11; refine (c_say hC6 0 _ 10 _ (List.replicate 10 15) rfl (by omega) HS.out.2.2.2.2 (rep_in _) (pg3 (pg3 (St.new fa) k x0) k x1) _ HY.out.2.2).mono ?_; rintro e w7 ⟨a6, c6, rfl, hn6, hC7'⟩))
      have hC7 := hC7'.drop
      clear hC5 hC6 hC7' hn5 hn6
      refine ⟨?rel, ?measure⟩
      case rel => exact ⟨2, by omega, by go_num, hC7⟩
      case measure => simp [intOf]
    · go_wp2_with (go_at_call 9; refine (c_cells hC a2 HA2.out).mono ?_; rintro e w2 ⟨rfl, rfl⟩)
      go_ret
      exact ⟨rfl, hC.upd⟩
theorem lawChipTwice (w : World) (at' : Int) (_ : (Lit.int .i64 at').wf = true) (a : Int) (_ : (Lit.int .i64 a).wf = true) (b' : Int) (_ : (Lit.int .i64 b').wf = true) (both : Bool) :
    Calls Try.prog 6 #[.int .i64 at', .int .i64 a, .int .i64 b', .bool both] w fun e w' => e = .returned (.bool true) ∧ Upd none' w w' := by
  cases both with
  | false => exact lawTwice0 w at' a b'
  | true => exact lawTwice1 w at' a b'
end Go.Proofs.Ytjdjdfllggpckaa
