/- ChipBusy: while something is under way nothing is taken but asking, and suspending: for every number and row of numbers. No condition. -/
import Derived.Test.YtjdjdfllggpckaaCtxD
import Derived.Test.YtjdjdfllggpckaaAwake6
import Derived.Test.YtjdjdfllggpckaaPureB
namespace Go.Proofs.Ytjdjdfllggpckaa
open Go.RowKit
def bz0 (a : ByteArray) : St := { St.new a with busy := [400] }
def bz1 (a : ByteArray) : St := ((bz0 a).said (wordL [6])).1
def bz2 (a : ByteArray) : St := ((bz1 a).said (wordL [32, 0, 8, 0])).1
theorem bz1_said (a : ByteArray) : ∃ ys, (bz0 a).said (wordL [6]) = (bz1 a, ys) := said_ex _ _ _ (by unfold bz1; rfl)
theorem bz2_said (a : ByteArray) : ∃ ys, (bz1 a).said (wordL [32, 0, 8, 0]) = (bz2 a, ys) := said_ex _ _ _ (by unfold bz2; rfl)
theorem bz1_sel (a : ByteArray) : (bz1 a).sel = false := by kernel_rfl
theorem bz2_eq (a : ByteArray) : ∃ s : St, bz2 a = s ∧ s.sel = false ∧ s.goes = false ∧ s.en = true ∧ s.prot = false ∧ s.quad = false ∧ s.job = some ⟨4, 0, ⟨#[]⟩, 400, false⟩ :=
  ⟨_, rfl, by kernel_rfl, by kernel_rfl, by kernel_rfl, by kernel_rfl, by kernel_rfl, by kernel_rfl⟩
theorem op_byte (o : Int) : (opOf o).byte = o ∨ (opOf o).byte = 0 := by
  unfold opOf
  repeat' split
  all_goals first | exact .inl rfl | exact .inr rfl
theorem known_busy (s : St) (hq : s.quad = false) (hw : s.works = true) (hj : s.job.isNone = false) (o : Int) (h1 : o ≠ 5) (h2 : o ≠ 53) (h3 : o ≠ 117) : s.known o = false := by
  unfold St.known
  have ht : s.takes (opOf o).byte = false := by
    obtain ⟨c, hc⟩ : ∃ c, (opOf o).byte = c := ⟨_, rfl⟩
    have hb := op_byte o
    rw [hc] at hb ⊢
    unfold St.takes
    rw [if_neg (by omega), hq, hw, hj]
    split
    · rfl
    split <;> rfl
  rw [ht, Bool.and_false]
theorem bz_run (s : St) (j : Job) (hj : s.job = some j) (hu : j.susp = false) (hg : s.goes = false) (xs : List Int) (hl : (xs.length : Int) < j.left) : s.said xs = (((runI s.select xs).1.tk xs.length).deselect, (runI s.select xs).2) := by
  have hsel : s.select.sel = true := select_sel s
  have hjob : s.select.job = some j := by
    rw [select_eq, hg]
    exact hj
  show ((runC s.select xs).1.deselect, (runC s.select xs).2) = _
  rw [runC_busy xs s.select j hjob hu hl hsel]
def anyTo (ys : List Int) (i : Nat) : Bool := ((ys.take i).drop 8).any fun y => decide (y ≠ 15)
theorem anyTo_8 (ys : List Int) : anyTo ys 8 = false := by
  unfold anyTo
  rw [List.drop_of_length_le (by rw [List.length_take]; omega)]
  rfl
theorem anyTo_succ (ys : List Int) (i : Nat) (h8 : 8 ≤ i) (hi : i < ys.length) : anyTo ys (i + 1) = (anyTo ys i || decide (ys.getD i 0 ≠ 15)) := by
  unfold anyTo
  rw [List.take_add_one, List.getElem?_eq_getElem hi, List.drop_append_of_le_length (by rw [List.length_take]; omega), List.any_append]
  simp [List.getD_eq_getElem?_getD, List.getElem?_eq_getElem hi]
theorem ends_1 (s : St) (h : s.stage = 1) : s.ends = s := by
  unfold St.ends
  rw [if_pos (.inr (.inl h))]
theorem anyTo_no (ys : List Int) (h : ∀ y ∈ ys, y = 15) (i : Nat) : anyTo ys i = false := by
  unfold anyTo
  rw [List.any_eq_false]
  intro y hy
  have := h y (List.mem_of_mem_take (List.mem_of_mem_drop hy))
  simp [this]
theorem first_of (t : St) (j : Job) (hj : t.job = some j) (hu : j.susp = false) (he : t.en = true) (hp : t.prot = false) (hq : t.quad = false) : t.first = 3 ∧ t.second = 0 := by
  have hw : t.works = true := by unfold St.works; rw [hj]; dsimp only; rw [hu]; rfl
  have hs : t.susp = false := by unfold St.susp; rw [hj]; exact hu
  constructor
  · show Go.Proofs.Ytjdjdfllggpckaa.first t.works t.en t.prot = 3
    rw [hw, he, hp]
    rfl
  · show Go.Proofs.Ytjdjdfllggpckaa.second t.quad t.susp = 0
    rw [hs, hq]
    rfl
/-- What is said while an erase is under way. -/
theorem bz_all (a : ByteArray) (o : Int) (ho : 0 ≤ o ∧ o ≤ 255) (h117 : o ≠ 117) (ms : List Int) (hl : ms.length ≤ 4) : ∃ t ys, (bz2 a).said (wordL (o :: ms) ++ List.replicate 16 15) = (t, ys) ∧ t.first = 3 ∧ t.second = 0 ∧ anyTo ys ys.length = decide (o = 5 ∨ o = 53) := by
  by_cases h5 : o = 5 ∨ o = 53
  · rw [decide_eq_true h5]
    have hms : ms = [] ∨ (∃ b, ms = [b]) ∨ (∃ b c, ms = [b, c]) ∨ (∃ b c d, ms = [b, c, d]) ∨ ∃ b c d e, ms = [b, c, d, e] := by
      match ms, hl with
      | [], _ => exact .inl rfl
      | [b], _ => exact .inr (.inl ⟨b, rfl⟩)
      | [b, c], _ => exact .inr (.inr (.inl ⟨b, c, rfl⟩))
      | [b, c, d], _ => exact .inr (.inr (.inr (.inl ⟨b, c, d, rfl⟩)))
      | [b, c, d, e], _ => exact .inr (.inr (.inr (.inr ⟨b, c, d, e, rfl⟩)))
      | _ :: _ :: _ :: _ :: _ :: _, h => simp at h
    have key : ∀ xs : List Int, ((bz2 a).said xs).1.first = 3 → ((bz2 a).said xs).1.second = 0 → anyTo ((bz2 a).said xs).2 ((bz2 a).said xs).2.length = true → ∃ t ys, (bz2 a).said xs = (t, ys) ∧ t.first = 3 ∧ t.second = 0 ∧ anyTo ys ys.length = true := by
      intro xs k1 k2 k3
      generalize (bz2 a).said xs = p at k1 k2 k3 ⊢
      exact ⟨p.1, p.2, rfl, k1, k2, k3⟩
    rcases h5 with rfl | rfl <;> rcases hms with rfl | ⟨b, rfl⟩ | ⟨b, c, rfl⟩ | ⟨b, c, d, rfl⟩ | ⟨b, c, d, e, rfl⟩
    all_goals
      refine key _ ?_ ?_ ?_
      · kernel_rfl
      · kernel_rfl
      · kernel_rfl
  · rw [decide_eq_false h5]
    obtain ⟨s, hs, _, hg, hen, hp, hq, hj⟩ := bz2_eq a
    rw [hs]
    have hlen : (wordL (o :: ms) ++ List.replicate 16 15).length = 8 * (1 + ms.length) + 16 := by rw [List.length_append, wordL_len, List.length_cons, List.length_replicate]; omega
    rw [bz_run s _ hj rfl hg _ (by rw [hlen]; show _ < (400 : Int); omega)]
    have hsel0 : s.select = s.sel0 := by rw [select_eq, hg]; rfl
    have hb := runI_byte s.select (by rw [hsel0]; rfl) (by rw [hsel0]; rfl) (by rw [hsel0]; rfl) o
    rw [byteIn_eq o ho] at hb
    have hk : ({ s.select with left := 0, got := o } : St).known o = false := known_busy _ (by rw [hsel0]; exact hq) (by rw [hsel0]; show s.works = true; unfold St.works; rw [hj]; rfl) (by rw [hsel0]; show s.job.isNone = false; rw [hj]; rfl) o (fun h => h5 (.inl h)) (fun h => h5 (.inr h)) h117
    rw [begins_not _ _ hk] at hb
    rw [wordL_cons, List.append_assoc, runI_app, hb]
    dsimp only
    rw [runI_1 _ _ rfl]
    have hd : ∀ t : St, t.stage = 1 → t.deselect = { t with sel := false } := fun t ht => ends_1 _ ht
    refine ⟨_, _, rfl, ?_⟩
    rw [hd _ rfl]
    have hf := first_of ({ ((({ ({ s.select with left := 0, got := o } : St) with op := opOf o } : St).enter 1 0).tk ↑(byteBits o ++ (wordL ms ++ List.replicate 16 15)).length) with sel := false } : St) ((⟨4, 0, ⟨#[]⟩, 400, false⟩ : Job).tk ↑(byteBits o ++ (wordL ms ++ List.replicate 16 15)).length) (by rw [hsel0]; show s.job.map _ = _; rw [hj]; rfl) rfl (by rw [hsel0]; exact hen) (by rw [hsel0]; exact hp) (by rw [hsel0]; exact hq)
    refine ⟨hf.1, hf.2, anyTo_no _ (fun y hy => ?_) _⟩
    rcases List.mem_append.1 hy with h | h
    · exact List.eq_of_mem_replicate h
    · exact List.eq_of_mem_replicate h
set_option maxRecDepth 100000 in
set_option maxHeartbeats 4000000 in
theorem lawChipBusy (w : World) (o' : Int) (_ : (Lit.int .i64 o').wf = true) (v0 : Value) (zs : List Int) (h0 : IntsR w v0 zs) :
    Calls Try.prog 4 #[.int .i64 o', v0] w fun e w' => e = .returned (.bool true) ∧ Upd none' w w' := by
  have hando := i64_and255 o'
  obtain ⟨o, ho⟩ : ∃ o, o' % 256 = o := ⟨_, rfl⟩
  have hob : 0 ≤ o ∧ o ≤ 255 := by omega
  rw [ho] at hando
  clear ho
  obtain ⟨fa, hfa⟩ : ∃ fa : ByteArray, (⟨(freshL ⟨#[109]⟩).toArray⟩ : ByteArray) = fa := ⟨_, rfl⟩
  have HFA := Lib.hid hfa
  obtain ⟨y1, hy1⟩ := bz1_said fa
  obtain ⟨y2, hy2⟩ := bz2_said fa
  have HY := Lib.hid (And.intro hy1 hy2)
  have HSEL : Hid (True ∧ (bz1 fa).sel = false) := ⟨trivial, bz1_sel fa⟩
  have HSEL2 : Hid (True ∧ (bz2 fa).sel = false) := by obtain ⟨s, h1, h2, _⟩ := bz2_eq fa; exact ⟨trivial, by rw [h1]; exact h2⟩
  obtain ⟨k1, k2, a0, cap0, rfl, k4, k5⟩ := h0
  clear hfa hy1 hy2 k2
  by_cases h117 : o = 117
  · subst h117
    go_enter Try.func4, Try.ntmps4
    go_upto_region 7 with (first | (go_at_call 7; refine (awake6 _).mono ?_; rintro e w0 ⟨rfl, hU0⟩) | (go_at_call 8; refine (c_fresh hU0 _ (by decide) fa HFA.out).mono ?_; rintro e w1 ⟨b, rfl, hC1⟩) | (go_at_call 10; refine (c_nextl hC1 [400] 1 rfl (by decide) (by decide) (by decide)).mono ?_; rintro e w2 ⟨rfl, hC2'⟩))
    have hC2 : Ctx (ChipP b (bz0 fa) 0) .emp w w2 [] := hC2'
    clear hC2' hC1 hU0
    go_upto_region 8 with (first | (go_at_call 12; refine (c_wordl hC2 [6] 1 8 rfl rfl (by decide) (by decide)).mono ?_; rintro e w3 ⟨a1, c1, rfl, hn1, hC3⟩) | (go_at_call 11; refine (c_say hC3 0 _ 8 _ (wordL [6]) rfl (by omega) rfl (word_in _) (bz1 fa) _ HY.out.1).mono ?_; rintro e w4 ⟨a2, c2, rfl, hn2, hC4'⟩))
    have hC4 := hC4'.drop
    clear hC2 hC3 hC4' hn1 hn2
    go_wp2_with (first | (go_at_call 12; refine (c_wordl hC4 [32, 0, 8, 0] 4 32 rfl rfl (by decide) (by decide)).mono ?_; rintro e w5 ⟨a3, c3, rfl, hn3, hC5⟩) | (go_at_call 11; refine (c_say hC5 0 _ 32 _ (wordL [32, 0, 8, 0]) rfl (by omega) HSEL.out.2 (word_in _) (bz2 fa) _ HY.out.2).mono ?_; rintro e w6 ⟨a4, c4, rfl, hn4, hC6'⟩))
    go_ret
    exact ⟨rfl, hC6'.upd⟩
  · obtain ⟨ms, hms⟩ : ∃ ms, zs.map (fun x => x % 256) = ms := ⟨_, rfl⟩
    have HMS := Lib.hid hms
    have hmsl : ms.length = zs.length := by rw [← hms, List.length_map]
    clear hms
    have h117i : (o == 117) = false := by simpa using h117
    go_enter Try.func4, Try.ntmps4
    go_upto_region 7 with (first | (go_at_call 7; refine (awake6 _).mono ?_; rintro e w0 ⟨rfl, hU0⟩) | (go_at_call 8; refine (c_fresh hU0 _ (by decide) fa HFA.out).mono ?_; rintro e w1 ⟨b, rfl, hC1⟩) | (go_at_call 10; refine (c_nextl hC1 [400] 1 rfl (by decide) (by decide) (by decide)).mono ?_; rintro e w2 ⟨rfl, hC2'⟩))
    have hC2 : Ctx (ChipP b (bz0 fa) 0) .emp w w2 [] := hC2'
    clear hC2' hC1 hU0
    go_upto_region 8 with (first | (go_at_call 12; refine (c_wordl hC2 [6] 1 8 rfl rfl (by decide) (by decide)).mono ?_; rintro e w3 ⟨a1, c1, rfl, hn1, hC3⟩) | (go_at_call 11; refine (c_say hC3 0 _ 8 _ (wordL [6]) rfl (by omega) rfl (word_in _) (bz1 fa) _ HY.out.1).mono ?_; rintro e w4 ⟨a2, c2, rfl, hn2, hC4'⟩))
    have hC4 := hC4'.drop
    clear hC2 hC3 hC4' hn1 hn2
    go_upto_region 12 with (first | (go_at_call 12; refine (c_wordl hC4 [32, 0, 8, 0] 4 32 rfl rfl (by decide) (by decide)).mono ?_; rintro e w5 ⟨a3, c3, rfl, hn3, hC5⟩) | (go_at_call 11; refine (c_say hC5 0 _ 32 _ (wordL [32, 0, 8, 0]) rfl (by omega) HSEL.out.2 (word_in _) (bz2 fa) _ HY.out.2).mono ?_; rintro e w6 ⟨a4, c4, rfl, hn4, hC6'⟩))
    have hC6 := hC6'.drop
    clear hC4 hC5 hC6' hn3 hn4
    have hR0 := row_lit w6 3 (ints [o]) 1 rfl (by decide)
    have hC7 := hC6.lit (ints [o]) 3 1 rfl (by decide)
    have hg6 := hC6.upd.size
    go_wp2_with fail
    go_loopw [7, 8] (fun bv iv wr => ∃ (i : Nat) (oa : Option Addr) (oc : Nat), i ≤ zs.length ∧ i ≤ 4 ∧ iv = .int .i64 i ∧ bv = .slice oa (i + 1) oc ∧ Row wr 3 bv (ints (o :: ms.take i)) ∧ (∀ k, bv.ownBlock = some k → w.heap.size ≤ k) ∧ Ctx (ChipP b (bz2 fa) 42) .emp w wr [(bv, ints (o :: ms.take i))]) (fun _ iv _ => 4 - (intOf iv).toNat)
    case atStart => exact ⟨0, _, _, by omega, by omega, rfl, rfl, hR0, fun k hk => by simp [Value.ownBlock] at hk; omega, hC7⟩
    case round =>
      clear hR0 hC7 hC6 hg6
      obtain ⟨i, oa, oc, hi1, hi2, rfl, rfl, hrow, hown, hC⟩ := hrel
      by_cases hlt : i < zs.length ∧ i < 4
      · obtain ⟨hl1, hl2⟩ := hlt
        obtain ⟨bb, oo, rfl, hbb, hcc⟩ := k5 (by intro h; simp [h] at hl1)
        obtain ⟨x, hx⟩ : ∃ x, zs.getD i 0 = x := ⟨_, rfl⟩
        have hcell : wr.cell? ⟨bb, oo + i, none⟩ = some (.int .i64 x) := by
          rw [hC.upd.cell (p := ⟨bb, oo + i, none⟩) hbb (fun f => f), hcc i hl1, hx]
        have htk : ms.take (i + 1) = ms.take i ++ [x % 256] := by
          rw [← HMS.out, take_snoc' zs (fun x => x % 256) i hl1, hx]
        have hand := i64_and255 x
        have HTK := Lib.hid htk
        have HROW := Lib.hid hrow
        have HOWN := Lib.hid hown
        have hll : (ints (o :: ms.take i)).length = i + 1 := by rw [ints_len, List.length_cons, List.length_take, Nat.min_eq_left (by omega)]
        have HLL := Lib.hid hll
        have hbl := Nat.lt_of_lt_of_le hbb hC.upd.size
        clear hcc htk hrow hown hll hx k5
        go_wp2_with (at_builtin; go_must (refine wpList_app1 rfl _ _ 22 rfl 3 (.int .i64 0) 8 Try.underlying22 info_int rfl _ (ints (o :: ms.take i)) (i + 1) HLL.out rfl wr (.int .i64 (x % 256)) ⟨rfl, rfl, rfl⟩ HROW.out rfl rfl (by omega) (by omega) ?_); intro g cap w8 hR3 hU3 hg3 hgs3)
        have hR4 : Row w8 3 (.slice (some ⟨g, 0, none⟩) (i + 1 + 1) cap) (ints (o :: ms.take (i + 1))) := by
          rw [HTK.out, ← List.cons_append, ints_app]
          exact hR3
        have hsz8 := hC.upd.size
        have hC8 := hC.write 0 rfl HOWN.out hU3 (hR4.rs (by rw [ints_len, List.length_cons, List.length_take]; omega)) (fun k hk => ⟨by simp only [Value.ownBlock, Option.some.injEq] at hk; rw [← hk]; exact hg3, hR4.lt k hk⟩) [] (fun r hr => by simp at hr)
        refine ⟨?rel, ?measure⟩
        case rel =>
          refine ⟨i + 1, some ⟨g, 0, none⟩, cap, by omega, by omega, by go_num, rfl, hR4, fun k hk => ?_, hC8⟩
          simp only [Value.ownBlock, Option.some.injEq] at hk
          rw [← hk]
          rcases hg3 with e | e
          · exact HOWN.out g e
          · omega
        case measure => simp [intOf]; omega
      · have hmm : (ms.take i).length ≤ 4 := by rw [List.length_take]; omega
        have hmi : ∀ x ∈ o :: ms.take i, 0 ≤ x ∧ x ≤ 255 := by
          intro x hx
          rcases List.mem_cons.1 hx with h | h
          · omega
          · have := List.mem_of_mem_take h
            rw [← HMS.out, List.mem_map] at this
            obtain ⟨y, _, rfl⟩ := this
            omega
        obtain ⟨t, ys, hs1, hs2, hs3, hs4⟩ := bz_all fa o hob h117 (ms.take i) hmm
        have hyl : ys.length = 8 * (i + 1) + 16 := by
          have := said_len (bz2 fa) (wordL (o :: ms.take i) ++ List.replicate 16 15)
          rw [hs1, List.length_append, wordL_len, List.length_cons, List.length_take, Nat.min_eq_left (by omega), List.length_replicate] at this
          exact this
        have HMI := Lib.hid hmi
        have HSAY := Lib.hid hs1
        have HST := Lib.hid (And.intro hs2 hs3)
        rw [hyl] at hs4
        have HANY := Lib.hid hs4
        have HYL := Lib.hid hyl
        clear hmi hs1 hs2 hs3 hs4 hyl hmm hrow hown HMS k5 k4
        rcases (show (¬ i < zs.length) ∨ (i < zs.length ∧ ¬ i < 4) by omega) with hn1 | ⟨hn1, hn2⟩
        all_goals
          clear hlt
          go_upto_region 18 with (first | (go_at_call 12; refine (c_word hC 0 _ (i + 1) _ _ rfl (8 * (i + 1)) rfl (by omega) HMI.out).mono ?_; rintro e w8 ⟨a5, c5, rfl, hn5, hC8⟩) | (go_at_call 15; refine (c_quiet hC8 0 _ _ _ _ rfl hn5 16 _ rfl (8 * (i + 1) + 16) rfl (by omega)).mono ?_; rintro e w9 ⟨a6, c6, rfl, hn6, hC9⟩) | (go_at_call 11; refine (c_say hC9 0 _ (8 * (i + 1) + 16) _ (wordL (o :: ms.take i) ++ List.replicate 16 15) rfl (by omega) HSEL2.out.2 (app_in (word_in _) (rep_in _)) t ys HSAY.out).mono ?_; rintro e w10 ⟨a7, c7, rfl, hn7, hC10⟩))
          clear hC hC8 hC9 hn5 hn6
          go_upto_region 19 with (go_at_call 13; refine (c_status hC10 3 0 HST.out.1 HST.out.2).mono ?_; rintro e w11 ⟨rfl, hC11⟩)
          obtain ⟨g, o3, rfl, hg, hc⟩ := (hC11.rs 0 rfl).cells (by omega)
          have HC := Lib.hid hc
          have hU11 := hC11.upd
          clear hc hC10 hC11 hn7 HMI HSAY HST HSEL HSEL2 HFA HY
          go_wp2_with fail
          go_loopw [12, 13] (fun sv iv wr => ∃ j : Nat, 8 ≤ j ∧ j ≤ 8 * (i + 1) + 16 ∧ iv = .int .i64 j ∧ sv = .bool (anyTo ys j) ∧ Upd none' w11 wr) (fun _ iv _ => 8 * (i + 1) + 16 - (intOf iv).toNat)
          case atStart => exact ⟨8, by omega, by omega, rfl, by rw [anyTo_8], Upd.refl _ _⟩
          case round =>
            rename World => w12
            obtain ⟨j, hj8, hj, rfl, rfl, hU⟩ := hrel
            by_cases hlt : j < 8 * (i + 1) + 16
            · obtain ⟨y, hy⟩ : ∃ y, ys.getD j 0 = y := ⟨_, rfl⟩
              have hcell : w12.cell? ⟨g, o3 + j, none⟩ = some (.int .i64 y) := by
                rw [hU.cell (p := ⟨g, o3 + j, none⟩) hg (fun f => f), HC.out j hlt, ints_at _ _ (by rw [HYL.out]; exact hlt), hy]
              have hgr : g < w12.heap.size := Nat.lt_of_lt_of_le hg hU.size
              have HSU : Hid (anyTo ys (j + 1) = (anyTo ys j || decide (y ≠ 15))) := by rw [← hy]; exact anyTo_succ ys j hj8 (by rw [HYL.out]; exact hlt)
              clear hy
              obtain ⟨bb, hbb⟩ : ∃ bb, anyTo ys j = bb := ⟨_, rfl⟩
              rw [hbb] at HSU ⊢
              clear hbb
              cases bb with
              | true =>
                go_wp2
                refine ⟨⟨j + 1, by omega, by omega, by go_num, by rw [HSU.out, Bool.true_or], hU⟩, by simp [intOf]; omega⟩
              | false =>
                by_cases h15 : y = 15
                · subst h15
                  go_wp2
                  refine ⟨⟨j + 1, by omega, by omega, by go_num, by rw [HSU.out]; rfl, hU⟩, by simp [intOf]; omega⟩
                · have hb15 : (y == 15) = false := by simpa using h15
                  have hd15 : decide (y ≠ 15) = true := by simpa using h15
                  go_wp2
                  refine ⟨⟨j + 1, by omega, by omega, by go_num, by rw [HSU.out, hd15]; show Value.bool (!(y == 15)) = _; rw [hb15]; rfl, hU⟩, by simp [intOf]; omega⟩
            · obtain rfl : j = 8 * (i + 1) + 16 := by omega
              rw [HANY.out]
              clear HC
              by_cases h5 : o = 5
              · subst h5
                go_wp2
                go_ret
                exact ⟨rfl, hU11.trans hU (fun _ _ f => f)⟩
              · by_cases h53 : o = 53
                · subst h53
                  go_wp2
                  go_ret
                  exact ⟨rfl, hU11.trans hU (fun _ _ f => f)⟩
                · have hn5 : (o == 5) = false := by simpa using h5
                  have hn53 : (o == 53) = false := by simpa using h53
                  rw [decide_eq_false (show ¬ (o = 5 ∨ o = 53) by omega)]
                  go_wp2
                  go_ret
                  exact ⟨rfl, hU11.trans hU (fun _ _ f => f)⟩
end Go.Proofs.Ytjdjdfllggpckaa
