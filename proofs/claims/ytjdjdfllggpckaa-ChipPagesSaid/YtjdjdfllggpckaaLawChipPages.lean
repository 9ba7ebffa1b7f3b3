/- ChipPages: a program turns its page alone, from the address on, around its end, and takes as long as it should: for every text, number, row and duration. No condition. -/
import Derived.Test.YtjdjdfllggpckaaCtxE
import Derived.Test.YtjdjdfllggpckaaAwake6
import Derived.Test.YtjdjdfllggpckaaPureP
namespace Go.Proofs.Ytjdjdfllggpckaa
open Go.RowKit
theorem dur_100 (x : Int) : ∃ D : Nat, 1 ≤ D ∧ D ≤ 100 ∧ (IntKind.u64.wrap x).tmod 100 = (D : Int) - 1 ∧ IntKind.i64.wrap (1 + ((D : Int) - 1)) = (D : Int) := by
  have h : IntKind.u64.wrap x = x % 18446744073709551616 := by first | exact IntKind.wrap_u64 x | rfl
  refine ⟨(x % 18446744073709551616 % 100).toNat + 1, by omega, by omega, ?_, ?_⟩
  · rw [h, Int.tmod_eq_emod_of_nonneg (by omega)]
    omega
  · exact wrap_1m _ (by omega) (by omega)
def pa0 (a : ByteArray) (D : Int) : St := { St.new a with busy := [D] }
def pa1 (a : ByteArray) (D : Int) : St := ((pa0 a D).said (wordL [6])).1
def paX (k : Int) (ds : List Int) : List Int := wordL ([2, 0, k / 256, k % 256] ++ ds)
def pa2 (a : ByteArray) (D k : Int) (ds : List Int) : St := ((pa1 a D).said (paX k ds)).1
theorem pa1_said (a : ByteArray) (D : Int) : ∃ ys, (pa0 a D).said (wordL [6]) = (pa1 a D, ys) := said_ex _ _ _ (by unfold pa1; rfl)
theorem pa2_said (a : ByteArray) (D k : Int) (ds : List Int) : ∃ ys, (pa1 a D).said (paX k ds) = (pa2 a D k ds, ys) := said_ex _ _ _ (by unfold pa2; rfl)
theorem pa1_all (a : ByteArray) (D : Int) : ∃ s : St, pa1 a D = s ∧ s.sel = false ∧ s.goes = false ∧ s.job = none ∧ s.en = true ∧ s.prot = false ∧ s.quad = false ∧ s.busy = [D] ∧ s.a = a :=
  ⟨_, rfl, by kernel_rfl, by kernel_rfl, by kernel_rfl, by kernel_rfl, by kernel_rfl, by kernel_rfl, by kernel_rfl, by kernel_rfl⟩
theorem pa2_none (a : ByteArray) (D k : Int) (hk : 0 ≤ k ∧ k < 4096) : (pa2 a D k []).a = a ∧ (pa2 a D k []).first = 2 := by
  obtain ⟨s, hs, h1, h2, h3, h4, h5, h6, h7, h8⟩ := pa1_all a D
  have h := pg_run s h2 h3 k hk [] (fun _ hx => by simp at hx)
  unfold pa2 paX
  rw [hs, h, inn_none]
  refine ⟨h8, ?_⟩
  show Go.Proofs.Ytjdjdfllggpckaa.first (match s.job with | some j => !j.susp | none => false) s.en s.prot = 2
  rw [h3, h4, h5]
  rfl
theorem pa2_some (a : ByteArray) (D k : Int) (hk : 0 ≤ k ∧ k < 4096) (ds : List Int) (hd : ds ≠ []) (hb : ∀ x ∈ ds, 0 ≤ x ∧ x ≤ 255) : ∃ t : St, pa2 a D k ds = t ∧ t.sel = false ∧ t.job = some ⟨-1, k - k % 32, ⟨(pageOf k ds).toArray⟩, D, false⟩ ∧ t.en = true ∧ t.prot = false ∧ t.quad = false ∧ t.a = a := by
  obtain ⟨s, hs, h1, h2, h3, h4, h5, h6, h7, h8⟩ := pa1_all a D
  have h := pg_run s h2 h3 k hk ds hb
  obtain ⟨x, xs, rfl⟩ : ∃ x xs, ds = x :: xs := by
    cases ds with
    | nil => exact absurd rfl hd
    | cons x xs => exact ⟨x, xs, rfl⟩
  obtain ⟨e1, e2, e3, e4, e5, e6⟩ := inn_end s h4 h5 D h7 k x xs
  refine ⟨_, rfl, ?_⟩
  unfold pa2 paX
  rw [hs, h]
  exact ⟨e1, e2, e3, e4, by rw [e5]; exact h6, by rw [e6]; exact h8⟩
theorem tk_job (s : St) (j : Job) (hj : s.job = some j) (n : Int) : (s.tk n).job = some (j.tk n) := by
  unfold St.tk
  dsimp only
  rw [hj]
  rfl
theorem busy_first (t : St) (j : Job) (hj : t.job = some j) (hu : j.susp = false) (he : t.en = true) (hp : t.prot = false) : t.first = 3 := by
  have hw : t.works = true := by unfold St.works; rw [hj]; dsimp only; rw [hu]; rfl
  show Go.Proofs.Ytjdjdfllggpckaa.first t.works t.en t.prot = 3
  rw [hw, he, hp]
  rfl
theorem u8_and (x : UInt8) (d : Int) : bits .and .u8 ((x.toNat : Nat) : Int) (d % 256) = ((x &&& UInt8.ofNat (d % 256).toNat).toNat : Int) := by
  have h1 : ∀ y : UInt8, (BitVec.ofInt 8 ((y.toNat : Nat) : Int)).toNat = y.toNat := fun y => by rw [BitVec.toNat_ofInt]; have := y.toNat_lt; omega
  have e : d % 256 = ((UInt8.ofNat (d % 256).toNat).toNat : Int) := by rw [UInt8.toNat_ofNat']; omega
  obtain ⟨v, hv⟩ : ∃ v, UInt8.ofNat (d % 256).toNat = v := ⟨_, rfl⟩
  rw [hv] at e ⊢
  rw [e]
  show IntKind.u8.wrap ((BitVec.ofInt 8 ((x.toNat : Nat) : Int) &&& BitVec.ofInt 8 ((v.toNat : Nat) : Int)).toNat : Nat) = _
  rw [BitVec.toNat_and, h1, h1, UInt8.toNat_and, IntKind.wrap_u8]
  have : x.toNat &&& v.toNat < 256 := Nat.lt_of_le_of_lt Nat.and_le_left x.toNat_lt
  omega
/-- The places that the walk reckons. -/
theorem place (k i : Nat) (hk : k < 4096) (hi : i < 32) : ∃ q : Nat, q < 4096 ∧ (q : Int) = (k : Int) - (k : Int) % 32 + ((k : Int) + (i : Int)) % 32 ∧ IntKind.i64.wrap ((k : Int) + (i : Int)) = (k : Int) + (i : Int) ∧ ((k : Int) + (i : Int)).tmod 32 = ((k : Int) + (i : Int)) % 32 ∧ (k : Int).tdiv 32 = (k : Int) / 32 ∧ IntKind.i64.wrap ((k : Int) / 32 * 32) = (k : Int) / 32 * 32 ∧ IntKind.i64.wrap ((k : Int) / 32 * 32 + ((k : Int) + (i : Int)) % 32) = (q : Int) ∧ (k : Int) / 32 * 32 + ((k : Int) + (i : Int)) % 32 = (q : Int) :=
  ⟨k - k % 32 + (k + i) % 32, by omega, by omega, IntWalk.i64_in _ (by omega), Int.tmod_eq_emod_of_nonneg (by omega), Int.tdiv_eq_ediv_of_nonneg (by omega), IntWalk.i64_in _ (by omega), by rw [IntWalk.i64_in _ (by omega)]; omega, by omega⟩
def hdr (k : Nat) : List Int := [2, 0, (k : Int) / 256, (k : Int) % 256]
theorem ints_append (xs ys : List Int) : ints (xs ++ ys) = ints xs ++ ints ys := by unfold ints; rw [List.map_append]
theorem hdr_in (k : Nat) (hk : k < 4096) (ds : List Int) (h : ∀ x ∈ ds, 0 ≤ x ∧ x ≤ 255) : ∀ x ∈ hdr k ++ ds, 0 ≤ x ∧ x ≤ 255 := by
  intro x hx
  rcases List.mem_append.1 hx with h1 | h1
  · exact word4_in 2 k (by decide) hk x h1
  · exact h x h1
set_option maxRecDepth 100000 in
set_option maxHeartbeats 4000000 in
theorem lawChipPages (w : World) (s : ByteArray) (hs : s.size ≤ maxLen) (at' : Int) (_ : (Lit.int .i64 at').wf = true) (v0 : Value) (zs : List Int) (h0 : IntsR w v0 zs) (du : Int) (_ : (Lit.int .i64 du).wf = true) :
    Calls Try.prog 3 #[.string s, .int .i64 at', v0, .int .i64 du] w fun e w' => e = .returned (.bool true) ∧ Upd none' w w' := by
  obtain ⟨k, hat, hk⟩ := at_4096 at'
  obtain ⟨D, hD1, hD2, hdu, hwD⟩ := dur_100 du
  obtain ⟨fa, hfa⟩ : ∃ fa : ByteArray, (⟨(freshL s).toArray⟩ : ByteArray) = fa := ⟨_, rfl⟩
  have hsz : fa.size = 4096 := by rw [← hfa]; simpa [ByteArray.size] using freshL_len s
  have HFA := Lib.hid hfa
  have hkand := i64_and255 (k : Int)
  obtain ⟨ms, hms⟩ : ∃ ms, zs.map (fun x => x % 256) = ms := ⟨_, rfl⟩
  have HMS := Lib.hid hms
  obtain ⟨k1, k2, a0, cap0, rfl, k4, k5⟩ := h0
  clear hfa hms k2
  go_enter Try.func3, Try.ntmps3
  go_upto_region 11 with (first | (go_at_call 7; refine (awake6 _).mono ?_; rintro e w0 ⟨rfl, hU0⟩) | (go_at_call 8; refine (c_fresh hU0 s hs fa HFA.out).mono ?_; rintro e w1 ⟨b, rfl, hC1⟩) | (go_at_call 9; refine (c_cells hC1 fa rfl).mono ?_; rintro e w2 ⟨rfl, rfl⟩))
  have hR0 := row_lit w1 3 (ints (hdr k)) 4 rfl (by decide)
  have hC2 := (hC1.lit (ints (hdr k)) 3 4 rfl (by decide)).nilrow
  have hg1 := hC1.upd.size
  have HR0 := Lib.hid hR0
  clear hR0 hU0
  go_wp2_with fail
  go_loopw [14, 15] (fun dv iv wr => ∃ (i : Nat) (oa : Option Addr) (oc : Nat), i ≤ zs.length ∧ i ≤ 32 ∧ iv = .int .i64 i ∧ dv = .slice oa i oc ∧ (i = 0 → oa = none) ∧ Row wr 3 dv (ints (ms.take i)) ∧ (∀ g, dv.ownBlock = some g → w1.heap.size < g) ∧ Row wr 3 (.slice (some ⟨w1.heap.size, 0, none⟩) 4 4) (ints (hdr k)) ∧ Ctx (ChipP b (St.new fa) 0) .emp w wr [(dv, ints (ms.take i)), (.slice (some ⟨w1.heap.size, 0, none⟩) 4 4, ints (hdr k))]) (fun _ iv _ => 32 - (intOf iv).toNat)
  case atStart => exact ⟨0, none, 0, by omega, by omega, rfl, rfl, fun _ => rfl, Row.nil _ _, fun g hk => by simp [Value.ownBlock] at hk, HR0.out, hC2⟩
  case round =>
    clear HR0 hC2 hC1
    obtain ⟨i, oa, oc, hi1, hi2, rfl, rfl, hnil, hrow, hown, hRb, hC⟩ := hrel
    by_cases hlt : i < zs.length ∧ i < 32
    · obtain ⟨hl1, hl2⟩ := hlt
      obtain ⟨bb, oo, rfl, hbb, hcc⟩ := k5 (by intro h; simp [h] at hl1)
      obtain ⟨x, hx⟩ : ∃ x, zs.getD i 0 = x := ⟨_, rfl⟩
      have hcell : wr.cell? ⟨bb, oo + i, none⟩ = some (.int .i64 x) := by
        rw [hC.upd.cell (p := ⟨bb, oo + i, none⟩) hbb (fun f => f), hcc i hl1, hx]
      have htk : ms.take (i + 1) = ms.take i ++ [x % 256] := by
        rw [← HMS.out, take_snoc' zs (fun x => x % 256) i hl1, hx]
      have hand := i64_and255 x
      have HTK := Lib.hid htk
      have HROW := Lib.hid hrow
      have HRB := Lib.hid hRb
      have HOWN := Lib.hid hown
      have hll : (ints (ms.take i)).length = i := by rw [ints_len, List.length_take, Nat.min_eq_left (by rw [← HMS.out, List.length_map]; omega)]
      have HLL := Lib.hid hll
      have hbl := Nat.lt_of_lt_of_le hbb hC.upd.size
      clear hcc htk hrow hown hll hx k5 hRb hnil
      go_wp2_with (at_builtin; go_must (refine wpList_app1 rfl _ _ 22 rfl 3 (.int .i64 0) 8 Try.underlying22 info_int rfl _ (ints (ms.take i)) i HLL.out rfl wr (.int .i64 (x % 256)) ⟨rfl, rfl, rfl⟩ HROW.out rfl rfl (by omega) (by omega) ?_); intro g cap w8 hR3 hU3 hg3 hgs3)
      have hR4 : Row w8 3 (.slice (some ⟨g, 0, none⟩) (i + 1) cap) (ints (ms.take (i + 1))) := by
        rw [HTK.out, ints_app]
        exact hR3
      have hsz8 := hC.upd.size
      have hbs := HRB.out.lt w1.heap.size rfl
      have hne : ∀ g, (Value.slice oa i oc).ownBlock = some g → g ≠ w1.heap.size := fun g hg => by have := HOWN.out g hg; omega
      have hRb8 := HRB.out.upd hU3 (fun g hg he => by simp only [Value.ownBlock, Option.some.injEq] at hg; exact hne g he hg.symm)
      have hC8 := hC.write 0 rfl (fun g hg => by have := HOWN.out g hg; omega) hU3 (hR4.rs (by rw [ints_len, List.length_take]; omega)) (fun g' hk => ⟨by simp only [Value.ownBlock, Option.some.injEq] at hk; rw [← hk]; exact hg3, hR4.lt g' hk⟩) [(.slice (some ⟨w1.heap.size, 0, none⟩) 4 4, ints (hdr k))] (fun r hr => ⟨List.mem_cons.2 (.inr hr), fun g' hk he => by rw [List.mem_singleton.1 hr] at hk; simp only [Value.ownBlock, Option.some.injEq] at hk; exact hne g' he hk.symm⟩)
      refine ⟨?rel, ?measure⟩
      case rel =>
        refine ⟨i + 1, some ⟨g, 0, none⟩, cap, by omega, by omega, by go_num, rfl, fun h => by omega, hR4, fun g' hk => ?_, hRb8, hC8⟩
        simp only [Value.ownBlock, Option.some.injEq] at hk
        rw [← hk]
        rcases hg3 with e | e
        · exact HOWN.out g e
        · omega
      case measure => simp [intOf]; omega
    · have hms32 : (ms.take i).length = i := by rw [List.length_take, Nat.min_eq_left (by rw [← HMS.out, List.length_map]; omega)]
      have hmb : ∀ x ∈ ms.take i, 0 ≤ x ∧ x ≤ 255 := by
        intro x hx
        have := List.mem_of_mem_take hx
        rw [← HMS.out, List.mem_map] at this
        obtain ⟨y, _, rfl⟩ := this
        omega
      have hend : ¬ i < zs.length ∨ (i < zs.length ∧ ¬ i < 32) := by omega
      generalize ms.take i = ds at *
      have hll : (ints ds).length = i := by rw [ints_len]; exact hms32
      have HLL := Lib.hid hll
      have HMB := Lib.hid hmb
      have HDL := Lib.hid hms32
      have HRB := Lib.hid hRb
      have HNIL := Lib.hid hnil
      have HOWN := Lib.hid hown
      have HROW := Lib.hid hrow
      clear hlt hmb hms32 hRb hll hnil hown hrow HMS k5 k4
      rcases hend with hn1 | ⟨hn1, hn2⟩
      all_goals
        go_upto_region 18 with (at_builtin; go_must (refine wpList_appRS2 rfl _ _ 22 rfl 3 (.int .i64 0) 8 Try.underlying22 info_int rfl (.slice (some ⟨w1.heap.size, 0, none⟩) 4 4) (ints (hdr k)) 4 rfl rfl HRB.out _ _ _ rfl (ints ds) (hC.rs 0 rfl) (fun h => by obtain ⟨_, _, e, _, hf, _⟩ := HROW.out.form; simp only [Value.slice.injEq] at e; rw [e.2.2]; exact (hf (by rw [← e.1]; exact h)).2) (fun h => HNIL.out (by rw [← HLL.out, h]; rfl)) (ints_one ds) (by omega) (by omega) ?_); intro vb w2 hRB2 hUB2 hvb)
        obtain ⟨va, vc, rfl, -⟩ := hRB2.form
        have hbl : (ints (hdr k) ++ ints ds).length = 4 + i := by rw [List.length_append, HLL.out]; rfl
        rw [hbl] at hRB2 hvb ⊢
        have hRB3 : Row w2 3 (.slice va (4 + i) vc) (ints (hdr k ++ ds)) := by rw [ints_append]; exact hRB2
        have hC2 := hC.write 1 rfl (fun g hg => by simp only [Value.ownBlock, Option.some.injEq] at hg; omega) hUB2 (hRB3.rs (by rw [ints_append, hbl]; omega)) (fun g hg => ⟨hvb g hg, hRB3.lt g hg⟩) [(.slice oa i oc, ints ds)] (fun r hr => ⟨by rw [List.mem_singleton.1 hr]; exact List.mem_cons.2 (.inl rfl), fun g hg he => by rw [List.mem_singleton.1 hr] at hg; have := HOWN.out g hg; simp only [Value.ownBlock, Option.some.injEq] at he; omega⟩)
        have HHB := Lib.hid (hdr_in k hk ds HMB.out)
        have HSEL : Hid (True ∧ (pa1 fa D).sel = false) := ⟨trivial, by obtain ⟨s1, e1, e2, _⟩ := pa1_all fa D; rw [e1]; exact e2⟩
        obtain ⟨y1, hy1⟩ := pa1_said fa D
        obtain ⟨y2, hy2⟩ := pa2_said fa D k ds
        have HY := Lib.hid (And.intro hy1 hy2)
        clear hC hy1 hy2 hRB2 hRB3 hUB2 hvb hbl HRB
        go_upto_region 19 with (go_at_call 10; refine (c_nextl hC2 [(D : Int)] 1 rfl (by decide) (by decide) (by intro x hx; rw [List.mem_singleton.1 hx]; omega)).mono ?_; rintro e w3 ⟨rfl, hC3'⟩)
        have hC3 : Ctx (ChipP b (pa0 fa D) 0) .emp w w3 [(.slice va (4 + i) vc, ints (hdr k ++ ds)), (.slice oa i oc, ints ds)] := hC3'
        clear hC3' hC2
        go_upto_region 20 with (first | (go_at_call 12; refine (c_wordl hC3 [6] 1 8 rfl rfl (by decide) (by decide)).mono ?_; rintro e w4 ⟨a1, c1, rfl, hn1, hC4⟩) | (go_at_call 11; refine (c_say hC4 0 _ 8 _ (wordL [6]) rfl (by omega) rfl (word_in _) (pa1 fa D) _ HY.out.1).mono ?_; rintro e w5 ⟨a2, c2, rfl, hn2, hC5'⟩))
        have hC5 := hC5'.tl.tl
        clear hC3 hC4 hC5' hn1 hn2
        go_upto_region 21 with (first | (go_at_call 12; refine (c_word hC5 0 _ _ _ _ rfl (8 * (4 + i)) rfl (by omega) HHB.out).mono ?_; rintro e w6 ⟨a3, c3, rfl, hn3, hC6⟩) | (go_at_call 11; refine (c_say hC6 0 _ (8 * (4 + i)) _ (paX k ds) rfl (by omega) HSEL.out.2 (word_in _) (pa2 fa D k ds) _ HY.out.2).mono ?_; rintro e w7 ⟨a4, c4, rfl, hn4, hC7'⟩))
        have hC7 := hC7'.tl.tl.tl
        clear hC5 hC6 hC7' hn3 hn4
        have kc := Lib.run_convert_string_bytes (P := Try.prog) w7 9 32 5 fa Try.underlying9 Try.underlying32 Try.underlying5
        go_upto_region 22 with fail
        have hC8 := hC7.bytes fa
        clear kc hC7
        generalize Lib.bytesWorld w7 5 fa = w8 at *
        by_cases hz : i = 0
        · subst hz
          obtain rfl : ds = [] := List.eq_nil_of_length_eq_zero HDL.out
          obtain ⟨e1, e2⟩ := pa2_none fa D k (by omega)
          have HE := Lib.hid (And.intro e1 e2)
          clear e1 e2
          go_upto_region 24 with (go_at_call 13; refine (c_status hC8 2 _ HE.out.2 rfl).mono ?_; rintro e w9 ⟨rfl, hC9⟩)
          go_wp2_with (go_at_call 9; refine (c_cells hC9 fa HE.out.1).mono ?_; rintro e w10 ⟨rfl, rfl⟩)
          go_ret
          exact ⟨rfl, hC9.upd⟩
        · have hn0 : ¬ (i : Int) < 1 := by omega
          obtain ⟨t, ht, t1, t2, t3, t4, t5, t6⟩ := pa2_some fa D k (by omega) ds (by intro h; rw [h] at HDL; exact hz HDL.out.symm) HMB.out
          rw [ht] at hC8
          have HT := Lib.hid (And.intro t1 (And.intro t2 (And.intro t3 (And.intro t4 (And.intro t5 t6)))))
          rw [← wantN_nil fa k] at hC8
          clear ht t1 t2 t3 t4 t5 t6 HY HSEL
          go_wp2_with fail
          go_loopw [19, 20] (fun iv _ wr => ∃ j : Nat, j ≤ i ∧ iv = .int .i64 j ∧ Ctx (ChipP b t (0 + ((8 : Nat) : Int) + 1 + ((8 * (4 + i) : Nat) : Int) + 1)) (BufP w7.heap.size (wantN fa k (ds.take j))) w wr [(.slice oa i oc, ints ds)]) (fun iv _ _ => i - (intOf iv).toNat)
          case atStart => exact ⟨0, by omega, rfl, by rw [List.take_zero]; exact hC8⟩
          case round =>
            clear hC8
            rename World => w9
            obtain ⟨j, hj, rfl, hC⟩ := hrel
            by_cases hlt : j < i
            · obtain ⟨q, hq1, hq2, p1, p2, p3, p4, p5, p6⟩ := place k j hk (by omega)
              obtain ⟨gd, od, rfl, hgd, hcd⟩ := (hC.rs 0 rfl).cells (by omega)
              obtain ⟨x, hx⟩ : ∃ x, ds.getD j 0 = x := ⟨_, rfl⟩
              have hcell : w9.cell? ⟨gd, od + j, none⟩ = some (.int .i64 x) := by rw [hcd j hlt, ints_at _ _ (by rw [HDL.out]; exact hlt), hx]
              have hwl : (wantN fa k (ds.take j)).length = 4096 := by rw [wantN_len, hsz]
              have hB := hC.buf
              have hc := hB.cell (j := q) (by omega)
              have hf := hB.frozen (j := q) (by omega)
              have hsn := wantN_snoc fa hsz k (by omega) (ds.take j) x (by rw [List.length_take]; omega) q (by rw [List.length_take, Nat.min_eq_left (by rw [HDL.out]; omega)]; exact hq2)
              have htk : ds.take (j + 1) = ds.take j ++ [x] := by
                rw [List.take_add_one, ← hx]
                simp [List.getD_eq_getElem?_getD, List.getElem?_eq_getElem (show j < ds.length by rw [HDL.out]; exact hlt)]
              rw [← htk] at hsn
              obtain ⟨old, hold⟩ : ∃ old, (wantN fa k (ds.take j)).getD q 0 = old := ⟨_, rfl⟩
              rw [hold] at hc hsn
              have hand := u8_and old x
              have hC9 := hC.bufSet q (by omega) (old &&& UInt8.ofNat (x % 256).toNat)
              rw [← hsn] at hC9
              have HC9 := Lib.hid hC9
              have hqi : (q : Int) < 4096 := by omega
              clear hsn htk hold hB hC hC9 hcd hx hq2
              go_upto_region 29 with fail
              go_region
              all_goals
                go_wp2
                refine ⟨?rel, ?measure⟩
                case rel => exact ⟨j + 1, by omega, by go_num, HC9.out.drew⟩
                case measure => simp [intOf]; omega
            · obtain rfl : j = i := by omega
              have hdt : ds.take j = ds := List.take_of_length_le (by rw [HDL.out]; exact Nat.le_refl _)
              rw [hdt] at hC
              have hC0 := hC.drop
              clear hC hdt
              go_wp2_with fail
              go_loopw [21, 22, 23] (fun iv _ _ wr => ∃ n : Nat, n + 1 ≤ D ∧ iv = .int .i64 ((n : Int) + 1) ∧ Ctx (ChipP b (t.tk (n : Int)) (0 + ((8 : Nat) : Int) + 1 + ((8 * (4 + j) : Nat) : Int) + 1 + (n : Int))) (BufP w7.heap.size (wantN fa k ds)) w wr []) (fun iv _ _ _ => D - (intOf iv).toNat)
              case atStart => exact ⟨0, by omega, by go_num, by rw [Int.natCast_zero, tk_zero, Int.add_zero]; exact hC0⟩
              case round =>
                clear hC0
                rename World => w10
                obtain ⟨n, hn, rfl, hC⟩ := hrel
                have hjn := tk_job t _ HT.out.2.1 (n : Int)
                have HJN := Lib.hid hjn
                clear hjn
                by_cases hlt : n + 1 < D
                · have hlast : ¬ ((n : Int) + 1 = (D : Int)) := by omega
                  have hcl := wait_clock (t.tk (n : Int)) _ HJN.out rfl HT.out.1 (by show 1 < (D : Int) - (n : Int); omega) 0
                  rw [tk_tk] at hcl
                  have HCL := Lib.hid hcl
                  have hj2 := tk_job t _ HT.out.2.1 ((n : Int) + 1)
                  have hf3 := busy_first (t.tk ((n : Int) + 1)) _ hj2 rfl HT.out.2.2.1 HT.out.2.2.2.1
                  have HF3 : Hid (True ∧ (t.tk ((n : Int) + 1)).first = 3) := ⟨trivial, hf3⟩
                  clear hcl hj2 hf3
                  go_wp2_with (first | (go_at_call 14; refine (c_clock hC 0 (by decide) (by omega) _ _ HCL.out).mono ?_; rintro e w11 ⟨rfl, hC11⟩) | (go_at_call 13; refine (c_status hC11 3 _ HF3.out.2 rfl).mono ?_; rintro e w12 ⟨rfl, hC12⟩))
                  refine ⟨?rel, ?measure⟩
                  case rel =>
                    refine ⟨n + 1, by omega, by go_num, ?_⟩
                    rw [show ((n + 1 : Nat) : Int) = (n : Int) + 1 by omega, ← Int.add_assoc]
                    exact hC12
                  case measure => simp [intOf]; omega
                · have hDn : (D : Int) - (n : Int) = 1 := by omega
                  have hcl := last_clock (t.tk (n : Int)) _ HJN.out rfl HT.out.1 hDn 0
                  have hcell : ((⟨-1, (k : Int) - (k : Int) % 32, ⟨(pageOf k ds).toArray⟩, D, false⟩ : Job).tk (n : Int)).cells (t.tk (n : Int)).a all255 = ⟨(wantN fa k ds).toArray⟩ := by
                    show Job.cells ⟨-1, (k : Int) - (k : Int) % 32, ⟨(pageOf k ds).toArray⟩, (D : Int) - (n : Int), false⟩ t.a all255 = _
                    rw [HT.out.2.2.2.2.2]
                    rfl
                  rw [hcell] at hcl
                  have HCL := Lib.hid hcl
                  have HA : Hid (True ∧ (t.tk (n : Int)).a = fa) := ⟨trivial, HT.out.2.2.2.2.2⟩
                  have hwl : (wantN fa k ds).length = 4096 := by rw [wantN_len, hsz]
                  have hF0 : Go.Proofs.Ytjdjdfllggpckaa.first ({ (t.tk (n : Int)) with a := ⟨(wantN fa k ds).toArray⟩, job := none, en := false } : St).works false t.prot = 0 := by
                    rw [HT.out.2.2.2.1]
                    rfl
                  have HF0 : Hid (True ∧ ({ (t.tk (n : Int)) with a := ⟨(wantN fa k ds).toArray⟩, job := none, en := false } : St).first = 0) := ⟨trivial, hF0⟩
                  clear hcl hcell hF0 hDn
                  go_upto_region 40 with (first | (go_at_call 9; refine (c_cells hC fa HA.out.2).mono ?_; rintro e w11 ⟨rfl, rfl⟩) | (go_at_call 14; refine (c_clock hC 0 (by decide) (by omega) _ _ HCL.out).mono ?_; rintro e w11 ⟨rfl, hC11⟩) | (go_at_call 13; refine (c_status hC11 0 _ HF0.out.2 rfl).mono ?_; rintro e w12 ⟨rfl, hC12⟩))
                  have hB := hC12.buf
                  have hst := fun (u : UW w12) cap => run_string_buf (hB.upd u.upd (fun f => f)) 32 5 9 Try.underlying32 Try.underlying5 Try.underlying9 4096 cap hwl
                  have HCE := Lib.hid (fun (u : UW w12) => c_cells (hC12.frame u.upd) ⟨(wantN fa k ds).toArray⟩ rfl)
                  clear hB
                  refine wp_region_upd_lit w12 (Upd.refl none' w12) (by kernel_rfl) (by kernel_rfl) ?_
                  repeat (go_big_quiet_step ((go_at_call 9; exact quiet_eq (HCE.out _))))
                  refine wpQuiet_nil ?_
                  rintro _ ⟨⟨w13, hU13⟩, rfl⟩
                  go_wp2
                  go_ret
                  exact ⟨rfl, hC12.upd.trans hU13 (fun _ _ f => f)⟩
end Go.Proofs.Ytjdjdfllggpckaa
