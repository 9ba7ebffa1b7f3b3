/- burn.Pages, page, Burn, of a controller at rest. -/
import Derived.Test.YtkjdhkpkcepilaaGreatBurnM
import Derived.Test.YtkjdhkpkcepilaaGreatTwo
namespace Go.Proofs.YtkjdhkpkcepilaaGreat
open Go.RowKit
def natI (xs : List Nat) : List Int := xs.map fun (m : Nat) => (m : Int)
theorem natI_len (xs : List Nat) : (natI xs).length = xs.length := List.length_map _
theorem natI_app (xs ys : List Nat) : natI (xs ++ ys) = natI xs ++ natI ys := List.map_append
set_option maxRecDepth 100000 in
set_option maxHeartbeats 4000000 in
theorem pages_ok (a n : Nat) (hn : n ≤ 512) (ha : a + n ≤ 4096) (w : World) :
    Calls Tryz.prog 30 #[.int .i64 (a : Int), .int .i64 (n : Int)] w fun e w' => ∃ v, e = .returned (.tuple #[v, .int .i64 0]) ∧ Row w' 3 v (ints (natI (pagesL a n))) ∧ (∀ g, v.ownBlock = some g → w.heap.size ≤ g) ∧ Upd none' w w' := by
  have hm := fetch_may (a : Int) (n : Int)
  rw [show fmayB (a : Int) (n : Int) = true from decide_eq_true (by omega)] at hm
  go_enter Tryz.func30, Tryz.ntmps30
  go_wp2_with (go_at_call 61; refine (hm _).mono ?_; rintro e w1 ⟨rfl, rfl⟩)
  clear hm
  go_loopw [0, 1, 6] (fun av nv ov wr => ∃ (p q : Nat) (D : List Nat), p + q = n ∧ D.length ≤ p ∧ av = .int .i64 ((a + p : Nat) : Int) ∧ nv = .int .i64 (q : Int) ∧ Hid (D ++ pagesL (a + p) q = pagesL a n) ∧ Row wr 3 ov (ints (natI D)) ∧ (∀ g, ov.ownBlock = some g → w.heap.size ≤ g) ∧ Upd none' w wr) (fun _ nv _ _ => (intOf nv).toNat)
  case atStart => exact ⟨0, n, [], by omega, Nat.le_refl 0, rfl, rfl, Lib.hid rfl, Row.nil _ _, fun k hk => (by simp [Value.ownBlock] at hk), Upd.refl _ _⟩
  case round =>
    obtain ⟨p, q, D, hpq, hDl, rfl, rfl, hD, hrow, hown, hU⟩ := hrel
    obtain ⟨oa, oc, rfl, -⟩ := hrow.form
    have hol : (ints (natI D)).length = D.length := by rw [ints_len, natI_len]
    rw [hol] at hrow hown ⊢
    obtain ⟨x, hx⟩ : ∃ x, a + p = x := ⟨_, rfl⟩
    rw [hx]
    by_cases hlt : 0 < q
    · obtain ⟨m, hm⟩ : ∃ m, min q (32 - x % 32) = m := ⟨_, rfl⟩
      have hst := pagesL_step x q hlt
      rw [hm] at hst
      have hmin1 : min (q : Int) (32 - (x : Int) % 32) = (m : Int) := by omega
      have hmin : (if (32 : Int) - (x : Int) % 32 < (q : Int) then (32 : Int) - (x : Int) % 32 else (q : Int)) = (m : Int) := by split <;> omega
      have hw2 : IntKind.i64.wrap ((x : Int) + (m : Int)) = ((x + m : Nat) : Int) := by rw [IntWalk.i64_in _ (by omega)]; omega
      have hw3 : IntKind.i64.wrap ((q : Int) - (m : Int)) = ((q - m : Nat) : Int) := by rw [IntWalk.i64_in _ (by omega)]; omega
      have HROW := Lib.hid hrow
      have HOWN := Lib.hid hown
      have HU := Lib.hid hU
      have HOL := Lib.hid hol
      have HST := Lib.hid hst
      have HD := Lib.hid hD.out
      have HM := Lib.hid (show 1 ≤ m ∧ m ≤ q by omega)
      clear hrow hown hU hol hst hD hm
      rename World => W2
      go_wp2_with (at_builtin; go_must (refine wpList_app1 rfl _ _ 34 rfl 3 (.int .i64 0) 8 Tryz.underlying34 info_int rfl _ (ints (natI D)) D.length HOL.out rfl W2 (.int .i64 (m : Int)) ⟨rfl, rfl, rfl⟩ HROW.out rfl rfl (by omega) (by omega) ?_); intro g cap w3 hR3 hU3 hg3 hgs3)
      refine ⟨?rel, ?measure⟩
      case rel =>
        have hg : w.heap.size ≤ g := by
          rcases hg3 with e | e
          · exact HOWN.out g e
          · have := HU.out.size; omega
        refine ⟨p + m, q - m, D ++ [m], by have := HM.out; omega, by rw [List.length_append]; have := HM.out; show D.length + 1 ≤ _; omega, by rw [← hx]; go_num, by go_num, Lib.hid ?_, ?_, ?_, ?_⟩
        · rw [← HD.out, hx, HST.out, List.append_assoc, ← Nat.add_assoc, hx]
          rfl
        · rw [natI_app, ints_app]
          exact hR3
        · intro k hk
          simp [Value.ownBlock] at hk
          rw [← hk]
          exact hg
        · exact HU.out.trans hU3 (fun k h1 h2 => absurd (HOWN.out k h2) (by omega))
      case measure => have := HM.out; simp [intOf]; omega
    · obtain rfl : q = 0 := by omega
      have hfin : D = pagesL a n := by
        have := hD.out
        rw [pagesL_zero, List.append_nil] at this
        exact this
      subst hfin
      go_wp2
      go_ret2
      exact ⟨.slice oa _ oc, rfl, hrow, hown, hU⟩
/-- A row of the call's own, which is read from now on. -/
theorem Ctx.row {P Q : Own} {w0 w w' : World} {rows : List (Value × List Value)} (hC : Ctx P Q w0 w rows) (u : Upd none' w w') {r : Value × List Value} (hr : RS w' r.1 r.2) (hn : ∀ k, r.1.ownBlock = some k → w.heap.size ≤ k ∧ k < w'.heap.size) : Ctx P Q w0 w' (r :: rows) := by
  obtain ⟨S, g1, g2, g3⟩ := hC.all
  refine ⟨hC.okP, hC.okQ, (hC.frame u).upd, S, (hC.okP.star hC.okQ).frame g1 u (fun _ _ f => f), g2, fun x hx => ?_⟩
  rcases List.mem_cons.1 hx with rfl | hx
  · exact ⟨hr, fun k hk => ⟨(hn k hk).2, fun hs => by have := (hC.okP.star hC.okQ).lt g1 _ hs; have := (hn k hk).1; omega⟩⟩
  · exact (g3 x hx).upd u (fun _ f => f.elim) (fun _ f => .inl f)
theorem Rdy.row {Q : Own} {c : Cor} {b k fo fi : Nat} {n q : Int} {w0 w w' : World} {rows : List (Value × List Value)} (h : Rdy Q c b k fo fi n q w0 w rows) (u : Upd none' w w') {r : Value × List Value} (hr : RS w' r.1 r.2) (hn : ∀ k, r.1.ownBlock = some k → w.heap.size ≤ k ∧ k < w'.heap.size) : Rdy Q c b k fo fi n q w0 w' (r :: rows) := by
  obtain ⟨s, N, K, h1, h2, h3, h4⟩ := h
  exact ⟨s, N, K, h1, h2, h3.row u hr hn, h4⟩
/-- Some bytes burned into cells. -/
def burnA (a : ByteArray) (k : Nat) (bs : List UInt8) : ByteArray := ⟨(burnB a.data.toList k bs).toArray⟩
theorem burnA_list (a : ByteArray) (k : Nat) (bs : List UInt8) : (burnA a k bs).data.toList = burnB a.data.toList k bs := rfl
theorem burnA_size (a : ByteArray) (k : Nat) (bs : List UInt8) : (burnA a k bs).size = a.size := burnB_len _ _ _
theorem burnA_nil (a : ByteArray) (k : Nat) : burnA a k [] = a := by
  unfold burnA
  rw [burnB_nil]
theorem burnA_parts (a : ByteArray) (k i : Nat) (bs : List UInt8) (hi : i ≤ bs.length) : burnA (burnA a k (bs.take i)) (k + i) (bs.drop i) = burnA a k bs := by
  unfold burnA
  rw [show (⟨(burnB a.data.toList k (bs.take i)).toArray⟩ : ByteArray).data.toList = burnB a.data.toList k (bs.take i) from rfl, burnB_parts _ _ _ _ hi]
/-- A chip on which nothing is under way, which protects nothing; durations that may be. -/
structure Cor.Rest (c : Cor) : Prop where
  goes : c.goes = false
  job : c.job = none
  prot : c.prot = false
  busy : ∀ x ∈ c.busy, 1 ≤ x ∧ x ≤ 400
theorem rest_new (a : ByteArray) : (Cor.new a).Rest := ⟨rfl, rfl, rfl, fun x hx => by cases hx⟩
/-- How long the next program takes. -/
def Cor.long (c : Cor) : Int := match c.busy with
  | [] => 8
  | d :: _ => d
theorem Cor.Rest.long {c : Cor} (h : c.Rest) : 1 ≤ c.long ∧ c.long ≤ 400 := by
  unfold Cor.long
  split
  · omega
  · rename_i d ds hd
    exact h.busy d (by rw [hd]; exact List.mem_cons_self)
/-- What a page that is burned leaves. -/
def Cor.burned (c : Cor) (k : Nat) (bs : List UInt8) : Cor := { c with a := burnA c.a k bs, en := false, busy := c.busy.tail, job := none }
theorem Cor.Rest.burned {c : Cor} (h : c.Rest) (k : Nat) (bs : List UInt8) : (c.burned k bs).Rest := ⟨h.goes, rfl, h.prot, fun x hx => h.busy x (List.mem_of_mem_tail hx)⟩
def Cor.pageJob (c : Cor) (k : Nat) (bs : List UInt8) : Job := ⟨-1, (k : Int) - (k : Int) % 32, ⟨(pageOf (k : Int) (toI bs)).toArray⟩, c.long, false⟩
def Cor.paged (c : Cor) (k : Nat) (bs : List UInt8) : Cor := { c with en := true, busy := c.busy.tail, job := some (c.pageJob k bs) }
theorem paged_eq {c : Cor} (h : c.Rest) (k : Nat) (bs : List UInt8) : ({ c with en := true } : Cor).starts (k : Int) ⟨-1, (k : Int) - (k : Int) % 32, ⟨(pageOf (k : Int) (toI bs)).toArray⟩, 0, false⟩ = c.paged k bs := by
  obtain ⟨h1, h2, h3, h4⟩ := h
  obtain ⟨a, prot, quad, en, goes, job, busy, wipes⟩ := c
  dsimp only at h1 h2 h3
  subst h1 h2 h3
  unfold Cor.starts Cor.paged Cor.pageJob Cor.long
  dsimp only
  rw [if_neg (by decide), if_neg (by simp)]
  congr 1
theorem paged_done {c : Cor} (hsz : c.a.size = 4096) (k : Nat) (hk : k < 4096) (bs : List UInt8) (hb : k % 32 + bs.length ≤ 32) (n : Int) (hn : c.long ≤ n) : (c.paged k bs).pass n = c.burned k bs := by
  rw [cor_pass (j := c.pageJob k bs) rfl rfl, if_pos (show (c.pageJob k bs).left ≤ n from hn)]
  unfold Cor.paged Cor.burned
  dsimp only
  congr 1
  have := page_cut c.a hsz k hk bs hb
  show (c.pageJob k bs).cells c.a all255 = burnA c.a k bs
  have e : (c.pageJob k bs).cells c.a all255 = progCut c.a ((k : Int) - (k : Int) % 32).toNat ⟨(pageOf (k : Int) (toI bs)).toArray⟩ all255 := if_pos rfl
  rw [e]
  apply ByteArray.ext
  apply Array.toList_inj.1
  rw [this]
  rfl
theorem toI_snoc (bs : List UInt8) (i : Nat) (h : i < bs.length) : toI (bs.take (i + 1)) = toI (bs.take i) ++ [(((bs.getD i 0).toNat : Nat) : Int)] := by
  unfold toI
  rw [List.take_add_one, List.map_append]
  simp [List.getD_eq_getElem?_getD, List.getElem?_eq_getElem h]
set_option maxRecDepth 100000 in
set_option maxHeartbeats 8000000 in
theorem rdy_page {Q : Own} {c : Cor} {b k fo fi : Nat} {n q : Int} {w0 w : World} {rows : List (Value × List Value)} (h : Rdy Q c b k fo fi n q w0 w rows) (hc : c.Rest) (hsz : c.a.size = 4096) (p : Nat) (hp : p < 4096) (t : ByteArray) (h1 : 1 ≤ t.size) (h2 : p % 32 + t.size ≤ 32) (hn : n + 800 ≤ 1048575) :
    Calls Tryz.prog 60 #[.pointer (some ⟨k, 0, none⟩), .int .i64 (p : Int), .string t] w fun e w' => e = .returned (.int .i64 0) ∧ ∃ q', Rdy Q (c.burned p t.data.toList) b k fo fi (n + 800) q' w0 w' rows := by
  obtain ⟨m, hm⟩ : ∃ m, t.size = m := ⟨_, rfl⟩
  have hml : t.data.toList.length = m := hm
  have hlo := hc.long
  obtain ⟨i, hi⟩ : ∃ i : Nat, i = ((c.long + 6) / 16).toNat := ⟨_, rfl⟩
  have hib : i ≤ 25 := by omega
  have HEN : Hid (∀ (w1 : World) (v : Value), Upd none' w w1 → Row w1 3 v (ints (toI t.data.toList)) → (∀ g, v.ownBlock = some g → w.heap.size < g) → Calls Tryz.prog 36 #[.pointer (some ⟨k, 0, none⟩), .int .i64 6, .int .i64 0, .slice none 0 0, .int .i64 0] w1 fun e w' => ∃ oa oc, e = .returned (.tuple #[.slice oa 0 oc, .int .i64 0]) ∧ Rdy Q { c with en := true } b k fo fi (n + 9) (q + 8) w0 w' ((v, ints (toI t.data.toList)) :: rows)) := Lib.hid (fun w1 v hu hr ho => rdy_en (h.row hu (hr.rs (by rw [ints_len, toI_len, hml]; omega)) (fun g hg => ⟨Nat.le_of_lt (ho g hg), hr.lt g hg⟩)) hc.goes hc.job (by omega))
  have HPR : Hid (∀ (w1 : World) (a : Option Addr) (cp : Nat), Rdy Q { c with en := true } b k fo fi (n + 9) (q + 8) w0 w1 ((.slice a m cp, ints (toI t.data.toList)) :: rows) → Calls Tryz.prog 36 #[.pointer (some ⟨k, 0, none⟩), .int .i64 2, .int .i64 (p : Int), .slice a m cp, .int .i64 0] w1 fun e w' => ∃ oa oc, e = .returned (.tuple #[.slice oa 0 oc, .int .i64 0]) ∧ Rdy Q (c.paged p t.data.toList) b k fo fi (n + 9 + (33 + 8 * (m : Int))) (q + 8 + (32 + 8 * (m : Int))) w0 w' rows) := Lib.hid (fun w1 a cp hr => by
    have hl : (toI t.data.toList).length = m := by rw [toI_len, hml]
    have := rdy_prog hr hc.goes hc.job (p : Int) (by omega) a cp (toI t.data.toList) (by rw [hl]; exact List.mem_cons_self) (by rintro e; rw [e] at hl; simp at hl; omega) (toI_byte _) (by omega) (by omega)
    rw [hl, paged_eq hc] at this
    refine this.mono ?_
    rintro e w' ⟨oa, oc, rfl, hR⟩
    exact ⟨oa, oc, rfl, hR.rowsub fun r hr => List.mem_cons_of_mem _ hr⟩)
  have hok : (c.paged p t.data.toList).Ok := ⟨hc.goes, fun j hj => by
    have : c.pageJob p t.data.toList = j := Option.some.inj hj
    subst this
    exact hlo.1⟩
  have HW : Hid (∀ (w1 : World), Rdy Q (c.paged p t.data.toList) b k fo fi (n + 9 + (33 + 8 * (m : Int))) (q + 8 + (32 + 8 * (m : Int))) w0 w1 rows → Calls Tryz.prog 95 #[.pointer (some ⟨k, 0, none⟩), .int .i64 256] w1 fun e w' => e = .returned (.tuple #[.int .i64 ((i : Int) + 1), .int .i64 0]) ∧ ∃ q', Rdy Q (c.burned p t.data.toList) b k fo fi (n + 800) q' w0 w' rows) := Lib.hid (fun w1 hr => by
    have := rdy_wait hr hok i (fun r hr => by rw [busy_asks hok (j := c.pageJob p t.data.toList) rfl rfl]; exact decide_eq_true (show 16 * (r : Int) + 9 < c.long by omega)) (by rw [busy_asks hok (j := c.pageJob p t.data.toList) rfl rfl]; exact decide_eq_false (show ¬ 16 * (i : Int) + 9 < c.long by omega)) 256 (by omega) (by decide) (by omega)
    rw [paged_done hsz p hp _ (by rw [hml]; omega) _ (by omega)] at this
    refine this.mono ?_
    rintro e w' ⟨rfl, hR⟩
    exact ⟨rfl, _, hR.most (by omega) hn⟩)
  have kc := Lib.run_convert_string_bytes (P := Tryz.prog) w 9 53 5 t Tryz.underlying9 Tryz.underlying53 Tryz.underlying5
  have hBz := Buf.of_bytes w 5 t
  have hUz := upd_bytes w 5 t
  have HML := Lib.hid hml
  clear h hok hi hsz hc hml
  go_enter Tryz.func60, Tryz.ntmps60
  go_wp2
  clear kc
  go_loopw [7, 19] (fun dv iv wr => ∃ i : Nat, i ≤ m ∧ iv = .int .i64 (i : Int) ∧ Row wr 3 dv (ints (toI (t.data.toList.take i))) ∧ (∀ g, dv.ownBlock = some g → w.heap.size < g) ∧ Buf wr w.heap.size t.data.toList 5 ∧ Upd none' w wr) (fun _ iv _ => m - (intOf iv).toNat)
  case atStart => exact ⟨0, Nat.zero_le _, rfl, by rw [List.take_zero]; exact Row.nil _ _, fun k hk => (by simp [Value.ownBlock] at hk), hBz, hUz⟩
  case round =>
    clear hBz hUz
    obtain ⟨r, hr, rfl, hrow, hown, hB, hU⟩ := hrel
    obtain ⟨oa, oc, rfl, -⟩ := hrow.form
    have hol : (ints (toI (t.data.toList.take r))).length = r := by rw [ints_len, toI_len, List.length_take, HML.out, Nat.min_eq_left hr]
    rw [hol] at hrow hown ⊢
    rename World => W2
    by_cases hlt : r < m
    · obtain ⟨c0, hc0⟩ : ∃ c0, t.data.toList.getD r 0 = c0 := ⟨_, rfl⟩
      have hcell := hB.cell (j := r) (by rw [HML.out]; exact hlt)
      rw [hc0] at hcell
      have hcb := c0.toNat_lt
      have hw8 : IntKind.i64.wrap ((c0.toNat : Nat) : Int) = ((c0.toNat : Nat) : Int) := IntWalk.i64_in _ (by omega)
      have hsn := toI_snoc t.data.toList r (by rw [HML.out]; exact hlt)
      rw [hc0] at hsn
      have HSN := Lib.hid hsn
      have HROW := Lib.hid hrow
      have HOWN := Lib.hid hown
      have HB := Lib.hid hB
      have HU := Lib.hid hU
      have HOL := Lib.hid hol
      clear hrow hown hB hU hol hsn hc0
      go_wp2_with (at_builtin; go_must (refine wpList_app1 rfl _ _ 34 rfl 3 (.int .i64 0) 8 Tryz.underlying34 info_int rfl _ (ints (toI (t.data.toList.take r))) r HOL.out rfl W2 (.int .i64 ((c0.toNat : Nat) : Int)) ⟨rfl, rfl, rfl⟩ HROW.out rfl rfl (by omega) (by omega) ?_); intro g cap w3 hR3 hU3 hg3 hgs3)
      have hg : w.heap.size < g := by
        rcases hg3 with e | e
        · exact HOWN.out g e
        · have := HB.out.lt; omega
      refine ⟨?rel, ?measure⟩
      case rel =>
        refine ⟨r + 1, by omega, by go_num, ?_, ?_, ?_, ?_⟩
        · rw [HSN.out, ints_app]
          exact hR3
        · intro k hk
          simp [Value.ownBlock] at hk
          rw [← hk]
          exact hg
        · exact HB.out.upd hU3 (fun h2 => absurd (HOWN.out _ h2) (by omega))
        · exact HU.out.trans hU3 (fun k h1 h2 => absurd (HOWN.out k h2) (by omega))
      case measure => simp [intOf]; omega
    · obtain rfl : r = m := by omega
      rw [List.take_of_length_le (by rw [HML.out]; exact Nat.le_refl _)] at hrow
      have HE := Lib.hid (HEN.out W2 _ hU hrow hown)
      clear hrow hown hB hU hol HEN
      go_upto_region 10 with (go_at_call 36; refine HE.out.mono ?_; rintro e w3 ⟨oa3, oc3, rfl, hR3⟩)
      have HP := Lib.hid (HPR.out w3 oa oc hR3)
      clear hR3 HE HPR
      go_upto_region 13 with (go_at_call 36; refine HP.out.mono ?_; rintro e w4 ⟨oa4, oc4, rfl, hR4⟩)
      have HWW := Lib.hid (HW.out w4 hR4)
      clear hR4 HP HW
      go_wp2_with (go_at_call 95; refine HWW.out.mono ?_; rintro e w5 ⟨rfl, hR5⟩)
      go_ret
      exact ⟨rfl, hR5⟩
theorem image_at (x : Int) (w : World) : Calls Tryz.prog 59 #[.int .i64 x] w fun e w' => e = .returned (.bool (decide (0 ≤ x ∧ x < 2048))) ∧ w = w' := by
  by_cases h1 : 0 ≤ x
  · by_cases h2 : x < 2048
    · rw [decide_eq_true (⟨h1, h2⟩ : 0 ≤ x ∧ x < 2048)]
      go_enter Tryz.func59, Tryz.ntmps59
      go_wp2
      go_ret
      exact ⟨rfl, rfl⟩
    · rw [decide_eq_false (by omega : ¬ (0 ≤ x ∧ x < 2048))]
      go_enter Tryz.func59, Tryz.ntmps59
      go_wp2
      go_ret
      exact ⟨rfl, rfl⟩
  · rw [decide_eq_false (by omega : ¬ (0 ≤ x ∧ x < 2048))]
    go_enter Tryz.func59, Tryz.ntmps59
    go_wp2
    go_ret
    exact ⟨rfl, rfl⟩
theorem pages_no (a n : Int) (h : fmayB a n = false) (w : World) :
    Calls Tryz.prog 30 #[.int .i64 a, .int .i64 n] w fun e w' => e = .returned (.tuple #[.slice none 0 0, .int .i64 1700]) ∧ w = w' := by
  have hm := fetch_may a n
  rw [h] at hm
  go_enter Tryz.func30, Tryz.ntmps30
  go_wp2_with (go_at_call 61; refine (hm _).mono ?_; rintro e w1 ⟨rfl, rfl⟩)
  go_ret2
  exact ⟨rfl, rfl⟩
theorem burn_nil (a : Int) (t : ByteArray) (w : World) :
    Calls Tryz.prog 29 #[.pointer none, .int .i64 a, .string t] w fun e w' => e = .returned (.int .i64 1) ∧ w = w' := by
  go_enter Tryz.func29, Tryz.ntmps29
  go_wp2
  go_ret
  exact ⟨rfl, rfl⟩
theorem burn_no (k : Nat) (a : Int) (t : ByteArray) (h : fmayB a (t.size : Int) = false) (w : World) :
    Calls Tryz.prog 29 #[.pointer (some ⟨k, 0, none⟩), .int .i64 a, .string t] w fun e w' => e = .returned (.int .i64 1700) ∧ w = w' := by
  have hm := pages_no a (t.size : Int) h
  clear h
  go_enter Tryz.func29, Tryz.ntmps29
  go_wp2_with (go_at_call 30; refine (hm _).mono ?_; rintro e w1 ⟨rfl, rfl⟩)
  go_ret
  exact ⟨rfl, rfl⟩
theorem burn_image (k : Nat) (a : Nat) (t : ByteArray) (hl : t.size ≤ 512) (ha : a + t.size ≤ 4096) (h1 : 1 ≤ t.size) (h2 : a < 2048) (w : World) :
    Calls Tryz.prog 29 #[.pointer (some ⟨k, 0, none⟩), .int .i64 (a : Int), .string t] w fun e w' => e = .returned (.int .i64 1701) ∧ Upd none' w w' := by
  have hm := pages_ok a t.size hl ha
  have hi := image_at (a : Int)
  rw [decide_eq_true (by omega : 0 ≤ (a : Int) ∧ (a : Int) < 2048)] at hi
  have hne := str_nonempty t h1
  go_enter Tryz.func29, Tryz.ntmps29
  go_wp2_with (first | (go_at_call 59; refine (hi _).mono ?_; rintro e w2 ⟨rfl, rfl⟩) | (go_at_call 30; refine (hm _).mono ?_; rintro e w1 ⟨v, rfl, hrow, hown, hU⟩))
  go_ret
  exact ⟨rfl, hU⟩
theorem burn_empty (k : Nat) (a : Nat) (ha : a ≤ 4096) (w : World) :
    Calls Tryz.prog 29 #[.pointer (some ⟨k, 0, none⟩), .int .i64 (a : Int), .string ⟨#[]⟩] w fun e w' => e = .returned (.int .i64 0) ∧ Upd none' w w' := by
  have hm := pages_ok a 0 (by omega) (by omega)
  rw [pagesL_zero] at hm
  go_enter Tryz.func29, Tryz.ntmps29
  go_wp2_with (go_at_call 30; refine (hm _).mono ?_; rintro e w1 ⟨v, rfl, hrow, hown, hU⟩; obtain ⟨oa, oc, rfl, -⟩ := hrow.form)
  clear hm
  go_loopw [34] (fun iv wr => iv = .int .i64 0 ∧ Upd none' w wr) (fun _ _ => 0)
  case atStart => exact ⟨rfl, hU⟩
  case round =>
    obtain ⟨rfl, hU2⟩ := hrel
    go_wp2
    go_ret
    exact ⟨rfl, hU2⟩
end Go.Proofs.YtkjdhkpkcepilaaGreat
