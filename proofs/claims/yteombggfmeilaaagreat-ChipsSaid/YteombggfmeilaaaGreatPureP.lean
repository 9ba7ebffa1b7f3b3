/- A page that is programmed, in plain. -/
import Derived.Test.YteombggfmeilaaaGreatPure
import Derived.Test.YteombggfmeilaaaGreatBlank
namespace Go.Proofs.YteombggfmeilaaaGreat
open Go.RowKit
theorem cutA (old d : UInt8) : old &&& ~~~((255 : UInt8) &&& ~~~d) = old &&& d := by
  have h : (255 : UInt8) &&& ~~~d = ~~~d := by
    apply UInt8.toNat_inj.1
    rw [UInt8.toNat_and]
    exact Nat.and_two_pow_sub_one_of_lt_two_pow (n := 8) (by exact (~~~d).toNat_lt) |> fun e => by rw [Nat.and_comm]; exact e
  rw [h, UInt8.not_not]
theorem andA (x : UInt8) : x &&& 255 = x := by
  apply UInt8.toNat_inj.1
  rw [UInt8.toNat_and]
  exact Nat.and_two_pow_sub_one_of_lt_two_pow (n := 8) x.toNat_lt
theorem maskA (i : Nat) : maskAt all255 i = 255 := by
  unfold maskAt
  rw [if_neg (by decide), show all255.size = 1 from rfl, Nat.mod_one]
  rfl
theorem turnedA (a : ByteArray) (lo n j : Nat) (turn : Nat → UInt8 → UInt8) (h : j < a.size) : (turned a lo n turn).data.toList.getD j 0 = if lo ≤ j ∧ j < lo + n then turn (j - lo) (a.data.toList.getD j 0) else a.data.toList.getD j 0 := by
  have hl : j < a.data.toList.length := h
  unfold turned
  simp only [List.getD_eq_getElem?_getD, List.getElem?_mapIdx, List.getElem?_eq_getElem hl, Option.map_some, Option.getD_some]
/-- A page that takes data. -/
def St.inn (s : St) (A : Int) (d : List Int) : St := { s with sel := true, op := opOf 2, stage := 5, left := 8, got := 0, addr := A, mode := 0, moded := false, data := d, told := 0, now := 0, beyond := false }
theorem inn_head (s : St) (hg : s.goes = false) (hj : s.job = none) (k : Int) : runI s.select (wordL [2, 0, k / 256, k % 256]) = (s.inn (addrOf k) [], List.replicate 32 15) := by
  obtain ⟨a, prot, quad, wipes, tabled, sel, en, goes, job, busy, op, stage, left, got, addr, mode, moded, data, told, now, beyond⟩ := s
  change goes = false at hg
  change job = none at hj
  subst hg
  subst hj
  kernel_rfl
theorem inn_byte (s : St) (A : Int) (d : List Int) (b : Int) : runI (s.inn A d) (byteBits b) = (s.inn A (d ++ [byteIn b]), List.replicate 8 15) := by
  obtain ⟨a, prot, quad, wipes, tabled, sel, en, goes, job, busy, op, stage, left, got, addr, mode, moded, data, told, now, beyond⟩ := s
  kernel_rfl
theorem byteInA (x : Int) (h : 0 ≤ x ∧ x ≤ 255) : byteIn x = x := by
  unfold byteIn
  rw [bitsOn_byte 0 x h]
  omega
theorem inn_word (s : St) (A : Int) (bs : List Int) : ∀ d : List Int, (∀ x ∈ bs, 0 ≤ x ∧ x ≤ 255) → (runI (s.inn A d) (wordL bs)).1 = s.inn A (d ++ bs) := by
  induction bs with
  | nil => intro d _; rw [List.append_nil]; rfl
  | cons b bs ih =>
    intro d hb
    rw [wordL_cons, runI_app, inn_byte, byteInA b (hb b (List.mem_cons.2 (.inl rfl)))]
    dsimp only
    rw [ih (d ++ [b]) (fun x hx => hb x (List.mem_cons.2 (.inr hx))), List.append_assoc]
    rfl
theorem pg_run (s : St) (hg : s.goes = false) (hj : s.job = none) (k : Int) (hk : 0 ≤ k ∧ k < 4096) (bs : List Int) (hb : ∀ x ∈ bs, 0 ≤ x ∧ x ≤ 255) : (s.said (wordL ([2, 0, k / 256, k % 256] ++ bs))).1 = (s.inn k bs).deselect := by
  have hw : s.select.works = false := by
    rw [select_eq, hg]
    show s.works = false
    unfold St.works
    rw [hj]
  show (runC s.select _).1.deselect = _
  rw [runC_still _ _ hw (select_sel s), wordL_app, runI_app, inn_head s hg hj, addrOf_eq k hk]
  dsimp only
  rw [inn_word s k bs [] hb, List.nil_append]
theorem inn_none (s : St) (A : Int) : (s.inn A []).deselect = { (s.inn A []) with sel := false } := by
  obtain ⟨a, prot, quad, wipes, tabled, sel, en, goes, job, busy, op, stage, left, got, addr, mode, moded, data, told, now, beyond⟩ := s
  kernel_rfl
theorem inn_end (s : St) (hen : s.en = true) (hp : s.prot = false) (D : Int) (hb : s.busy = [D]) (A x : Int) (xs : List Int) : ((s.inn A (x :: xs)).deselect).sel = false ∧ ((s.inn A (x :: xs)).deselect).job = some ⟨-1, A - A % 32, ⟨(pageOf A (x :: xs)).toArray⟩, D, false⟩ ∧ ((s.inn A (x :: xs)).deselect).en = true ∧ ((s.inn A (x :: xs)).deselect).prot = false ∧ ((s.inn A (x :: xs)).deselect).quad = s.quad ∧ ((s.inn A (x :: xs)).deselect).a = s.a := by
  obtain ⟨a, prot, quad, wipes, tabled, sel, en, goes, job, busy, op, stage, left, got, addr, mode, moded, data, told, now, beyond⟩ := s
  change en = true at hen
  change prot = false at hp
  change busy = [D] at hb
  subst hen
  subst hp
  subst hb
  refine ⟨?_, ?_, ?_, ?_, ?_, ?_⟩
  all_goals kernel_rfl
theorem pass_wait (s : St) (j : Job) (hj : s.job = some j) (hu : j.susp = false) (hl : 1 < j.left) : s.pass = s.tk 1 := by
  obtain ⟨sec, page, data, left, susp⟩ := j
  change susp = false at hu
  subst hu
  unfold St.pass St.tk
  rw [hj]
  dsimp only at hl ⊢
  rw [if_neg (by decide), if_neg (by omega)]
  rfl
theorem pass_last (s : St) (j : Job) (hj : s.job = some j) (hu : j.susp = false) (hl : j.left = 1) : s.pass = { s with a := j.cells s.a all255, job := none, en := false } := by
  obtain ⟨sec, page, data, left, susp⟩ := j
  change susp = false at hu
  change left = 1 at hl
  subst hu
  subst hl
  unfold St.pass
  rw [hj]
  dsimp only
  rw [if_neg (by decide), if_pos (by decide)]
theorem clock_off (s : St) (hs : s.sel = false) (x : Int) : s.clock x = (s.pass, 15) := by
  unfold St.clock
  dsimp only
  rw [(pass_keeps s).2.2, hs, if_neg (by decide)]
theorem wait_clock (s : St) (j : Job) (hj : s.job = some j) (hu : j.susp = false) (hs : s.sel = false) (hl : 1 < j.left) (x : Int) : s.clock x = (s.tk 1, 15) := by
  rw [clock_off s hs, pass_wait s j hj hu hl]
theorem last_clock (s : St) (j : Job) (hj : s.job = some j) (hu : j.susp = false) (hs : s.sel = false) (hl : j.left = 1) (x : Int) : s.clock x = ({ s with a := j.cells s.a all255, job := none, en := false }, 15) := by
  rw [clock_off s hs, pass_last s j hj hu hl]
/-- The cells behind a program. -/
def wantN (a : ByteArray) (k : Int) (ds : List Int) : List UInt8 := (progCut a (k - k % 32).toNat ⟨(pageOf k ds).toArray⟩ all255).data.toList
theorem wantN_len (a : ByteArray) (k : Int) (ds : List Int) : (wantN a k ds).length = a.size := by
  have := turned_size a (k - k % 32).toNat (⟨(pageOf k ds).toArray⟩ : ByteArray).size fun i old => old &&& ~~~(maskAt all255 i &&& ~~~((⟨(pageOf k ds).toArray⟩ : ByteArray).data.toList.getD i 0))
  exact this
theorem wantN_at (a : ByteArray) (k : Int) (ds : List Int) (j : Nat) (hj : j < a.size) : (wantN a k ds).getD j 0 = if (k - k % 32).toNat ≤ j ∧ j < (k - k % 32).toNat + 32 then a.data.toList.getD j 0 &&& (pageOf k ds).getD (j - (k - k % 32).toNat) 0 else a.data.toList.getD j 0 := by
  have hsz : (⟨(pageOf k ds).toArray⟩ : ByteArray).size = 32 := page_len _ _
  unfold wantN progCut
  rw [turnedA _ _ _ _ _ hj, hsz]
  split
  · rw [maskA, cutA]
  · rfl
theorem ext_getD (xs ys : List UInt8) (hl : xs.length = ys.length) (h : ∀ j, j < xs.length → xs.getD j 0 = ys.getD j 0) : xs = ys := by
  refine List.ext_getElem hl fun j h1 h2 => ?_
  have := h j h1
  simpa [List.getD_eq_getElem?_getD, List.getElem?_eq_getElem h1, List.getElem?_eq_getElem h2] using this
theorem getD_rep (n i : Nat) (v : UInt8) (h : i < n) : (List.replicate n v).getD i 0 = v := by
  rw [List.getD_eq_getElem?_getD, List.getElem?_replicate, if_pos h]
  rfl
theorem getD_set (l : List UInt8) (n i : Nat) (v : UInt8) (hn : n < l.length) : (l.set n v).getD i 0 = if n = i then v else l.getD i 0 := by
  rw [List.getD_eq_getElem?_getD, List.getElem?_set]
  by_cases h : n = i
  · rw [if_pos h, if_pos h, if_pos hn]
    rfl
  · rw [if_neg h, if_neg h, ← List.getD_eq_getElem?_getD]
theorem page_blank (k : Int) (n : Nat) : ∀ (ds : List Int) (m : Nat), ds.length = n → n ≤ m → m < 32 → (pageOf k ds).getD ((k + (m : Int)) % 32).toNat 0 = 255 := by
  induction n with
  | zero =>
    intro ds m h0 _ hm
    obtain rfl : ds = [] := List.eq_nil_of_length_eq_zero h0
    exact getD_rep 32 _ 255 (by omega)
  | succ n ih =>
    intro ds m h0 h1 hm
    have hne : ds ≠ [] := by rintro rfl; simp at h0
    have hcat := List.dropLast_concat_getLast hne
    have hdl : ds.dropLast.length = n := by rw [List.length_dropLast]; omega
    rw [← hcat, page_snoc, getD_set _ _ _ _ (by rw [page_len]; omega), if_neg (by rw [hdl]; omega)]
    exact ih _ m hdl (by omega) hm
theorem wantN_nil (a : ByteArray) (k : Int) : wantN a k [] = a.data.toList := by
  refine ext_getD _ _ (wantN_len a k []) fun j hj => ?_
  rw [wantN_len] at hj
  rw [wantN_at a k [] j hj]
  split
  · rename_i h
    rw [show (pageOf k []) = List.replicate 32 255 from rfl, getD_rep 32 _ 255 (by omega), andA]
  · rfl
theorem wantN_snoc (a : ByteArray) (ha : a.size = 4096) (k : Int) (hk : 0 ≤ k ∧ k < 4096) (ds : List Int) (x : Int) (hl : ds.length < 32) (q : Nat) (hq : (q : Int) = k - k % 32 + (k + (ds.length : Int)) % 32) : wantN a k (ds ++ [x]) = (wantN a k ds).set q ((wantN a k ds).getD q 0 &&& UInt8.ofNat (x % 256).toNat) := by
  refine ext_getD _ _ (by rw [List.length_set, wantN_len, wantN_len]) fun j hj => ?_
  rw [wantN_len] at hj
  rw [getD_set _ _ _ _ (by rw [wantN_len]; omega), wantN_at a k _ j hj, page_snoc]
  by_cases hqj : q = j
  · subst hqj
    rw [if_pos rfl, if_pos (by omega), wantN_at a k ds q hj, if_pos (by omega), getD_set _ _ _ _ (by rw [page_len]; omega), if_pos (by omega)]
    have hb := page_blank k ds.length ds ds.length rfl (Nat.le_refl _) hl
    rw [show q - (k - k % 32).toNat = ((k + (ds.length : Int)) % 32).toNat by omega, hb, andA]
  · rw [if_neg hqj, wantN_at a k ds j hj]
    split
    · rw [getD_set _ _ _ _ (by rw [page_len]; omega), if_neg (by omega)]
    · rfl
end Go.Proofs.YteombggfmeilaaaGreat
