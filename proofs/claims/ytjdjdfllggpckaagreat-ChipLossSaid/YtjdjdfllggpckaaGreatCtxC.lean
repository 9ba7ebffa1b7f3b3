/- A chip among what a law holds: the calls on it. -/
import Derived.Test.YtjdjdfllggpckaaGreatCtx
import Derived.Test.YtjdjdfllggpckaaGreatSay
import Derived.Test.YtjdjdfllggpckaaGreatWord
import Derived.Test.YtjdjdfllggpckaaGreatFresh
import Derived.Test.YtjdjdfllggpckaaGreatLaw0
namespace Go.Proofs.YtjdjdfllggpckaaGreat
open Go.RowKit
def ChipP (b : Nat) (s : St) (N : Int) : Own := fun w S => ChipAt w b s S ∧ s.InvW N
theorem chipP_ok (b : Nat) (s : St) (N : Int) : (ChipP b s N).Ok := ⟨fun h u hT => ⟨h.1.upd u hT, h.2⟩, fun h => h.1.lt⟩
theorem RS.len {w : World} {a : Option Addr} {n c : Nat} {vs : List Value} (h : RS w (.slice a n c) vs) : n = vs.length ∧ n ≤ c := by
  obtain ⟨h1, a', cap, e, h4, h5⟩ := h
  simp only [Value.slice.injEq] at e
  obtain ⟨rfl, rfl, rfl⟩ := e
  exact ⟨rfl, h4⟩
theorem row_new {w w' : World} {S : Nat → Prop} {e : TypeId} {v : Value} {vs : List Value} (h : Row w' e v vs) (hl : vs.length ≤ 1048576) (hn : ∀ k, v.ownBlock = some k → w.heap.size ≤ k ∧ ¬ S k) : RowNew w w' S (v, vs) :=
  ⟨h.rs hl, fun k hk => ⟨(hn k hk).1, h.lt k hk, (hn k hk).2⟩⟩
theorem byteBits_len (x : Int) : (byteBits x).length = 8 := rfl
theorem wordL_len (l : List Int) : (wordL l).length = 8 * l.length := by
  induction l with
  | nil => rfl
  | cons x l ih => unfold wordL at ih ⊢; rw [List.flatMap_cons, List.length_append, ih, byteBits_len, List.length_cons]; omega
theorem c_word {P Q : Own} {w0 w : World} {rows : List (Value × List Value)} (hC : Ctx P Q w0 w rows) (i : Nat) (a : Option Addr) (m c : Nat) (bs : List Int) (hi : rows[i]? = some (.slice a m c, ints bs)) (n : Nat) (hn : 8 * m = n) (hl : m ≤ 65536) (hb : ∀ x ∈ bs, 0 ≤ x ∧ x ≤ 255) :
    Calls Tryz.prog 16 #[.slice a m c] w fun e w' => ∃ a' c', e = .returned (.slice a' n c') ∧ (a' = none → c' = 0) ∧ Ctx P Q w0 w' ((.slice a' n c', ints (wordL bs)) :: rows) := by
  have hrs := hC.rs i hi
  have hlen := hrs.len.1
  rw [ints_len] at hlen
  refine (hC.quiet (X := fun e news => ∃ a' c', e = .returned (.slice a' n c') ∧ (a' = none → c' = 0) ∧ news = [(.slice a' n c', ints (wordL bs))]) ((law_word w _ bs hrs (by omega) hb).mono ?_)).mono ?_
  · rintro e w' ⟨v', rfl, hR, hf, hU⟩
    obtain ⟨a', c', rfl, -, hn', -⟩ := hR.form
    have hL : (ints (wordL bs)).length = n := by rw [ints_len, wordL_len]; omega
    rw [hL] at hR hf ⊢
    refine ⟨_, ⟨a', c', rfl, fun h => (hn' h).2, rfl⟩, fun r hr => ?_, hU⟩
    obtain rfl := List.mem_singleton.1 hr
    exact row_new hR (by omega) (fun k hk => ⟨hf k hk, fun f => f⟩)
  · rintro e w' ⟨news, ⟨a', c', rfl, h1, rfl⟩, h2⟩
    exact ⟨a', c', rfl, h1, h2⟩
theorem c_wordl {P Q : Own} {w0 w : World} {rows : List (Value × List Value)} (hC : Ctx P Q w0 w rows) (bs : List Int) (m n : Nat) (hm : bs.length = m) (hn : 8 * m = n) (hl : m ≤ 65536) (hb : ∀ x ∈ bs, 0 ≤ x ∧ x ≤ 255) :
    Calls Tryz.prog 16 #[.slice (some ⟨w.heap.size, 0, none⟩) m m] (w.alloc (.cells (ints bs).toArray 3)) fun e w' => ∃ a' c', e = .returned (.slice a' n c') ∧ (a' = none → c' = 0) ∧ Ctx P Q w0 w' ((.slice a' n c', ints (wordL bs)) :: rows) := by
  have h := hC.lit (ints bs) 3 m (by rw [ints_len]; exact hm) (by omega)
  refine (c_word h 0 _ m m bs rfl n hn hl hb).mono ?_
  rintro e w' ⟨a', c', rfl, h1, h2⟩
  refine ⟨a', c', rfl, h1, h2.sub fun r hr => ?_⟩
  rcases List.mem_cons.1 hr with h | h
  · exact List.mem_cons.2 (.inl h)
  · exact List.mem_cons.2 (.inr (List.mem_cons.2 (.inr h)))
theorem c_quiet {P Q : Own} {w0 w : World} {rows : List (Value × List Value)} (hC : Ctx P Q w0 w rows) (i : Nat) (a : Option Addr) (m c : Nat) (xs : List Int) (hi : rows[i]? = some (.slice a m c, ints xs)) (hc : a = none → c = 0) (k : Nat) (x : Int) (hx : x = (k : Int)) (n : Nat) (hn : m + k = n) (hl : n ≤ 1048576) :
    Calls Tryz.prog 15 #[.slice a m c, .int .i64 x] w fun e w' => ∃ a' c', e = .returned (.slice a' n c') ∧ (a' = none → c' = 0) ∧ Ctx P Q w0 w' ((.slice a' n c', ints (xs ++ List.replicate k 15)) :: rows) := by
  subst hx
  have hrs := hC.rs i hi
  have hlen := hrs.len.1
  rw [ints_len] at hlen
  refine (hC.quiet (X := fun e news => ∃ a' c', e = .returned (.slice a' n c') ∧ (a' = none → c' = 0) ∧ news = [(.slice a' n c', ints (xs ++ List.replicate k 15))]) ((law_quiet w a m c xs k hrs hc (by omega) (by omega)).mono ?_)).mono ?_
  · rintro e w' ⟨v', rfl, hR, hf, hU⟩
    obtain ⟨a', c', rfl, -, hn', -⟩ := hR.form
    have hL : (ints (xs ++ List.replicate k 15)).length = n := by rw [ints_len, List.length_append, List.length_replicate]; omega
    rw [hL] at hR hf ⊢
    refine ⟨_, ⟨a', c', rfl, fun h => (hn' h).2, rfl⟩, fun r hr => ?_, hU⟩
    obtain rfl := List.mem_singleton.1 hr
    exact row_new hR (by omega) (fun k hk => ⟨hf k hk, fun f => f⟩)
  · rintro e w' ⟨news, ⟨a', c', rfl, h1, rfl⟩, h2⟩
    exact ⟨a', c', rfl, h1, h2⟩
theorem c_say {Q : Own} {w0 w : World} {b : Nat} {s : St} {N : Int} {rows : List (Value × List Value)} (hC : Ctx (ChipP b s N) Q w0 w rows) (i : Nat) (a : Option Addr) (m c : Nat) (xs : List Int) (hi : rows[i]? = some (.slice a m c, ints xs)) (hN : N + m ≤ 1048575) (hsel : s.sel = false) (hx : ∀ x ∈ xs, 0 ≤ x ∧ x ≤ 15) (t : St) (ys : List Int) (ht : s.said xs = (t, ys)) :
    Calls Tryz.prog 14 #[.pointer (some ⟨b, 0, none⟩), .slice a m c] w fun e w' => ∃ a' c', e = .returned (.slice a' m c') ∧ (a' = none → c' = 0) ∧ Ctx (ChipP b t (N + m + 1)) Q w0 w' ((.slice a' m c', ints ys) :: rows) := by
  have hlen := (hC.rs i hi).len.1
  rw [ints_len] at hlen
  have e1 : (s.said xs).1 = t := by rw [ht]
  have e2 : (s.said xs).2 = ys := by rw [ht]
  refine (hC.run (X := fun e news => ∃ a' c', e = .returned (.slice a' m c') ∧ (a' = none → c' = 0) ∧ news = [(.slice a' m c', ints ys)]) (chipP_ok b t (N + m + 1)) (fun S hP hr _ => (law_say b s S w hP.1 N hP.2 _ xs (hr _ (List.mem_of_getElem? hi)).1 (fun k hk => ((hr _ (List.mem_of_getElem? hi)).2 k hk).2) (by omega) hsel hx).mono ?_)).mono ?_
  · rintro e w' ⟨v', S', rfl, hR, hf, hA, hS, hU⟩
    rw [e2] at hR
    rw [e1] at hA
    obtain ⟨a', c', rfl, -, hn', -⟩ := hR.form
    have hyl : ys.length = m := by rw [← e2]; show (runC s.select xs).2.length = m; rw [runC_len]; omega
    have hL : (ints ys).length = m := by rw [ints_len, hyl]
    rw [hL] at hR hf ⊢
    have hinv := said_inv hP.2 xs
    have h0N := hP.2.1.told
    rw [e1] at hinv
    refine ⟨S', _, ⟨a', c', rfl, fun h => (hn' h).2, rfl⟩, fun r hr => ?_, ⟨hA, by rw [← hlen] at hinv; exact hinv⟩, hS, hU⟩
    obtain rfl := List.mem_singleton.1 hr
    exact row_new hR (by omega) hf
  · rintro e w' ⟨news, ⟨a', c', rfl, h1, rfl⟩, h2⟩
    exact ⟨a', c', rfl, h1, h2⟩
theorem c_status {Q : Own} {w0 w : World} {b : Nat} {s : St} {N : Int} {rows : List (Value × List Value)} (hC : Ctx (ChipP b s N) Q w0 w rows) (p q : Int) (hp : s.first = p) (hq : s.second = q) :
    Calls Tryz.prog 20 #[.pointer (some ⟨b, 0, none⟩)] w fun e w' => e = .returned (.tuple #[.int .i64 p, .int .i64 q]) ∧ Ctx (ChipP b s N) Q w0 w' rows := by
  obtain ⟨S, ⟨A, B, hA, _⟩, _⟩ := hC.all
  refine (chip_stat b s A w hA.1).mono ?_
  rintro e w' ⟨rfl, hU⟩
  rw [hp, hq]
  exact ⟨rfl, hC.frame hU⟩
theorem c_cells {Q : Own} {w0 w : World} {b : Nat} {s : St} {N : Int} {rows : List (Value × List Value)} (hC : Ctx (ChipP b s N) Q w0 w rows) (a : ByteArray) (ha : s.a = a) :
    Calls Tryz.prog 13 #[.pointer (some ⟨b, 0, none⟩)] w fun e w' => e = .returned (.string a) ∧ w = w' := by
  obtain ⟨S, ⟨A, B, hA, _⟩, _⟩ := hC.all
  rw [← ha]
  exact chip_cells b s A w hA.1
/-- A call on the chip that gives a number, or two. -/
theorem c_post {Q : Own} {w0 w : World} {b : Nat} {s : St} {N M : Int} {rows : List (Value × List Value)} (hC : Ctx (ChipP b s N) Q w0 w rows) (t : St) {f : Nat} {args : Array Value} {r : Ending} (hM : s.InvW N → t.InvW M)
    (h : ∀ S, ChipAt w b s S → s.InvW N → Calls Tryz.prog f args w fun e w' => e = r ∧ ChipPost b t S w w') :
    Calls Tryz.prog f args w fun e w' => e = r ∧ Ctx (ChipP b t M) Q w0 w' rows := by
  refine (hC.run (X := fun e news => e = r ∧ news = []) (chipP_ok b t M) (fun S hP _ _ => (h S hP.1 hP.2).mono ?_)).mono ?_
  · rintro e w' ⟨rfl, S', hA, hS, hU⟩
    exact ⟨S', [], ⟨rfl, rfl⟩, fun r hr => by simp at hr, ⟨hA, hM hP.2⟩, hS, hU⟩
  · rintro e w' ⟨news, ⟨rfl, rfl⟩, h2⟩
    exact ⟨rfl, h2⟩
theorem c_clock {Q : Own} {w0 w : World} {b : Nat} {s : St} {N : Int} {rows : List (Value × List Value)} (hC : Ctx (ChipP b s N) Q w0 w rows) (x : Int) (hx : 0 ≤ x ∧ x ≤ 15) (hN : N ≤ 1048575) (t : St) (y : Int) (ht : s.clock x = (t, y)) :
    Calls Tryz.prog 19 #[.pointer (some ⟨b, 0, none⟩), .int .i64 x] w fun e w' => e = .returned (.tuple #[.int .i64 y, .int .i64 0]) ∧ Ctx (ChipP b t (N + 1)) Q w0 w' rows := by
  have e1 : (s.clock x).1 = t := by rw [ht]
  have e2 : (s.clock x).2 = y := by rw [ht]
  refine c_post hC t (fun h => by rw [← e1]; exact clock_invW h x) (fun S hA hI => ?_)
  rw [← e1, ← e2]
  exact chip_clockW table_said b x s S w hA N hI (by omega) hx
theorem c_nextl {Q : Own} {w0 w : World} {b : Nat} {s : St} {N : Int} {rows : List (Value × List Value)} (hC : Ctx (ChipP b s N) Q w0 w rows) (xs : List Int) (m : Nat) (hm : xs.length = m) (h1 : 1 ≤ m) (h16 : m ≤ 16) (hb : ∀ x ∈ xs, 1 ≤ x ∧ x ≤ 400) :
    Calls Tryz.prog 18 #[.pointer (some ⟨b, 0, none⟩), .slice (some ⟨w.heap.size, 0, none⟩) m m] (w.alloc (.cells (ints xs).toArray 3)) fun e w' => e = .returned (.int .i64 0) ∧ Ctx (ChipP b { s with busy := xs } N) Q w0 w' rows := by
  have h := hC.lit (ints xs) 3 m (by rw [ints_len]; exact hm) (by omega)
  have hrs := h.rs 0 rfl
  have hba : xs.any badD = false := by
    rw [List.any_eq_false]
    intro x hx
    have := hb x hx
    simp only [badD, decide_eq_true_eq]
    omega
  refine (c_post h { s with busy := xs } (M := N) (fun hI => ⟨⟨hI.1.size, hI.1.job, hI.1.addr, hI.1.told, hI.1.len, hI.1.data, hI.1.now, hI.1.mode, hI.1.op, hI.1.wipes, ⟨by show xs.length ≤ 16; omega, hb⟩⟩, hI.2⟩) (fun S hA _ => chip_next b s S _ hA _ xs hrs (by rintro rfl; simp at hm; omega) (by omega) hba)).mono ?_
  rintro e w' ⟨rfl, h2⟩
  exact ⟨rfl, h2.sub fun r hr => List.mem_cons.2 (.inr hr)⟩
theorem c_fresh {w0 w : World} (h : Upd none' w0 w) (s : ByteArray) (hs : s.size ≤ 9223372036854775807) (fa : ByteArray) (hfa : (⟨(freshL s).toArray⟩ : ByteArray) = fa) :
    Calls Tryz.prog 12 #[.string s] w fun e w' => ∃ b, e = .returned (.pointer (some ⟨b, 0, none⟩)) ∧ Ctx (ChipP b (St.new fa) 0) .emp w0 w' [] := by
  refine (law_fresh s w hs).mono ?_
  rintro e w' ⟨b, S, rfl, hA, hS, hU⟩
  rw [hfa] at hA
  have hsz : fa.size = 4096 := by rw [← hfa]; simpa [ByteArray.size] using freshL_len s
  exact ⟨b, rfl, chipP_ok _ _ _, Own.emp_ok, h.trans hU (fun _ _ f => f), S, ⟨S, none', ⟨hA, new_inv fa hsz⟩, fun _ f => f, fun _ _ f => f, fun k => ⟨.inl, fun h => h.elim (fun x => x) (fun f => f.elim)⟩⟩, fun k hk => Nat.le_trans h.size (hS k hk), fun r hr => by simp at hr⟩
end Go.Proofs.YtjdjdfllggpckaaGreat
