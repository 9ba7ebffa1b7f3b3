/- A chip among what a law holds: its own calls. -/
import Derived.Test.YtbflnpkgbpckfaaGreatCtx
import Derived.Test.YtbflnpkgbpckfaaGreatSayP
import Derived.Test.YtbflnpkgbpckfaaGreatTable
namespace Go.Proofs.YtbflnpkgbpckfaaGreat
open Go.RowKit
def ChipP (b : Nat) (s : St) (N : Int) : Own := fun w S => ChipAt w b s S ∧ s.InvW N
theorem chipP_ok (b : Nat) (s : St) (N : Int) : (ChipP b s N).Ok := ⟨fun h u hT => ⟨h.1.upd u hT, h.2⟩, fun h => h.1.lt⟩
theorem RS.len {w : World} {a : Option Addr} {n c : Nat} {vs : List Value} (h : RS w (.slice a n c) vs) : n = vs.length ∧ n ≤ c := by
  obtain ⟨h1, a', cap, e, h4, h5⟩ := h
  simp only [Value.slice.injEq] at e
  obtain ⟨rfl, rfl, rfl⟩ := e
  exact ⟨rfl, h4⟩
theorem row_new {w w' : World} {S : Nat → Prop} {e : TypeId} {v : Value} {vs : List Value} (h : Row w' e v vs) (hl : vs.length ≤ 1048576) (hn : ∀ k, v.ownBlock = some k → w.heap.size ≤ k ∧ ¬ S k) : RowNew w w' S (v, vs) :=
  ⟨h.rs hl, fun k hk => ⟨(hn k hk).1, h.lt k hk, (hn k hk).2⟩⟩
theorem c_status {Q : Own} {w0 w : World} {b : Nat} {s : St} {N : Int} {rows : List (Value × List Value)} (hC : Ctx (ChipP b s N) Q w0 w rows) (p q : Int) (hp : s.first = p) (hq : s.second = q) :
    Calls Tryz.prog 65 #[.pointer (some ⟨b, 0, none⟩)] w fun e w' => e = .returned (.tuple #[.int .i64 p, .int .i64 q]) ∧ Ctx (ChipP b s N) Q w0 w' rows := by
  obtain ⟨S, ⟨A, B, hA, _⟩, _⟩ := hC.all
  refine (chip_stat b s A w hA.1).mono ?_
  rintro e w' ⟨rfl, hU⟩
  rw [hp, hq]
  exact ⟨rfl, hC.frame hU⟩
theorem c_cells {Q : Own} {w0 w : World} {b : Nat} {s : St} {N : Int} {rows : List (Value × List Value)} (hC : Ctx (ChipP b s N) Q w0 w rows) (a : ByteArray) (ha : s.a = a) :
    Calls Tryz.prog 20 #[.pointer (some ⟨b, 0, none⟩)] w fun e w' => e = .returned (.string a) ∧ w = w' := by
  obtain ⟨S, ⟨A, B, hA, _⟩, _⟩ := hC.all
  rw [← ha]
  exact chip_cells b s A w hA.1
/-- A call on the chip that gives a number, or two. -/
theorem c_post {Q : Own} {w0 w : World} {b : Nat} {s : St} {N M : Int} {rows : List (Value × List Value)} (hC : Ctx (ChipP b s N) Q w0 w rows) (t : St) {f : Nat} {args : Array Value} {r : Ending} (hM : s.InvW N → t.InvW M)
    (h : ∀ S, ChipAt w b s S → s.InvW N → Calls Tryz.prog f args w fun e w' => e = r ∧ ChipPost b t S w w') :
    Calls Tryz.prog f args w fun e w' => e = r ∧ Ctx (ChipP b t M) Q w0 w' rows := by
  refine (hC.run (X := fun e news => e = r ∧ news = []) (chipP_ok b t M) (fun S hP _ _ => (h S hP.1 hP.2).mono ?_)).mono ?_
  · rintro e w' ⟨rfl, S', hA, hS, hU⟩
    exact ⟨S', [], ⟨rfl, rfl⟩, fun r hr => by simp at hr, ⟨hA, hM hP.2⟩, hS, hU⟩
  · rintro e w' ⟨news, ⟨rfl, rfl⟩, h2⟩
    exact ⟨rfl, h2⟩
theorem c_clock {Q : Own} {w0 w : World} {b : Nat} {s : St} {N : Int} {rows : List (Value × List Value)} (hC : Ctx (ChipP b s N) Q w0 w rows) (x : Int) (hx : 0 ≤ x ∧ x ≤ 15) (hN : N ≤ 1048575) (t : St) (y : Int) (ht : s.clock x = (t, y)) :
    Calls Tryz.prog 121 #[.pointer (some ⟨b, 0, none⟩), .int .i64 x] w fun e w' => e = .returned (.tuple #[.int .i64 y, .int .i64 0]) ∧ Ctx (ChipP b t (N + 1)) Q w0 w' rows := by
  have e1 : (s.clock x).1 = t := by rw [ht]
  have e2 : (s.clock x).2 = y := by rw [ht]
  refine c_post hC t (fun h => by rw [← e1]; exact clock_invW h x) (fun S hA hI => ?_)
  rw [← e1, ← e2]
  exact chip_clockW table_said b x s S w hA N hI (by omega) hx
theorem c_nextl {Q : Own} {w0 w : World} {b : Nat} {s : St} {N : Int} {rows : List (Value × List Value)} (hC : Ctx (ChipP b s N) Q w0 w rows) (xs : List Int) (m : Nat) (hm : xs.length = m) (h1 : 1 ≤ m) (h16 : m ≤ 16) (hb : ∀ x ∈ xs, 1 ≤ x ∧ x ≤ 400) :
    Calls Tryz.prog 43 #[.pointer (some ⟨b, 0, none⟩), .slice (some ⟨w.heap.size, 0, none⟩) m m] (w.alloc (.cells (ints xs).toArray 3)) fun e w' => e = .returned (.int .i64 0) ∧ Ctx (ChipP b { s with busy := xs } N) Q w0 w' rows := by
  have h := hC.lit (ints xs) 3 m (by rw [ints_len]; exact hm) (by omega)
  have hrs := h.rs 0 rfl
  have hba : xs.any badD = false := by
    rw [List.any_eq_false]
    intro x hx
    have := hb x hx
    simp only [badD, decide_eq_true_eq]
    omega
  refine (c_post h { s with busy := xs } (M := N) (fun hI => ⟨⟨hI.1.size, hI.1.job, hI.1.addr, hI.1.told, hI.1.len, hI.1.data, hI.1.now, hI.1.mode, hI.1.op, hI.1.wipes, ⟨by show xs.length ≤ 16; omega, hb⟩⟩, hI.2⟩) (fun S hA _ => chip_next b s S _ hA _ xs hrs (by rintro rfl; simp at hm; omega) (by omega) hba)).mono ?_
  rintro e w' ⟨rfl, h2⟩
  exact ⟨rfl, h2.sub fun r hr => List.mem_cons.2 (.inr hr)⟩
theorem c_select {Q : Own} {w0 w : World} {b : Nat} {s : St} {N : Int} {rows : List (Value × List Value)} (hC : Ctx (ChipP b s N) Q w0 w rows) (hsel : s.sel = false) (t : St) (ht : s.select = t) :
    Calls Tryz.prog 56 #[.pointer (some ⟨b, 0, none⟩)] w fun e w' => e = .returned (.int .i64 0) ∧ Ctx (ChipP b t N) Q w0 w' rows := by
  subst ht
  exact c_post hC s.select (fun h => select_invW h) (fun S hA _ => chip_select b s S w hA hsel)
theorem c_deselect {Q : Own} {w0 w : World} {b : Nat} {s : St} {N : Int} {rows : List (Value × List Value)} (hC : Ctx (ChipP b s N) Q w0 w rows) (hsel : s.sel = true) (hN : N ≤ 1048576) (t : St) (ht : s.deselect = t) :
    Calls Tryz.prog 58 #[.pointer (some ⟨b, 0, none⟩)] w fun e w' => e = .returned (.int .i64 0) ∧ Ctx (ChipP b t (N + 1)) Q w0 w' rows := by
  subst ht
  exact c_post hC s.deselect (fun h => deselect_invW h hsel) (fun S hA hI => chip_deselect b s S w hA N (hI.inv hsel) hN hsel)
end Go.Proofs.YtbflnpkgbpckfaaGreat
