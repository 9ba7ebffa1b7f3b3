/- (*drive).phase, of a phase that may be; what a drive keeps. -/
import Derived.Test.YtbflnpkgbpckfaaGreatWireH
import Derived.Test.YtbflnpkgbpckfaaGreatSayP
namespace Go.Proofs.YtbflnpkgbpckfaaGreat
open Go.RowKit
theorem outsL_len1 (x : Int) : (outsL x 1).length = 8 := rfl
theorem outsL_len4 (x : Int) : (outsL x 4).length = 2 := rfl
theorem d_phase {g b : Nat} {d : Drv} {N0 : Int} {Q : Own} {w0 w : World} {rows : List (Value × List Value)} (h : DCtx g b d N0 Q w0 w rows) (gp op n cap : Nat) (L : List (Ph × Value)) (hP : PhsV rows (.slice (some ⟨gp, op, none⟩) n cap) L) (i0 : Nat) (hi0 : i0 < L.length) (hm : L[i0].1.may = true) (hol : d.out.length ≤ 1048000) (hr : d.room N0 L[i0].1.many) :
    Calls Tryz.prog 57 #[.pointer (some ⟨g, 0, none⟩), .pointer (some ⟨gp, op + i0 * 4, none⟩)] w fun e w' => e = .returned (.bool (d.phase L[i0].1).2) ∧ DCtx g b (d.phase L[i0].1).1 N0 Q w0 w' rows := by
  have hf := may_facts hm
  obtain ⟨p, hp⟩ : ∃ p, L[i0].1 = p := ⟨_, rfl⟩
  rw [hp] at hf hr ⊢
  obtain ⟨la, bs, cl, rd⟩ := p
  dsimp only at hf
  rcases hf with ⟨hla | hla, hcl, hbl, hr0, hr1, hby⟩ | ⟨hla, hbs, hrd, hc0, hc1⟩
  · subst hla
    subst hcl
    rw [many1] at hr
    refine d_phase_gen h gp op n cap L hP i0 hi0 1 0 rd bs hp 8 rfl (fun x _ => rfl) (fun d' w' hC x hx hr' => d_put1 hC x (hby x hx) hr') (fun d' w' _ hC ho hr' => d_get1 hC ho hr') (.inr (.inr rfl)) (by decide) ⟨hr0, hr1⟩ hbl hol ?_
    exact room_at hr 0 _ rfl (by omega) (by omega)
  · subst hla
    subst hcl
    rw [many4] at hr
    refine d_phase_gen h gp op n cap L hP i0 hi0 4 0 rd bs hp 2 rfl (fun x _ => rfl) (fun d' w' hC x hx hr' => d_put4 hC x (hby x hx) hr') (fun d' w' _ hC ho hr' => d_get4 hC ho hr') (.inr (.inl rfl)) (by decide) ⟨hr0, hr1⟩ hbl hol ?_
    exact room_at hr 0 _ rfl (by omega) (by omega)
  · subst hla
    subst hbs
    subst hrd
    rw [many0] at hr
    refine d_phase_gen h gp op n cap L hP i0 hi0 0 cl 0 [] hp 0 rfl (fun x hx => by cases hx) (fun d' w' hC x hx => by cases hx) (fun d' w' h0 => by omega) (.inl rfl) ⟨by omega, by omega⟩ (by decide) (by decide) hol ?_
    exact room_at hr 0 _ rfl (by omega) (by simp)
theorem run_sel (xs : List Int) : ∀ d : Drv, (d.run xs).1.s.sel = d.s.sel := by
  induction xs with
  | nil => intro d; rfl
  | cons x xs ih =>
    intro d
    simp only [Drv.run]
    by_cases hf : d.full = true
    · simp [hf]
    · simp only [hf, Bool.false_eq_true, if_false]
      rw [ih]
      exact clock_sel _ _
theorem run_most (xs : List Int) : ∀ d : Drv, 0 ≤ d.most → d.clocks ≤ d.most → (d.run xs).1.clocks ≤ d.most := by
  induction xs with
  | nil => intro d _ h; exact h
  | cons x xs ih =>
    intro d h0 h
    simp only [Drv.run]
    by_cases hf : d.full = true
    · simp [hf]; exact h
    · simp only [hf, Bool.false_eq_true, if_false]
      have hfn := full_no (show d.full = false by simpa using hf)
      exact ih (d.clk x) h0 (by show d.clocks + 1 ≤ d.most; omega)
/-- What a drive keeps. -/
structure Drv.Kept (d d' : Drv) (n : Int) : Prop where
  most : d'.most = d.most
  sel : d'.s.sel = d.s.sel
  up : d.clocks ≤ d'.clocks
  many : d'.clocks ≤ d.clocks + n
  within : 0 ≤ d.most → d.clocks ≤ d.most → d'.clocks ≤ d.most
  outs : 2 * ((d'.out.length : Int) - d.out.length) ≤ d'.clocks - d.clocks
theorem Drv.Kept.refl (d : Drv) : d.Kept d 0 := ⟨rfl, rfl, by omega, by omega, fun _ h => h, by omega⟩
theorem Drv.Kept.trans {d e f : Drv} {m n : Int} (h : d.Kept e m) (k : e.Kept f n) : d.Kept f (m + n) := by
  obtain ⟨h1, h2, h3, h4, h5, h6⟩ := h
  obtain ⟨k1, k2, k3, k4, k5, k6⟩ := k
  exact ⟨k1.trans h1, k2.trans h2, by omega, by omega, fun a b => by rw [← h1]; exact k5 (by rw [h1]; exact a) (by rw [h1]; exact h5 a b), by omega⟩
theorem Drv.Kept.mono {d e : Drv} {m n : Int} (h : d.Kept e m) (hn : m ≤ n) : d.Kept e n := ⟨h.most, h.sel, h.up, by have := h.many; omega, h.within, h.outs⟩
theorem run_kept (d : Drv) (xs : List Int) : d.Kept (d.run xs).1 xs.length := by
  obtain ⟨h1, h2, h3, h4, h5⟩ := run_keep xs d
  exact ⟨h2, run_sel xs d, by omega, by omega, run_most xs d, by rw [h1]; omega⟩
theorem get_kept (d : Drv) (l : Int) (hl : l = 1 ∨ l = 4) : d.Kept (d.get l).1 (8 / l) := by
  have hn : ((8 / l).toNat : Int) = 8 / l ∧ 2 ≤ 8 / l := by rcases hl with rfl | rfl <;> decide
  have hk := run_kept d (List.replicate (8 / l).toNat 15)
  rw [List.length_replicate, hn.1] at hk
  obtain ⟨h1, h2, h3, h4, h5⟩ := run_keep (List.replicate (8 / l).toNat 15) d
  rw [List.length_replicate] at h4
  unfold Drv.get
  split
  · rename_i hok
    have h6 := h4 hok
    refine ⟨hk.most, hk.sel, hk.up, hk.many, hk.within, ?_⟩
    dsimp only
    rw [List.length_append, h3, h6]
    simp only [List.length_cons, List.length_nil]
    omega
  · exact hk
theorem gets_kept (l : Int) (hl : l = 1 ∨ l = 4) (n : Nat) : ∀ d : Drv, d.Kept (d.gets l n).1 (n * (8 / l)) := by
  induction n with
  | zero => intro d; rw [show ((0 : Nat) : Int) * (8 / l) = 0 from Int.zero_mul _]; exact Drv.Kept.refl d
  | succ n ih =>
    intro d
    have hn : 2 ≤ 8 / l := by rcases hl with rfl | rfl <;> decide
    have h1 := get_kept d l hl
    have e : ((n + 1 : Nat) : Int) * (8 / l) = 8 / l + (n : Int) * (8 / l) := by rw [Int.natCast_add, Int.add_mul]; omega
    rw [Drv.gets, e]
    split
    · exact h1.trans (ih _)
    · exact h1.mono (by have : (0 : Int) ≤ (n : Int) * (8 / l) := Int.mul_nonneg (by omega) (by omega); omega)
theorem phase_kept (d : Drv) (p : Ph) (h : p.may = true) : d.Kept (d.phase p).1 p.many := by
  obtain ⟨la, bs, cl, rd⟩ := p
  have hk := run_kept d (Ph.says ⟨la, bs, cl, rd⟩)
  unfold Drv.phase
  rcases may_facts h with ⟨hla | hla, hcl, hbl, hr0, hr1, hby⟩ | ⟨hla, hbs, hrd, hc0, hc1⟩
  · dsimp only at hla hcl hr0 hr1
    subst hla
    subst hcl
    obtain ⟨n, rfl⟩ : ∃ n : Nat, rd = (n : Int) := ⟨rd.toNat, by omega⟩
    have hl : (Ph.says ⟨1, bs, 0, n⟩).length = bs.length * 8 := by unfold Ph.says; rw [List.length_append, flat_len bs 1 8 (fun _ _ => rfl)]; rfl
    rw [hl] at hk
    rw [many1]
    dsimp only
    split
    · refine (hk.trans (gets_kept 1 (.inl rfl) n _)).mono ?_
      rw [show (8 : Int) / 1 = 8 from rfl]; omega
    · exact hk.mono (by omega)
  · dsimp only at hla hcl hr0 hr1
    subst hla
    subst hcl
    obtain ⟨n, rfl⟩ : ∃ n : Nat, rd = (n : Int) := ⟨rd.toNat, by omega⟩
    have hl : (Ph.says ⟨4, bs, 0, n⟩).length = bs.length * 2 := by unfold Ph.says; rw [List.length_append, flat_len bs 4 2 (fun _ _ => rfl)]; rfl
    rw [hl] at hk
    rw [many4]
    dsimp only
    split
    · refine (hk.trans (gets_kept 4 (.inr rfl) n _)).mono ?_
      rw [show (8 : Int) / 4 = 2 from rfl]; omega
    · exact hk.mono (by omega)
  · dsimp only at hla hbs hrd hc0 hc1
    subst hla
    subst hbs
    subst hrd
    have hl : (Ph.says ⟨0, [], cl, 0⟩).length = cl.toNat := by unfold Ph.says; simp
    rw [hl] at hk
    rw [many0]
    dsimp only
    split
    · exact hk.mono (by omega)
    · exact hk.mono (by omega)
theorem phases_kept (ps : List Ph) : ∀ d : Drv, ps.all Ph.may = true → d.Kept (d.phases ps).1 (phsMany ps) := by
  have key : ∀ (ps : List Ph) (k : Int), ps.foldl (fun k p => k + p.many) k = k + phsMany ps := by
    intro ps
    unfold phsMany
    induction ps with
    | nil => intro k; simp
    | cons p ps ih => intro k; rw [List.foldl_cons, ih, List.foldl_cons, ih (0 + p.many)]; omega
  induction ps with
  | nil => intro d _; exact Drv.Kept.refl d
  | cons p ps ih =>
    intro d h
    rw [List.all_cons, Bool.and_eq_true] at h
    have h1 := phase_kept d p h.1
    have e : phsMany (p :: ps) = p.many + phsMany ps := by
      show (p :: ps).foldl (fun k p => k + p.many) 0 = _
      rw [List.foldl_cons, key]; omega
    rw [Drv.phases, e]
    split
    · exact h1.trans (ih _ h.2)
    · exact h1.mono (by have := (phsMany_bd ps h.2).1; omega)
end Go.Proofs.YtbflnpkgbpckfaaGreat
