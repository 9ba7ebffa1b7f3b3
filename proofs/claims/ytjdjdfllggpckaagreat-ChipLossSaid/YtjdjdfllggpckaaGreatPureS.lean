/- An erase that is suspended, and goes on: in plain. -/
import Derived.Test.YtjdjdfllggpckaaGreatPureG
namespace Go.Proofs.YtjdjdfllggpckaaGreat
open Go.RowKit
theorem run_busy (s : St) (j : Job) (hj : s.job = some j) (hu : j.susp = false) (hg : s.goes = false) (xs : List Int) (hl : (xs.length : Int) < j.left) : s.said xs = (((runI s.select xs).1.tk xs.length).deselect, (runI s.select xs).2) := by
  have hsel : s.select.sel = true := select_sel s
  have hjob : s.select.job = some j := by
    rw [select_eq, hg]
    exact hj
  show ((runC s.select xs).1.deselect, (runC s.select xs).2) = _
  rw [runC_busy xs s.select j hjob hu hl hsel]
theorem run_still (s : St) (hw : s.works = false) (hg : s.goes = false) (xs : List Int) : s.said xs = ((runI s.select xs).1.deselect, (runI s.select xs).2) := by
  have hw2 : s.select.works = false := by
    rw [select_eq, hg]
    exact hw
  show ((runC s.select xs).1.deselect, (runC s.select xs).2) = _
  rw [runC_still xs s.select hw2 (select_sel s)]
/-- A command that is a byte alone, whole. -/
def St.one (s : St) (c : Int) : St := { s with sel := true, op := opOf c, stage := 7, left := 0, got := 0, addr := 0, mode := 0, moded := false, data := [], told := 0, now := 0, beyond := false }
theorem one_117 (s : St) (hg : s.goes = false) : (runI s.select (wordL [117])).1 = s.one 117 := by
  obtain ⟨a, prot, quad, wipes, tabled, sel, en, goes, job, busy, op, stage, left, got, addr, mode, moded, data, told, now, beyond⟩ := s
  change goes = false at hg
  subst hg
  kernel_rfl
theorem one_122 (s : St) (hg : s.goes = false) (sec page left : Int) (data : ByteArray) (hj : s.job = some ⟨sec, page, data, left, true⟩) : (runI s.select (wordL [122])).1 = s.one 122 := by
  obtain ⟨a, prot, quad, wipes, tabled, sel, en, goes, job, busy, op, stage, left', got, addr, mode, moded, data', told, now, beyond⟩ := s
  change goes = false at hg
  change job = _ at hj
  subst hg
  subst hj
  kernel_rfl
/-- What holds of a chip on which an erase is under way. -/
structure Er (a : ByteArray) (sec left : Int) (su : Bool) (t : St) : Prop where
  sel : t.sel = false
  goes : t.goes = false
  job : t.job = some ⟨sec, 0, ⟨#[]⟩, left, su⟩
  a : t.a = a
  en : t.en = true
  prot : t.prot = false
  quad : t.quad = false
theorem off_117 (s : St) (sec left : Int) (hj : s.job = some ⟨sec, 0, ⟨#[]⟩, left, false⟩) (hs : ¬ sec = -1) (n : Int) : ((s.one 117).tk n).deselect = { ((s.one 117).tk n) with sel := false, job := some ⟨sec, 0, ⟨#[]⟩, left - n, true⟩ } := by
  obtain ⟨a, prot, quad, wipes, tabled, sel, en, goes, job, busy, op, stage, left', got, addr, mode, moded, data', told, now, beyond⟩ := s
  change job = _ at hj
  subst hj
  have h : ∀ t : St, t.stage = 7 → t.op = opOf 117 → t.beyond = false → t.job = some ⟨sec, 0, ⟨#[]⟩, left - n, false⟩ → t.ends = { t with job := some ⟨sec, 0, ⟨#[]⟩, left - n, true⟩ } := by
    intro t h1 h2 h3 h4
    have hw : t.whole = true := by unfold St.whole; rw [h1, h2, h3]; rfl
    unfold St.ends
    rw [h1, hw, h2, h4]
    rw [if_neg (by decide), if_neg (by decide), if_neg (by decide), if_pos (by decide)]
    dsimp only
    rw [if_neg hs]
  exact h _ rfl rfl rfl rfl
theorem off_122 (s : St) (sec left : Int) (hj : s.job = some ⟨sec, 0, ⟨#[]⟩, left, true⟩) : (s.one 122).deselect = { (s.one 122) with sel := false, job := some ⟨sec, 0, ⟨#[]⟩, left, false⟩ } := by
  obtain ⟨a, prot, quad, wipes, tabled, sel, en, goes, job, busy, op, stage, left', got, addr, mode, moded, data', told, now, beyond⟩ := s
  change job = _ at hj
  subst hj
  kernel_rfl
theorem er_susp {a : ByteArray} {sec left : Int} {t : St} (h : Er a sec left false t) (hs : ¬ sec = -1) (hl : 8 < left) : Er a sec (left - 8) true (t.af (wordL [117])) := by
  have e : t.af (wordL [117]) = ((t.one 117).tk 8).deselect := by
    unfold St.af
    rw [run_busy t _ h.job rfl h.goes (wordL [117]) hl]
    show ((runI t.select (wordL [117])).1.tk 8).deselect = _
    rw [one_117 t h.goes]
  rw [e, off_117 t sec left h.job hs 8]
  exact ⟨rfl, h.goes, rfl, h.a, h.en, h.prot, h.quad⟩
theorem er_works {a : ByteArray} {sec left : Int} {t : St} (h : Er a sec left true t) : t.works = false := by
  unfold St.works
  rw [h.job]
  rfl
theorem er_go {a : ByteArray} {sec left : Int} {t : St} (h : Er a sec left true t) : Er a sec left false (t.af (wordL [122])) := by
  have e : t.af (wordL [122]) = (t.one 122).deselect := by
    unfold St.af
    rw [run_still t (er_works h) h.goes]
    dsimp only
    rw [one_122 t h.goes sec 0 left ⟨#[]⟩ h.job]
  rw [e, off_122 t sec left h.job]
  exact ⟨rfl, h.goes, rfl, h.a, h.en, h.prot, h.quad⟩
theorem er_read {a : ByteArray} {sec left : Int} {t : St} (h : Er a sec left true t) (k : Int) (hk : 0 ≤ k ∧ k < 4096) : ∃ u, t.said (wordL [3, 0, k / 256, k % 256] ++ List.replicate 16 15) = (u, List.replicate 32 15 ++ (tellL (byteOf a ((k + 0) % 4096).toNat) ++ tellL (byteOf a ((k + 1) % 4096).toNat))) ∧ Er a sec left true u := by
  rw [run_still t (er_works h) h.goes]
  have hk2 := addrOf_eq k hk
  obtain ⟨h1, h2, h3, h4, h5, h6, h7⟩ := h
  rw [← hk2]
  rw [show wordL [3, 0, addrOf k / 256, addrOf k % 256] = wordL [3, 0, k / 256, k % 256] by rw [hk2]]
  have e1 : (runI t.select (wordL [3, 0, k / 256, k % 256] ++ List.replicate 16 15)).2 = List.replicate 32 15 ++ (tellL (byteOf a ((addrOf k + 0) % 4096).toNat) ++ tellL (byteOf a ((addrOf k + 1) % 4096).toNat)) := by
    obtain ⟨a', prot, quad, wipes, tabled, sel, en, goes, job, busy, op, stage, left', got, addr, mode, moded, data', told, now, beyond⟩ := t
    change goes = false at h2
    change job = _ at h3
    change a' = a at h4
    subst h2
    subst h3
    subst h4
    kernel_rfl
  refine ⟨(runI t.select (wordL [3, 0, k / 256, k % 256] ++ List.replicate 16 15)).1.deselect, Prod.ext rfl e1, ?_⟩
  obtain ⟨a', prot, quad, wipes, tabled, sel, en, goes, job, busy, op, stage, left', got, addr, mode, moded, data', told, now, beyond⟩ := t
  change goes = false at h2
  change job = _ at h3
  change a' = a at h4
  change en = true at h5
  change prot = false at h6
  change quad = false at h7
  subst h2
  subst h3
  subst h4
  subst h5
  subst h6
  subst h7
  exact ⟨by kernel_rfl, by kernel_rfl, by kernel_rfl, by kernel_rfl, by kernel_rfl, by kernel_rfl, by kernel_rfl⟩
theorem er_wait {a : ByteArray} {sec left : Int} {t : St} (h : Er a sec left false t) (hl : 1 < left) (x : Int) : ∃ u, t.clock x = (u, 15) ∧ Er a sec (left - 1) false u :=
  ⟨_, wait_clock t _ h.job rfl h.sel hl x, h.sel, h.goes, by unfold St.tk; dsimp only; rw [h.job]; rfl, h.a, h.en, h.prot, h.quad⟩
theorem er_idle {a : ByteArray} {sec left : Int} {t : St} (h : Er a sec left true t) (x : Int) : t.clock x = (t, 15) := by
  rw [clock_off t h.sel]
  have hp : t.pass = t := by unfold St.pass; rw [h.job]; rfl
  rw [hp]
theorem er_last {a : ByteArray} {sec : Int} {t : St} (h : Er a sec 1 false t) (hs : ¬ sec = -1) (x : Int) : ∃ u, t.clock x = (u, 15) ∧ u.a = eraseCut a sec.toNat all255 := by
  refine ⟨_, last_clock t _ h.job rfl h.sel rfl x, ?_⟩
  show Job.cells ⟨sec, 0, ⟨#[]⟩, 1, false⟩ t.a all255 = _
  unfold Job.cells
  rw [if_neg hs, h.a]
theorem er_stat1 {a : ByteArray} {sec left : Int} {t : St} (h : Er a sec left true t) : t.first = 2 ∧ t.second = 128 := by
  constructor
  · show Go.Proofs.YtjdjdfllggpckaaGreat.first t.works t.en t.prot = 2
    rw [er_works h, h.en, h.prot]
    rfl
  · show Go.Proofs.YtjdjdfllggpckaaGreat.second t.quad t.susp = 128
    unfold St.susp
    rw [h.quad, h.job]
    rfl
theorem er_stat0 {a : ByteArray} {sec left : Int} {t : St} (h : Er a sec left false t) : t.first = 3 ∧ t.second = 0 := by
  constructor
  · show Go.Proofs.YtjdjdfllggpckaaGreat.first t.works t.en t.prot = 3
    unfold St.works
    rw [h.en, h.prot, h.job]
    rfl
  · show Go.Proofs.YtjdjdfllggpckaaGreat.second t.quad t.susp = 0
    unfold St.susp
    rw [h.quad, h.job]
    rfl
theorem starts_yes (s : St) (j : Job) (d : Int) (ds : List Int) (he : s.en = true) (hp : s.prot = false) (hb : s.busy = d :: ds) : s.starts j = { s with busy := ds, wipes := fun i => if (i : Int) = j.sector then s.wipes i + 1 else s.wipes i, job := some { j with left := d } } := by
  obtain ⟨a, prot, quad, wipes, tabled, sel, en, goes, job, busy, op, stage, left', got, addr, mode, moded, data', told, now, beyond⟩ := s
  change en = true at he
  change prot = false at hp
  change busy = d :: ds at hb
  subst he
  subst hp
  subst hb
  kernel_rfl
def su0 (a : ByteArray) : St := { St.new a with busy := [60] }
def su1 (a : ByteArray) : St := (su0 a).af (wordL [6])
theorem su1_all (a : ByteArray) : ∃ s : St, su1 a = s ∧ s.sel = false ∧ s.goes = false ∧ s.job = none ∧ s.en = true ∧ s.prot = false ∧ s.quad = false ∧ s.busy = [60] ∧ s.a = a :=
  ⟨_, rfl, by kernel_rfl, by kernel_rfl, by kernel_rfl, by kernel_rfl, by kernel_rfl, by kernel_rfl, by kernel_rfl, by kernel_rfl⟩
theorem su2 (a : ByteArray) (k : Int) (hk : 0 ≤ k ∧ k < 4096) : Er a (k / 512) 60 false ((su1 a).af (erX k)) := by
  obtain ⟨s, hs, h1, h2, h3, h4, h5, h6, h7, h8⟩ := su1_all a
  rw [hs]
  unfold erX
  rw [er_run s h2 h3 k hk]
  have e : ({ (s.er k) with sel := false } : St).starts ⟨k / 512, 0, ⟨#[]⟩, 0, false⟩ = { ({ (s.er k) with sel := false } : St) with busy := [], wipes := fun i => if (i : Int) = k / 512 then s.wipes i + 1 else s.wipes i, job := some ⟨k / 512, 0, ⟨#[]⟩, 60, false⟩ } := by
    exact starts_yes ({ (s.er k) with sel := false } : St) ⟨k / 512, 0, ⟨#[]⟩, 0, false⟩ 60 [] h4 h5 h7
  rw [e]
  exact ⟨rfl, h2, rfl, h8, h4, h5, h6⟩
end Go.Proofs.YtjdjdfllggpckaaGreat
