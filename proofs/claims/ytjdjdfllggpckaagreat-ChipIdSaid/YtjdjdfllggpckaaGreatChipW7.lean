/- The walk over Status. -/
import Derived.Test.YtjdjdfllggpckaaGreatChipW6
import Derived.Test.YtjdjdfllggpckaaGreatStat
import Derived.Test.YtjdjdfllggpckaaGreatUpdQ
namespace Go.Proofs.YtjdjdfllggpckaaGreat
open Go.RowKit
set_option maxHeartbeats 1000000 in
theorem chip_status (b : Nat) (s : St) (jv bv dv : Value) (w : World) (h : CB w b s jv bv dv) (hj : JobV w jv s.job) :
    Calls Tryz.prog 20 #[.pointer (some ⟨b, 0, none⟩)] w fun e w' => e = .returned (.tuple #[.int .i64 s.first, .int .i64 s.second]) ∧ Upd none' w w' := by
  have l1 : ∀ u : UW w, u.val.cell? ⟨b, 1, none⟩ = some (.bool s.prot) := fun u => (h.upd u.upd (fun f => f)).cell 1
  have l2 : ∀ u : UW w, u.val.cell? ⟨b, 2, none⟩ = some (.bool s.quad) := fun u => (h.upd u.upd (fun f => f)).cell 2
  have l16 : ∀ u : UW w, u.val.cell? ⟨b, 16, none⟩ = some (.bool s.en) := fun u => (h.upd u.upd (fun f => f)).cell 16
  have l18 : ∀ u : UW w, u.val.cell? ⟨b, 18, none⟩ = some jv := fun u => (h.upd u.upd (fun f => f)).cell 18
  have hwk : ∀ u : UW w, Calls Tryz.prog 47 #[.pointer (some ⟨b, 0, none⟩)] u.val fun e w' => e = .returned (.bool s.works) ∧ w' = u.val :=
    fun u => chip_works b s jv bv dv u.val (h.upd u.upd (fun f => f)) (hj.upd u.upd (fun _ _ f => f))
  have HW := Lib.hid hwk
  clear hwk
  cases hs : s.job with
  | none =>
    rw [hs] at hj
    simp only [JobV] at hj
    subst hj
    have hsec : s.second = second s.quad false := by simp [St.second, St.susp, hs]
    have HS := Lib.hid hsec
    clear hsec hs
    go_enter Tryz.func20, Tryz.ntmps20
    go_wp2_with fail
    refine wp_region_upd_lit w (Upd.refl none' w) (by kernel_rfl) (by kernel_rfl) ?_
    repeat (go_big_quiet_step ((first | (go_at_call 47; exact quiet_same (HW.out _)) | (go_at_call 46; exact quiet_upd (stat_first _ _ _ _)) | (go_at_call 48; exact quiet_upd (stat_second _ _ _)))))
    refine wpQuiet_nil ?_
    rintro _ ⟨⟨w1, hU1⟩, rfl⟩
    go_wp2
    go_ret2
    exact ⟨by rw [HS.out]; rfl, hU1⟩
  | some j =>
    have hj0 := hj
    rw [hs] at hj
    obtain ⟨g, rfl, hB⟩ := hj
    have l4 : ∀ u : UW w, u.val.cell? ⟨g, 4, none⟩ = some (.bool j.susp) := fun u => (hB.upd u.upd (fun f => f)).cell 4
    have hsec : s.second = second s.quad j.susp := by simp [St.second, St.susp, hs]
    have HS := Lib.hid hsec
    clear hsec hs
    go_enter Tryz.func20, Tryz.ntmps20
    go_wp2_with fail
    refine wp_region_upd_lit w (Upd.refl none' w) (by kernel_rfl) (by kernel_rfl) ?_
    repeat (go_big_quiet_step ((first | (go_at_call 47; exact quiet_same (HW.out _)) | (go_at_call 46; exact quiet_upd (stat_first _ _ _ _)) | (go_at_call 48; exact quiet_upd (stat_second _ _ _)))))
    refine wpQuiet_nil ?_
    rintro _ ⟨⟨w1, hU1⟩, rfl⟩
    go_wp2
    go_ret2
    exact ⟨by rw [HS.out]; rfl, hU1⟩
end Go.Proofs.YtjdjdfllggpckaaGreat
