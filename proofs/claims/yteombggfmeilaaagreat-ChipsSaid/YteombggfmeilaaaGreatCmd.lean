/- table.Command: any command. -/
import Derived.Test.YteombggfmeilaaaGreatCmdA
import Derived.Test.YteombggfmeilaaaGreatCmdC
namespace Go.Proofs.YteombggfmeilaaaGreat
open Go.RowKit
theorem any_not (bs : List Int) (h : bs.all byteB = true) : bs.any notB = false := by
  have := all_not bs
  rw [h] at this
  cases h2 : bs.any notB with
  | false => rfl
  | true => rw [h2] at this; simp at this
theorem c_command {P Q : Own} (hQ : Q.Ok) {w0 w : World} {rows : List (Value × List Value)} (hC : Ctx P Q w0 w rows) (c : Int) (hc : opIs c = true) (k : Int) (a : Option Addr) (cp : Nat) (data : List Int) (hd : (.slice a data.length cp, ints data) ∈ rows) (read : Int) (hmay : cmdMay (opOf c) k data read = true) :
    Calls Tryz.prog 126 #[.agg (opOf c).cells, .int .i64 k, .slice a data.length cp, .int .i64 read] w fun e w' => ∃ g m cap L rows', e = .returned (.tuple #[.slice (some ⟨g, 0, none⟩) m cap, .int .i64 0]) ∧ L.map Prod.fst = cmdPhs (opOf c) k data read ∧ Ctx P Q w0 w' (rows' ++ rows) ∧ PhsV (rows' ++ rows) (.slice (some ⟨g, 0, none⟩) m cap) L := by
  unfold cmdMay at hmay
  simp only [Bool.and_eq_true, decide_eq_true_eq, Bool.not_eq_true', Bool.and_eq_false_imp] at hmay
  obtain ⟨⟨⟨⟨⟨hk, hk0⟩, hlen⟩, hby⟩, hr⟩, hfit⟩ := hmay
  have hby' := any_not data hby
  have hk0' : (opOf c).addr = 0 → k = 0 := fun h => by
    have := hk0 h
    simpa using this
  have hdl : data.length = 0 → data = [] := fun h => List.eq_nil_of_length_eq_zero h
  have hf := hfit
  unfold fitsB at hf
  simp only [opIs, decide_eq_true_eq] at hc
  rcases hc with rfl | rfl | rfl | rfl | rfl | rfl | rfl | rfl | rfl | rfl | rfl | rfl | rfl | rfl
  · -- 1
    have hr0 : read = 0 := by rw [if_neg (by decide), if_pos (by decide)] at hf; simpa using hf
    by_cases he : data = []
    · exact cmd_000e0 hQ hC _ (by kernel_rfl) (by kernel_rfl) k hk a cp data hd hlen hby' read hr hfit (by kernel_rfl) (hk0' (by kernel_rfl)) (by kernel_rfl) (by kernel_rfl) (by kernel_rfl) he hr0
    · exact cmd_000y0 hQ hC _ (by kernel_rfl) (by kernel_rfl) k hk a cp data hd hlen hby' read hr hfit (by kernel_rfl) (hk0' (by kernel_rfl)) (by kernel_rfl) (by kernel_rfl) (by kernel_rfl) he hr0
  · -- 2
    have hr0 : read = 0 := by rw [if_neg (by decide), if_pos (by decide)] at hf; simpa using hf
    by_cases he : data = []
    · exact cmd_100e0 hQ hC _ (by kernel_rfl) (by kernel_rfl) k hk a cp data hd hlen hby' read hr hfit (by decide) (by kernel_rfl) (by kernel_rfl) (by kernel_rfl) he hr0
    · exact cmd_100y0 hQ hC _ (by kernel_rfl) (by kernel_rfl) k hk a cp data hd hlen hby' read hr hfit (by decide) (by kernel_rfl) (by kernel_rfl) (by kernel_rfl) he hr0
  · -- 3
    by_cases hr0 : read = 0
    · exact cmd_100n0 hQ hC _ (by kernel_rfl) (by kernel_rfl) k hk a cp data hd hlen hby' read hr hfit (by decide) (by kernel_rfl) (by kernel_rfl) (by kernel_rfl) hr0
    · exact cmd_100n1 hQ hC _ (by kernel_rfl) (by kernel_rfl) k hk a cp data hd hlen hby' read hr hfit (by decide) (by kernel_rfl) (by kernel_rfl) (by kernel_rfl) (by omega)
  · -- 4
    have hr0 : read = 0 := by rw [if_pos (by decide)] at hf; simp at hf; exact hf.2
    exact cmd_000n0 hQ hC _ (by kernel_rfl) (by kernel_rfl) k hk a cp data hd hlen hby' read hr hfit (by kernel_rfl) (hk0' (by kernel_rfl)) (by kernel_rfl) (by kernel_rfl) (by kernel_rfl) hr0
  · -- 5
    by_cases hr0 : read = 0
    · exact cmd_000n0 hQ hC _ (by kernel_rfl) (by kernel_rfl) k hk a cp data hd hlen hby' read hr hfit (by kernel_rfl) (hk0' (by kernel_rfl)) (by kernel_rfl) (by kernel_rfl) (by kernel_rfl) hr0
    · exact cmd_000n1 hQ hC _ (by kernel_rfl) (by kernel_rfl) k hk a cp data hd hlen hby' read hr hfit (by kernel_rfl) (hk0' (by kernel_rfl)) (by kernel_rfl) (by kernel_rfl) (by kernel_rfl) (by omega)
  · -- 6
    have hr0 : read = 0 := by rw [if_pos (by decide)] at hf; simp at hf; exact hf.2
    exact cmd_000n0 hQ hC _ (by kernel_rfl) (by kernel_rfl) k hk a cp data hd hlen hby' read hr hfit (by kernel_rfl) (hk0' (by kernel_rfl)) (by kernel_rfl) (by kernel_rfl) (by kernel_rfl) hr0
  · -- 32
    have hr0 : read = 0 := by rw [if_pos (by decide)] at hf; simp at hf; exact hf.2
    exact cmd_100n0 hQ hC _ (by kernel_rfl) (by kernel_rfl) k hk a cp data hd hlen hby' read hr hfit (by decide) (by kernel_rfl) (by kernel_rfl) (by kernel_rfl) hr0
  · -- 53
    by_cases hr0 : read = 0
    · exact cmd_000n0 hQ hC _ (by kernel_rfl) (by kernel_rfl) k hk a cp data hd hlen hby' read hr hfit (by kernel_rfl) (hk0' (by kernel_rfl)) (by kernel_rfl) (by kernel_rfl) (by kernel_rfl) hr0
    · exact cmd_000n1 hQ hC _ (by kernel_rfl) (by kernel_rfl) k hk a cp data hd hlen hby' read hr hfit (by kernel_rfl) (hk0' (by kernel_rfl)) (by kernel_rfl) (by kernel_rfl) (by kernel_rfl) (by omega)
  · -- 90
    by_cases hr0 : read = 0
    · exact cmd_101n0 hQ hC _ (by kernel_rfl) (by kernel_rfl) k hk a cp data hd hlen hby' read hr hfit (by decide) (by kernel_rfl) (by decide) (by kernel_rfl) hr0
    · exact cmd_101n1 hQ hC _ (by kernel_rfl) (by kernel_rfl) k hk a cp data hd hlen hby' read hr hfit (by decide) (by kernel_rfl) (by decide) (by kernel_rfl) (by omega)
  · -- 107
    by_cases hr0 : read = 0
    · exact cmd_101n0 hQ hC _ (by kernel_rfl) (by kernel_rfl) k hk a cp data hd hlen hby' read hr hfit (by decide) (by kernel_rfl) (by decide) (by kernel_rfl) hr0
    · exact cmd_101n1 hQ hC _ (by kernel_rfl) (by kernel_rfl) k hk a cp data hd hlen hby' read hr hfit (by decide) (by kernel_rfl) (by decide) (by kernel_rfl) (by omega)
  · -- 117
    have hr0 : read = 0 := by rw [if_pos (by decide)] at hf; simp at hf; exact hf.2
    exact cmd_000n0 hQ hC _ (by kernel_rfl) (by kernel_rfl) k hk a cp data hd hlen hby' read hr hfit (by kernel_rfl) (hk0' (by kernel_rfl)) (by kernel_rfl) (by kernel_rfl) (by kernel_rfl) hr0
  · -- 122
    have hr0 : read = 0 := by rw [if_pos (by decide)] at hf; simp at hf; exact hf.2
    exact cmd_000n0 hQ hC _ (by kernel_rfl) (by kernel_rfl) k hk a cp data hd hlen hby' read hr hfit (by kernel_rfl) (hk0' (by kernel_rfl)) (by kernel_rfl) (by kernel_rfl) (by kernel_rfl) hr0
  · -- 159
    by_cases hr0 : read = 0
    · exact cmd_000n0 hQ hC _ (by kernel_rfl) (by kernel_rfl) k hk a cp data hd hlen hby' read hr hfit (by kernel_rfl) (hk0' (by kernel_rfl)) (by kernel_rfl) (by kernel_rfl) (by kernel_rfl) hr0
    · exact cmd_000n1 hQ hC _ (by kernel_rfl) (by kernel_rfl) k hk a cp data hd hlen hby' read hr hfit (by kernel_rfl) (hk0' (by kernel_rfl)) (by kernel_rfl) (by kernel_rfl) (by kernel_rfl) (by omega)
  · -- 235
    have hdm : data ≠ [] := by
      rw [if_neg (by decide), if_neg (by decide), if_pos (by decide)] at hf
      rintro rfl
      simp at hf
    by_cases hr0 : read = 0
    · exact cmd_111n0 hQ hC _ (by kernel_rfl) (by kernel_rfl) k hk a cp data hd hlen hby' read hr hfit (by decide) (by kernel_rfl) (by decide) (by kernel_rfl) hr0 hdm
    · exact cmd_111n1 hQ hC _ (by kernel_rfl) (by kernel_rfl) k hk a cp data hd hlen hby' read hr hfit (by decide) (by kernel_rfl) (by decide) (by kernel_rfl) (by omega) hdm
end Go.Proofs.YteombggfmeilaaaGreat
