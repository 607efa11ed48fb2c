/- Layer 12's order: it is one, and that of the words. -/
import Derived.Test.YtpoheodaiaganaaPureRef
namespace Go.Proofs.Ytpoheodaiaganaa.Pure
open Go.RowKit Go.Proofs.Ytpoheodaiaganaa.Print Go.Proofs.YtpoheodaiaganaaW.PrintWords Go.Proofs.YtpoheodaiaganaaW.PrintMore
set_option linter.unusedSimpArgs false
set_option linter.unusedVariables false
theorem cmp3_cases (e1 s1 g1 e2 s2 g2 : Int) :
    (cmp3 e1 s1 g1 e2 s2 g2 = -1 ∧ (g1 < g2 ∨ (g1 = g2 ∧ (e1 < e2 ∨ (e1 = e2 ∧ s1 < s2))))) ∨
    (cmp3 e1 s1 g1 e2 s2 g2 = 1 ∧ (g1 > g2 ∨ (g1 = g2 ∧ (e1 > e2 ∨ (e1 = e2 ∧ s1 > s2))))) ∨
    (cmp3 e1 s1 g1 e2 s2 g2 = 0 ∧ g1 = g2 ∧ e1 = e2 ∧ s1 = s2) := by
  unfold cmp3 or3 cmpI
  repeat' split
  all_goals omega
theorem RefOrder : atticlaw12_RefOrder.Pure := by
  rintro ⟨e1, s1, g1⟩ ⟨e2, s2, g2⟩ ⟨e3, s3, g3⟩ _ _ _
  refine ⟨12, ?_⟩
  unfold atticlaw12_RefOrder.f
  simp only [begun_true, Option.bind_some, if_true]
  rw [compare 6, compare 6]
  simp only [Option.bind_some]
  have hab := cmp3_cases e1 s1 g1 e2 s2 g2
  have hba := cmp3_cases e2 s2 g2 e1 s1 g1
  have hbc := cmp3_cases e2 s2 g2 e3 s3 g3
  have hac := cmp3_cases e1 s1 g1 e3 s3 g3
  generalize h1 : cmp3 e1 s1 g1 e2 s2 g2 = n at hab
  generalize h2 : cmp3 e2 s2 g2 e1 s1 g1 = m at hba
  have hw : wrap64 (-m) = -m := by unfold wrap64; omega
  rw [hw, if_pos (show n = -m by omega)]
  have heq : ((n == 0) != (e1 == e2 && (s1 == s2 && (g1 == g2)))) = false := by
    rcases hab with ⟨rfl, h⟩ | ⟨rfl, h⟩ | ⟨rfl, h⟩
    · have : ¬ (e1 = e2 ∧ s1 = s2 ∧ g1 = g2) := by omega
      simpa using this
    · have : ¬ (e1 = e2 ∧ s1 = s2 ∧ g1 = g2) := by omega
      simpa using this
    · obtain ⟨rfl, rfl, rfl⟩ := h
      simp
  rw [heq, if_neg (by decide), if_neg (by omega), show decide (n > 1) = false from decide_eq_false (by omega)]
  -- what is left behind the order: the words
  have hj : ∀ k, atticlaw12_RefOrder.j1 (k + 1) n false e1 s1 g1 e2 s2 g2 = some true := by
    intro k
    simp only [atticlaw12_RefOrder.j1]
    rw [if_neg (by decide), word, word]
    simp only [Option.bind_some]
    by_cases c1 : chk e1 s1 g1 = 0
    · by_cases c2 : chk e2 s2 g2 = 0
      · rw [if_pos c1, if_pos c2]
        simp only [if_true]
        have r1 := chk_zero c1
        have r2 := chk_zero c2
        have hlt : (g1 * 65536 + e1 * 256 + s1 < g2 * 65536 + e2 * 256 + s2) ↔ n < 0 := by omega
        have heq2 : (g1 * 65536 + e1 * 256 + s1 = g2 * 65536 + e2 * 256 + s2) ↔ n = 0 := by omega
        rw [if_pos (by simp [hlt])]
        have hb : (g1 * 65536 + e1 * 256 + s1 == g2 * 65536 + e2 * 256 + s2) = (n == 0) := by
          rw [Bool.eq_iff_iff]
          simpa using heq2
        rw [hb]
        simp
      · rw [if_pos c1, if_neg c2]; simp
    · rw [if_neg c1]; simp
  simp only [atticlaw12_RefOrder.j0]
  rw [if_neg (by decide)]
  by_cases hn : n ≤ 0
  · rw [if_pos hn, compare 5]
    simp only [Option.bind_some]
    generalize h3 : cmp3 e2 s2 g2 e3 s3 g3 = p at hbc
    by_cases hp : p ≤ 0
    · rw [if_pos hp, compare 5]
      simp only [Option.bind_some]
      generalize h4 : cmp3 e1 s1 g1 e3 s3 g3 = q at hac
      rw [if_neg (by omega)]
      by_cases hq : q = 0
      · rw [if_pos hq]
        have : (!(e1 == e2) || (!(s1 == s2) || (!(g1 == g2)))) = false := by
          have : e1 = e2 ∧ s1 = s2 ∧ g1 = g2 := by omega
          simp [this]
        rw [this, if_neg (by decide)]
        have : (!(e2 == e3) || (!(s2 == s3) || (!(g2 == g3)))) = false := by
          have : e2 = e3 ∧ s2 = s3 ∧ g2 = g3 := by omega
          simp [this]
        rw [this]
        exact hj _
      · rw [if_neg hq]; exact hj _
    · rw [if_neg hp]; exact hj _
  · rw [if_neg hn]; exact hj _
end Go.Proofs.Ytpoheodaiaganaa.Pure
