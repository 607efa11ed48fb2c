/- Words of marks are marks again, and marks of words are these words: the law's pure part, at inputs of a bulk that the second form allows. -/
import Derived.Test.YtkakobppgpfndaaPrint
import Derived.Test.YtkakobppgpfndaaPureWords
import Derived.Test.YtkakobppgpfndaaPureLive
namespace Go.Proofs.Ytkakobppgpfndaa.Pure
open Go.RowKit Go.Proofs.Ytkakobppgpfndaa.Print Go.Proofs.YtkakobppgpfndaaW.PrintWords Go.Proofs.YtkakobppgpfndaaW.PrintMore
set_option linter.unusedVariables false

theorem SweepWords : atticlaw21_SweepWords.UptoPure := by
  rintro ws ms ⟨h0, h1⟩ ⟨h2, h3⟩ hb
  rw [ones_sum, ones_sum] at hb
  have hW : UW ws := UW_of h1
  refine ⟨100000000 + 1, ?_⟩
  unfold atticlaw21_SweepWords.f
  have e1 : (marksN ws (32 * ws.length)).length % 32 = 0 := by rw [marksN_len]; omega
  have e2 : (marksN ws (32 * ws.length)).length / 32 = ws.length := by rw [marksN_len]; omega
  rw [live (by omega), Option.bind_some, if_pos rfl, marks ws hW (by omega) (by omega), Option.bind_some, words _ (by rw [marksN_len]; omega) (by rw [marksN_len]; omega), Option.bind_some, if_pos e1, if_pos rfl, e2, marksN_len, back_words ws hW, eqw ws (by omega) (by omega), Option.bind_some, atticlaw21_SweepWords.j0, if_neg (by decide), words ms (by omega) (by omega), Option.bind_some]
  by_cases h : ms.length % 32 = 0
  · have hlw : (wordsN ms (ms.length / 32) ms.length).length = ms.length / 32 := wordsN_len _ _ _
    rw [if_pos h, if_pos rfl, marks _ (wordsN_UW _ _ _) (by omega) (by omega), Option.bind_some, hlw, back_marks ms h, eqb ms (by omega) (by omega), Option.bind_some]
  · rw [if_neg h, if_neg (by decide)]
    have : (((ms.length : Int) % 32) != 0) = true := bne_iff_ne.mpr (by omega)
    rw [this]

end Go.Proofs.Ytkakobppgpfndaa.Pure
