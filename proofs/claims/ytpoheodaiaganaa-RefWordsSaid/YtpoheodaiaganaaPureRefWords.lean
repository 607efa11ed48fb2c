/- Layer 12's words: each is the document's. -/
import Derived.Test.YtpoheodaiaganaaPureRef
namespace Go.Proofs.Ytpoheodaiaganaa.Pure
open Go.RowKit Go.Proofs.Ytpoheodaiaganaa.Print Go.Proofs.YtpoheodaiaganaaW.PrintWords Go.Proofs.YtpoheodaiaganaaW.PrintMore
set_option linter.unusedSimpArgs false
set_option linter.unusedVariables false
theorem RefWords : atticlaw12_RefWords.Pure := by
  intro x0 x1 x2 _ _ h2
  obtain ⟨u0, u1⟩ := u64_range h2
  refine ⟨12, ?_⟩
  unfold atticlaw12_RefWords.f
  rw [parse_same u0 u1]
  obtain ⟨r, hr⟩ := parse_some x2
  simp only [word, word', hr, begun_true, check, check', Option.bind_some, if_true]
  rw [compare 6, compare' 0]
  simp
end Go.Proofs.Ytpoheodaiaganaa.Pure
