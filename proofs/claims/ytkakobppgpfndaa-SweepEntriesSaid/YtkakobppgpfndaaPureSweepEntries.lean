/- Any entry, swept by any marks: the law's pure part. -/
import Derived.Test.YtkakobppgpfndaaPrint5
import Derived.Test.YtkakobppgpfndaaPureLive
namespace Go.Proofs.Ytkakobppgpfndaa.Pure
open Go.RowKit Go.Proofs.Ytkakobppgpfndaa.Print Go.Proofs.YtkakobppgpfndaaW.PrintWords Go.Proofs.YtkakobppgpfndaaW.PrintMore
set_option linter.unusedVariables false

theorem SweepEntries : atticlaw21_SweepEntries.Pure := by
  rintro ⟨c, al⟩ ml ⟨h0, h1⟩ hx
  obtain ⟨a, e, ha⟩ := u32_nat h1
  obtain ⟨m, rfl, hm⟩ := u32_nat hx
  have e' : al = (a : Int) := e
  subst e'
  refine ⟨100, ?_⟩
  unfold atticlaw21_SweepEntries.f
  rw [sweep c a m ha hm (Nat.le_refl _), Option.bind_some, sweep' c a m ha hm (Nat.le_refl _), Option.bind_some, live (Nat.le_refl _), Option.bind_some, if_pos rfl]
  simp

end Go.Proofs.Ytkakobppgpfndaa.Pure
