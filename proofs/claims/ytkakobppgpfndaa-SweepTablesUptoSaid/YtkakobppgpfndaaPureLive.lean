/- The chapter's example: it is true. -/
import Derived.Test.YtkakobppgpfndaaPrint
import Derived.Test.YtkakobppgpfndaaPureBase
namespace Go.Proofs.Ytkakobppgpfndaa.Pure
open Go.RowKit Go.Proofs.Ytkakobppgpfndaa.Print Go.Proofs.YtkakobppgpfndaaW.PrintWords Go.Proofs.YtkakobppgpfndaaW.PrintMore
set_option linter.unusedVariables false
set_option maxRecDepth 100000 in
theorem live100 : atticlaw21_live.f 100 = some true := by decide +kernel
theorem live {k : Nat} (hk : 100 ≤ k) : atticlaw21_live.f k = some true := up (fun k => atticlaw21_live.mono k) hk live100
end Go.Proofs.Ytkakobppgpfndaa.Pure
