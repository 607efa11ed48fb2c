/- What the laws' parameters read as. -/
import Derived.Test.YtpoheodaiaganaaPrint0
import Derived.Test.YtpoheodaiaganaaOpens
namespace Go.Proofs.Ytpoheodaiaganaa.Print
open Go.RowKit Go.Proofs.YtpoheodaiaganaaW.PrintWords
theorem op23 : Opens.Op Try.prog 23 k23 G23 mu23 := by
  have h := Opens.op_iso (fun x : S23 => (x.f0, x.f1, x.f2)) (fun p => ⟨p.1, p.2.1, p.2.2⟩) (fun _ => rfl) (Opens.op_struct (P := Try.prog) (t := 23) Try.underlying23 (by kernel_rfl) (Opens.fs_cons rfl (by kernel_rfl) (Opens.op_int Try.underlying3) (Opens.fs_cons rfl (by kernel_rfl) (Opens.op_int Try.underlying3) (Opens.fs_one rfl (by kernel_rfl) (Opens.op_int Try.underlying2)))))
  exact h
end Go.Proofs.Ytpoheodaiaganaa.Print
