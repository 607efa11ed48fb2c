/- What the laws' parameters read as. -/
import Derived.Test.YtkakobppgpfndaaPrint0
import Derived.Test.YtkakobppgpfndaaOpens
namespace Go.Proofs.Ytkakobppgpfndaa.Print
open Go.RowKit Go.Proofs.YtkakobppgpfndaaW.PrintWords
theorem op24 : Opens.Op Try.prog 24 k24 G24 mu24 := by
  have h := Opens.op_iso (fun x : S24 => (x.f0, x.f1)) (fun p => ⟨p.1, p.2⟩) (fun _ => rfl) (Opens.op_struct (P := Try.prog) (t := 24) Try.underlying24 (by kernel_rfl) (Opens.fs_cons rfl (by kernel_rfl) (Opens.op_int Try.underlying3) (Opens.fs_one rfl (by kernel_rfl) (Opens.op_int Try.underlying22))))
  exact h
theorem op31 : Opens.Op Try.prog 31 k31 G31 mu31 := by
  have h := Opens.op_iso (fun x : S31 => x.f0) (fun p => ⟨p⟩) (fun _ => rfl) (Opens.op_struct (P := Try.prog) (t := 31) Try.underlying31 (by kernel_rfl) (Opens.fs_one rfl (by kernel_rfl) (Opens.op_slice z24 Try.underlying29 (by kernel_rfl) (B := 16) (by kernel_rfl) op24)))
  exact h
end Go.Proofs.Ytkakobppgpfndaa.Print
