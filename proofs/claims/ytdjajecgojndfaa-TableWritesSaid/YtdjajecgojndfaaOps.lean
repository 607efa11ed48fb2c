/- What the laws' parameters read as. -/
import Derived.Test.YtdjajecgojndfaaPrint0
import Derived.Test.YtdjajecgojndfaaOpens
namespace Go.Proofs.Ytdjajecgojndfaa.Print
open Go.RowKit Go.Proofs.YtdjajecgojndfaaW.PrintWords
theorem op34 : Opens.Op Try.prog 34 k34 G34 mu34 := by
  have h := Opens.op_iso (fun x : S34 => (x.f0, x.f1)) (fun p => ⟨p.1, p.2⟩) (fun _ => rfl) (Opens.op_struct (P := Try.prog) (t := 34) Try.underlying34 (by kernel_rfl) (Opens.fs_cons rfl (by kernel_rfl) (Opens.op_int Try.underlying3) (Opens.fs_one rfl (by kernel_rfl) (Opens.op_int Try.underlying32))))
  exact h
theorem op24 : Opens.Op Try.prog 24 k24 G24 mu24 := by
  have h := Opens.op_iso (fun x : S24 => x.f0) (fun p => ⟨p⟩) (fun _ => rfl) (Opens.op_struct (P := Try.prog) (t := 24) Try.underlying24 (by kernel_rfl) (Opens.fs_one rfl (by kernel_rfl) (Opens.op_slice z34 Try.underlying22 (by kernel_rfl) (B := 16) (by kernel_rfl) op34)))
  exact h
end Go.Proofs.Ytdjajecgojndfaa.Print
