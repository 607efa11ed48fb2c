/- What the laws' parameters read as. -/
import Derived.Test.YtnmpmjbkelogaaaPrint0
import Derived.Test.YtnmpmjbkelogaaaOpens
namespace Go.Proofs.Ytnmpmjbkelogaaa.Print
open Go.RowKit Go.Proofs.YtnmpmjbkelogaaaW.PrintWords
theorem op56 : Opens.Op Try.prog 56 k56 G56 mu56 := by
 have h := Opens.op_iso (fun x : S56 => (x.f0, x.f1)) (fun p => ⟨p.1, p.2⟩) (fun _ => rfl) (Opens.op_struct (P := Try.prog) (t := 56) Try.underlying56 (by kernel_rfl) (Opens.fs_cons rfl (by kernel_rfl) (Opens.op_int Try.underlying3) (Opens.fs_one rfl (by kernel_rfl) (Opens.op_slice 0 Try.underlying23 (by kernel_rfl) (B := 8) (by kernel_rfl) (Opens.op_int Try.underlying3)))))
 exact h
theorem op25 : Opens.Op Try.prog 25 k25 G25 mu25 := by
 have h := Opens.op_iso (fun x : S25 => (x.f0, x.f1)) (fun p => ⟨p.1, p.2⟩) (fun _ => rfl) (Opens.op_struct (P := Try.prog) (t := 25) Try.underlying25 (by kernel_rfl) (Opens.fs_cons rfl (by kernel_rfl) (Opens.op_slice z56 Try.underlying22 (by kernel_rfl) (B := 32) (by kernel_rfl) op56) (Opens.fs_one rfl (by kernel_rfl) (Opens.op_slice 0 Try.underlying23 (by kernel_rfl) (B := 8) (by kernel_rfl) (Opens.op_int Try.underlying3)))))
 exact h
theorem op28 : Opens.Op Try.prog 28 k28 G28 mu28 := by
 have h := Opens.op_iso (fun x : S28 => (x.f0, x.f1, x.f2, x.f3, x.f4, x.f5, x.f6)) (fun p => ⟨p.1, p.2.1, p.2.2.1, p.2.2.2.1, p.2.2.2.2.1, p.2.2.2.2.2.1, p.2.2.2.2.2.2⟩) (fun _ => rfl) (Opens.op_struct (P := Try.prog) (t := 28) Try.underlying28 (by kernel_rfl) (Opens.fs_cons rfl (by kernel_rfl) (Opens.op_int Try.underlying3) (Opens.fs_cons rfl (by kernel_rfl) (Opens.op_int Try.underlying3) (Opens.fs_cons rfl (by kernel_rfl) (Opens.op_slice false Try.underlying26 (by kernel_rfl) (B := 1) (by kernel_rfl) (Opens.op_bool Try.underlying4)) (Opens.fs_cons rfl (by kernel_rfl) (Opens.op_slice 0 Try.underlying23 (by kernel_rfl) (B := 8) (by kernel_rfl) (Opens.op_int Try.underlying3)) (Opens.fs_cons rfl (by kernel_rfl) (Opens.op_bool Try.underlying4) (Opens.fs_cons rfl (by kernel_rfl) (Opens.op_bool Try.underlying4) (Opens.fs_one rfl (by kernel_rfl) (Opens.op_bool Try.underlying4)))))))))
 exact h
theorem op30 : Opens.Op Try.prog 30 k30 G30 mu30 := by
 have h := Opens.op_iso (fun x : S30 => (x.f0, x.f1, x.f2)) (fun p => ⟨p.1, p.2.1, p.2.2⟩) (fun _ => rfl) (Opens.op_struct (P := Try.prog) (t := 30) Try.underlying30 (by kernel_rfl) (Opens.fs_cons rfl (by kernel_rfl) (Opens.op_int Try.underlying3) (Opens.fs_cons rfl (by kernel_rfl) op28 (Opens.fs_one rfl (by kernel_rfl) (Opens.op_int Try.underlying3)))))
 exact h
end Go.Proofs.Ytnmpmjbkelogaaa.Print
