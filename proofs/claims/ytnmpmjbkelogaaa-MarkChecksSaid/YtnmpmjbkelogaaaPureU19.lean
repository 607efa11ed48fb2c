/- Units of marking: what a state is, and that a unit keeps it. -/
import Derived.Test.YtnmpmjbkelogaaaPrint
import Derived.Test.YtnmpmjbkelogaaaPureV19
namespace Go.Proofs.Ytnmpmjbkelogaaa.Pure
open Go.RowKit Go.Proofs.Ytnmpmjbkelogaaa.Print Go.Proofs.YtnmpmjbkelogaaaW.PrintWords Go.Proofs.YtnmpmjbkelogaaaW.PrintMore
set_option linter.unusedSimpArgs false
set_option linter.unusedVariables false

/-- Marks and a stack that may be. -/
structure Bs (lc : List Cel) (room : Int) (x : MS) : Prop where
  ml : x.marks.length = lc.length
  sl : (x.stack.length : Int) ≤ room
  kd : ∀ i : Nat, x.marks.getD i false = true → (lc.getD i ⟨0, []⟩).f0 ≠ 0
  stk : ∀ i ∈ x.stack, isThere lc i = true ∧ rdOf false x.marks i = true
  nd : x.stack.Nodup
/-- What a touch leaves as it was. -/
structure Like (x y : MS) : Prop where
  ph : y.ph = x.ph
  at_ : y.at_ = x.at_
  again : y.again = x.again
  scan : y.scan = x.scan
  up : ∀ i : Nat, x.marks.getD i false = true → y.marks.getD i false = true
theorem Like.refl (x : MS) : Like x x := ⟨rfl, rfl, rfl, rfl, fun _ h => h⟩
theorem Like.trans {x y z : MS} (h : Like x y) (k : Like y z) : Like x z := ⟨k.ph.trans h.ph, k.at_.trans h.at_, k.again.trans h.again, k.scan.trans h.scan, fun i hi => k.up i (h.up i hi)⟩
/-- Rounds enough for what counts of each cell. -/
def Kc (lc : List Cel) (k : Nat) : Prop := ∀ c ∈ lc, c.f1.length < k ∧ c.f1.length < 17592186044416
theorem Bs.take {lc : List Cel} {room : Int} {x : MS} (h : Bs lc room x) (n : Nat) : Bs lc room { x with stack := x.stack.take n } :=
  ⟨h.ml, by have := h.sl; have : (x.stack.take n).length ≤ x.stack.length := List.length_take_le' n x.stack; show ((x.stack.take n).length : Int) ≤ room; omega, h.kd, fun i hi => h.stk i (List.mem_of_mem_take hi), h.nd.sublist (List.take_sublist _ _)⟩
end Go.Proofs.Ytnmpmjbkelogaaa.Pure
