/- Whole numbers, words and bits: what the plain parts lean on. -/
import Derived.Test.YtnmpmjbkelogaaaPrint
import Derived.Laws.BitsAllLaws
namespace Go.Proofs.Ytnmpmjbkelogaaa.Pure
open Go.RowKit Go.Proofs.Ytnmpmjbkelogaaa.Print Go.Proofs.YtnmpmjbkelogaaaW.PrintWords Go.Proofs.YtnmpmjbkelogaaaW.PrintMore
set_option linter.unusedSimpArgs false
set_option linter.unusedVariables false

theorem up {α : Type} {f : Nat → Option α} (h : ∀ k, LeO (f k) (f (k + 1))) {m n : Nat} (hmn : m ≤ n) {r : α} (hr : f m = some r) : f n = some r := by
  obtain ⟨d, rfl⟩ := Nat.exists_eq_add_of_le hmn
  induction d with
  | zero => exact hr
  | succ d ih => exact h _ _ (ih (by omega))
theorem w64 {n : Int} (h0 : -9223372036854775808 ≤ n) (h1 : n ≤ 9223372036854775807) : wrap64 n = n := by unfold wrap64; omega
/-! ### a bit -/
end Go.Proofs.Ytnmpmjbkelogaaa.Pure
