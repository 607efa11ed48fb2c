/- Whole numbers, words and bits: what the plain parts lean on. -/
import Derived.Test.YtdjajecgojndfaaPrint
import Derived.Laws.BitsAllLaws
namespace Go.Proofs.Ytdjajecgojndfaa.Pure
open Go.RowKit Go.Proofs.Ytdjajecgojndfaa.Print Go.Proofs.YtdjajecgojndfaaW.PrintWords Go.Proofs.YtdjajecgojndfaaW.PrintMore
set_option linter.unusedSimpArgs false
set_option linter.unusedVariables false

theorem up {α : Type} {f : Nat → Option α} (h : ∀ k, LeO (f k) (f (k + 1))) {m n : Nat} (hmn : m ≤ n) {r : α} (hr : f m = some r) : f n = some r := by
  obtain ⟨d, rfl⟩ := Nat.exists_eq_add_of_le hmn
  induction d with
  | zero => exact hr
  | succ d ih => exact h _ _ (ih (by omega))
theorem w64 {n : Int} (h0 : -9223372036854775808 ≤ n) (h1 : n ≤ 9223372036854775807) : wrap64 n = n := by unfold wrap64; omega
theorem u32_range {n : Int} (h : (Lit.int .u32 n).wf = true) : 0 ≤ n ∧ n ≤ 4294967295 := by
  simpa [Lit.wf, IntKind.min, IntKind.max, IntKind.signed, IntKind.bits] using h
theorem wrap_u64 (n : Int) : IntKind.u64.wrap n = n % 18446744073709551616 := by simp [IntKind.wrap, IntKind.bits, IntKind.signed]

theorem tm2 (x : Nat) : Int.tmod (x : Int) 2 = ((x % 2 : Nat) : Int) := by rw [Int.tmod_eq_emod_of_nonneg (by omega)]; omega

theorem nat_of {n : Int} (h : 0 ≤ n ∧ n < 4294967296) : n = ((n.toNat : Nat) : Int) ∧ n.toNat < 4294967296 := by omega
theorem wsucc {i : Nat} (h : i < 1000000000) : wrap64 ((i : Int) + 1) = ((i + 1 : Nat) : Int) := by rw [w64 (by omega) (by omega)]; rfl
theorem wadd {s q : Nat} (h : s + q < 1000000000) : wrap64 ((s : Int) + (q : Int)) = ((s + q : Nat) : Int) := by rw [w64 (by omega) (by omega)]; rfl
/-! ### a bit -/
end Go.Proofs.Ytdjajecgojndfaa.Pure
