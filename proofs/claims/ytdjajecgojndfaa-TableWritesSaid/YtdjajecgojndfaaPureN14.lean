/- New tables. -/
import Derived.Test.YtdjajecgojndfaaPrint
import Derived.Test.YtdjajecgojndfaaPureT14
namespace Go.Proofs.Ytdjajecgojndfaa.Pure
open Go.RowKit Go.Proofs.Ytdjajecgojndfaa.Print Go.Proofs.YtdjajecgojndfaaW.PrintWords Go.Proofs.YtdjajecgojndfaaW.PrintMore
set_option linter.unusedSimpArgs false
set_option linter.unusedVariables false

/-! ### new ones -/
theorem new_l0 (a : Nat) (ha : a ≤ 256) : ∀ (m i fuel : Nat), i + m = a → atticref14_New.l0 (m + 1 + fuel) (a : Int) (i : Int) (List.replicate i ⟨-1, 0⟩) = some (List.replicate a ⟨-1, 0⟩, 0)
  | 0, i, fuel, h => by
    obtain rfl : i = a := by omega
    rw [show 0 + 1 + fuel = fuel + 1 from by omega, atticref14_New.l0, if_neg (by omega)]
  | m + 1, i, fuel, h => by
    rw [show m + 1 + 1 + fuel = (m + 1 + fuel) + 1 from by omega, atticref14_New.l0, if_pos (by omega), if_pos (by rw [List.length_replicate]; omega), wsucc (by omega), ← List.replicate_succ', new_l0 a ha m (i + 1) fuel (by omega)]
theorem news (a : Int) {k : Nat} (hk : 500 ≤ k) : ∃ l e, table_New.f a = some (l, e) ∧ atticref14_New.f k a = some (l, e) ∧ l.length ≤ 400 := by
  obtain ⟨k, rfl⟩ : ∃ k', k = k' + 1 := ⟨k - 1, by omega⟩
  rw [table_New.f, atticref14_New.f]
  by_cases h0 : a < 1
  · exact ⟨[], 1, by rw [if_pos (Or.inl h0)], by rw [if_pos h0, atticref14_New.j0, if_pos rfl], by simp⟩
  · by_cases h1 : a > 256
    · exact ⟨[], 1, by rw [if_pos (Or.inr h1)], by rw [if_neg h0, atticref14_New.j0, decide_eq_true h1, if_pos rfl], by simp⟩
    · have h2 := new_l0 a.toNat (by omega) a.toNat 0 (k - a.toNat - 1) (by omega)
      rw [show a.toNat + 1 + (k - a.toNat - 1) = k from by omega, show (a.toNat : Int) = a from by omega] at h2
      refine ⟨List.replicate a.toNat ⟨-1, 0⟩, 0, by rw [if_neg (by omega)], ?_, by rw [List.length_replicate]; omega⟩
      rw [if_neg h0, atticref14_New.j0, decide_eq_false h1, if_neg (by decide)]
      exact h2
end Go.Proofs.Ytdjajecgojndfaa.Pure
