/- Which states may be: the check, and runs. -/
import Derived.Test.YtnmpmjbkelogaaaPrint
import Derived.Test.YtnmpmjbkelogaaaPureU19
namespace Go.Proofs.Ytnmpmjbkelogaaa.Pure
open Go.RowKit Go.Proofs.Ytnmpmjbkelogaaa.Print Go.Proofs.YtnmpmjbkelogaaaW.PrintWords Go.Proofs.YtnmpmjbkelogaaaW.PrintMore
set_option linter.unusedSimpArgs false
set_option linter.unusedVariables false

theorem chkBad_false {lc : List Cel} {lr : List Int} {room ph at_ : Int} {m : List Bool} {st : List Int} {sc : Bool} : chkBad lc lr room ph at_ m st sc = false ↔
    0 ≤ at_ ∧ at_ ≤ furth lc lr ph sc ∧ m.length = lc.length ∧ (st.length : Int) ≤ room ∧ ((ph = 2 ∨ ph = 3) → st = []) ∧ (sc = true → ph = 1) := by
  unfold chkBad
  simp only [Bool.or_eq_false_iff, decide_eq_false_iff_not, Decidable.not_not]
  constructor
  · rintro ⟨⟨⟨⟨⟨h1, h2⟩, h3⟩, h4⟩, h5⟩, h6⟩
    refine ⟨by omega, by omega, h3, by omega, fun h => ?_, fun h => ?_⟩
    · rw [decide_eq_true h, Bool.true_and] at h5
      have := of_decide_eq_false h5
      exact List.eq_nil_of_length_eq_zero (by omega)
    · rw [h, Bool.true_and] at h6
      have := of_decide_eq_false h6
      omega
  · rintro ⟨h1, h2, h3, h4, h5, h6⟩
    refine ⟨⟨⟨⟨⟨by omega, by omega⟩, h3⟩, by omega⟩, ?_⟩, ?_⟩
    · by_cases h : ph = 2 ∨ ph = 3
      · rw [h5 h]; simp
      · rw [decide_eq_false h]; rfl
    · cases sc with
      | false => rfl
      | true => rw [h6 rfl]; rfl
/-! ### runs -/
section
variable (lc : List Cel) (lr : List Int) (room : Int) (k : Nat)
def un (x : MS) : MS := (MS.unit (fun m j => mark_counts.f k lc lr m j) (fun m => pairedL lc m) lc.length lr room x).getD x
/-- So many units, if it is not done before; and how many. -/
def it : Nat → MS → MS × Nat
  | 0, x => (x, 0)
  | d + 1, x => if x.ph = 3 then (x, 0) else let q := it d (un lc lr room k x); (q.1, q.2 + 1)
end
variable {lc : List Cel} {lr : List Int} {room : Int} {k : Nat}
end Go.Proofs.Ytnmpmjbkelogaaa.Pure
