/- The document's word on an entry comes to the same. -/
import Derived.Test.YtkakobppgpfndaaPrint
import Derived.Test.YtkakobppgpfndaaPureEntry
import Derived.Laws.BitsAllLaws
namespace Go.Proofs.Ytkakobppgpfndaa.Pure
open Go.RowKit Go.Proofs.Ytkakobppgpfndaa.Print Go.Proofs.YtkakobppgpfndaaW.PrintWords Go.Proofs.YtkakobppgpfndaaW.PrintMore
set_option linter.unusedSimpArgs false
set_option linter.unusedVariables false

theorem ref_slots (c : Int) (h0 : 0 ≤ c) (h1 : c < 6) {k : Nat} (hk : 20 ≤ k) : atticref04_Slots.f k c = some (slots c : Int) := by
  refine up (fun k => atticref04_Slots.mono _ k) hk ?_
  have : c = 0 ∨ c = 1 ∨ c = 2 ∨ c = 3 ∨ c = 4 ∨ c = 5 := by omega
  rcases this with rfl | rfl | rfl | rfl | rfl | rfl <;> decide +kernel
theorem has (a i : Nat) (hi : i < 32) : atticref14_has.f (a : Int) (i : Int) = some (a.testBit i) := by
  have hw : IntKind.u64.wrap (i : Int) = (i : Int) := by rw [wrap_u64]; omega
  have hs : shr .u32 (a : Int) (i : Int) = ((a / 2 ^ i : Nat) : Int) := by
    unfold shr
    rw [Int.toNat_natCast, Nat.min_eq_left (by simp [IntKind.bits]; omega)]
    simp
  unfold atticref14_has.f
  rw [if_pos (by omega), if_pos (by omega), hw, if_pos (by omega), hs, tm2, Nat.testBit_eq_decide_div_mod_eq]
  have := Nat.mod_two_eq_zero_or_one (a / 2 ^ i)
  rcases this with h0 | h0 <;> rw [h0] <;> rfl
theorem entry_l0 (c : Int) (a : Nat) : ∀ (m n fuel : Nat), n + m = 32 → atticref14_Entry.l0 (m + 1 + fuel) (n : Int) c (a : Int) = some (non a.testBit n m)
  | 0, n, fuel, h => by
    obtain rfl : n = 32 := by omega
    rw [show 0 + 1 + fuel = fuel + 1 from by omega]
    rw [atticref14_Entry.l0]
    rfl
  | m + 1, n, fuel, h => by
    have hw : wrap64 ((n : Int) + 1) = ((n + 1 : Nat) : Int) := by rw [w64 (by omega) (by omega)]; rfl
    rw [show m + 1 + 1 + fuel = (m + 1 + fuel) + 1 from by omega]
    rw [atticref14_Entry.l0, non]
    rw [if_pos (by omega), has a n (by omega), Option.bind_some, hw, entry_l0 c a m (n + 1) fuel (by omega)]
    cases a.testBit n <;> rfl
theorem entry (c : Int) (a : Nat) (ha : a < 4294967296) {k : Nat} (hk : 100 ≤ k) : atticref14_Entry.f k c (a : Int) = some (okE c a) := by
  obtain ⟨k, rfl⟩ : ∃ k', k = k' + 1 := ⟨k - 1, by omega⟩
  unfold atticref14_Entry.f okE
  by_cases hm : c = -1
  · subst hm
    rw [if_pos rfl]
    congr 1
    rw [Bool.eq_iff_iff]
    first | (simp [slots]; done) | (simp [slots]; omega)
  · rw [if_neg hm]
    by_cases h0 : c < 0
    · rw [if_pos h0]
      rw [atticref14_Entry.j0]
      rw [if_pos rfl, decide_eq_false (by omega : ¬ (-1 ≤ c))]
      rfl
    · rw [if_neg h0, decide_eq_true (by omega : -1 ≤ c)]
      rw [atticref14_Entry.j0]
      by_cases h1 : c ≥ 6
      · rw [decide_eq_true h1, if_pos rfl, decide_eq_false (by omega : ¬ (c < 6))]
        rfl
      · have hs := slots_le c
        rw [decide_eq_false h1, if_neg (by decide), decide_eq_true (by omega : c < 6), ref_slots c (by omega) (by omega) (by omega), Option.bind_some]
        rw [show k = (32 - slots c) + 1 + (k - (32 - slots c + 1)) from by omega, entry_l0 c a (32 - slots c) (slots c) _ (by omega), non_lt ha hs]
        rfl

end Go.Proofs.Ytkakobppgpfndaa.Pure
