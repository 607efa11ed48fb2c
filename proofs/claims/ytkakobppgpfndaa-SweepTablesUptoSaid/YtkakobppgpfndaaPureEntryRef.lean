/- The document's sweeping of an entry comes to the same. -/
import Derived.Test.YtkakobppgpfndaaPrint
import Derived.Test.YtkakobppgpfndaaPureEntry
import Derived.Test.YtkakobppgpfndaaPureEntry14
namespace Go.Proofs.Ytkakobppgpfndaa.Pure
open Go.RowKit Go.Proofs.Ytkakobppgpfndaa.Print Go.Proofs.YtkakobppgpfndaaW.PrintWords Go.Proofs.YtkakobppgpfndaaW.PrintMore
set_option linter.unusedSimpArgs false
set_option linter.unusedVariables false

theorem sweep_l0 (c : Int) (a m : Nat) (ha : a < 4294967296) (hm : m < 4294967296) : ∀ (j n s fuel : Nat), n + j = 32 → s ≤ n →
    atticref21_Entry.l0 (j + 1 + fuel) (m : Int) (s : Int) (n : Int) c (a : Int) = some (if a &&& m = 0 then -1 else c, ((a &&& m : Nat) : Int), ((s + cnt (fun i => a.testBit i && !m.testBit i) n j : Nat) : Int))
  | 0, n, s, fuel, h, hs => by
    obtain rfl : n = 32 := by omega
    rw [show 0 + 1 + fuel = fuel + 1 from by omega]
    rw [atticref21_Entry.l0, cnt]
    rw [if_neg (by decide), u32_and_nat a m ha hm]
    by_cases h0 : a &&& m = 0
    · rw [if_pos (by rw [h0]; rfl), if_pos h0]; rfl
    · rw [if_neg (by omega), if_neg h0]; rfl
  | j + 1, n, s, fuel, h, hs => by
    have hw : wrap64 ((n : Int) + 1) = ((n + 1 : Nat) : Int) := by rw [w64 (by omega) (by omega)]; rfl
    have hw' : wrap64 ((s : Int) + 1) = ((s + 1 : Nat) : Int) := by rw [w64 (by omega) (by omega)]; rfl
    have hu : IntKind.u64.wrap (n : Int) = (n : Int) := by rw [wrap_u64]; omega
    have hs' : ∀ x : Nat, Int.tmod (shr .u32 (x : Int) (n : Int)) 2 = if x.testBit n then 1 else 0 := fun x => by
      unfold shr
      rw [Int.toNat_natCast, Nat.min_eq_left (by simp [IntKind.bits]; omega), show (x : Int) / 2 ^ n = ((x / 2 ^ n : Nat) : Int) from by simp, Nat.testBit_eq_decide_div_mod_eq]
      have := Nat.mod_two_eq_zero_or_one (x / 2 ^ n)
      rw [tm2]
      rcases this with h0 | h0 <;> rw [h0] <;> rfl
    rw [show j + 1 + 1 + fuel = (j + 1 + fuel) + 1 from by omega]
    rw [atticref21_Entry.l0, cnt]
    rw [if_pos (by omega), hu, if_pos (by omega), hs' a, hs' m, hw, hw']
    have i1 := sweep_l0 c a m ha hm j (n + 1) (s + 1) fuel (by omega) (by omega)
    have i0 := sweep_l0 c a m ha hm j (n + 1) s fuel (by omega) (by omega)
    cases a.testBit n <;> cases m.testBit n <;> simp only [Bool.false_eq_true, if_true, if_false, Bool.and_true, Bool.and_false, Bool.not_true, Bool.not_false, Bool.true_and, Bool.false_and, Nat.zero_add, Int.reduceEq, Int.zero_ne_one] <;> first | exact i0 | (rw [i1, show s + 1 + cnt (fun i => a.testBit i && !m.testBit i) (n + 1) j = s + (1 + cnt (fun i => a.testBit i && !m.testBit i) (n + 1) j) from by omega])
theorem sweep' (c : Int) (a m : Nat) (ha : a < 4294967296) (hm : m < 4294967296) {k : Nat} (hk : 100 ≤ k) : atticref21_Entry.f k c (a : Int) (m : Int) = some (swept c a m) := by
  unfold atticref21_Entry.f swept
  rw [entry c a ha hk, Option.bind_some]
  cases okE c a
  · rfl
  · rw [if_pos rfl, if_pos rfl, show k = 32 + 1 + (k - 33) from by omega]
    have := sweep_l0 c a m ha hm 32 0 0 (k - 33) rfl (Nat.le_refl _)
    simpa using this

end Go.Proofs.Ytkakobppgpfndaa.Pure
