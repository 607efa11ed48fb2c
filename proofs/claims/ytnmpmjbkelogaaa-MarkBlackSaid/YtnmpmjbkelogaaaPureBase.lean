/- Whole numbers, words and bits: what the plain parts lean on. -/
import Derived.Test.YtnmpmjbkelogaaaPrint
import Derived.Laws.BitsAllLaws
namespace Go.Proofs.Ytnmpmjbkelogaaa.Pure
open Go.RowKit Go.Proofs.Ytnmpmjbkelogaaa.Print Go.Proofs.YtnmpmjbkelogaaaW.PrintWords Go.Proofs.YtnmpmjbkelogaaaW.PrintMore
set_option linter.unusedSimpArgs false
set_option linter.unusedVariables false

theorem up {α : Type} {f : Nat → Option α} (h : ∀ k, LeO (f k) (f (k + 1))) {m n : Nat} (hmn : m ≤ n) {r : α} (hr : f m = some r) : f n = some r := by
  obtain ⟨d, rfl⟩ := Nat.exists_eq_add_of_le hmn
  induction d with
  | zero => exact hr
  | succ d ih => exact h _ _ (ih (by omega))
theorem w64 {n : Int} (h0 : -9223372036854775808 ≤ n) (h1 : n ≤ 9223372036854775807) : wrap64 n = n := by unfold wrap64; omega
theorem i64_range {n : Int} (h : (Lit.int .i64 n).wf = true) : -9223372036854775808 ≤ n ∧ n ≤ 9223372036854775807 := by
  simpa [Lit.wf, IntKind.min, IntKind.max, IntKind.signed, IntKind.bits] using h
theorem u32_range {n : Int} (h : (Lit.int .u32 n).wf = true) : 0 ≤ n ∧ n ≤ 4294967295 := by
  simpa [Lit.wf, IntKind.min, IntKind.max, IntKind.signed, IntKind.bits] using h
theorem u32_nat {n : Int} (h : (Lit.int .u32 n).wf = true) : ∃ a : Nat, n = (a : Int) ∧ a < 4294967296 := by
  have := u32_range h
  exact ⟨n.toNat, by omega, by omega⟩

theorem wrap_u64 (n : Int) : IntKind.u64.wrap n = n % 18446744073709551616 := by simp [IntKind.wrap, IntKind.bits, IntKind.signed]

theorem tm2 (x : Nat) : Int.tmod (x : Int) 2 = ((x % 2 : Nat) : Int) := by rw [Int.tmod_eq_emod_of_nonneg (by omega)]; omega

def UW (l : List Int) : Prop := ∀ y ∈ l, 0 ≤ y ∧ y < 4294967296
theorem UW_of {l : List Int} (h : ∀ y ∈ l, (Lit.int .u32 y).wf = true) : UW l := fun y hy => by have := u32_range (h y hy); omega
theorem nat_of {n : Int} (h : 0 ≤ n ∧ n < 4294967296) : n = ((n.toNat : Nat) : Int) ∧ n.toNat < 4294967296 := by omega
theorem rd_int (l : List Int) (i : Nat) (h : i < l.length) : rd l (i : Int) = l[i] := by simp [rd, h]
theorem wsucc {i : Nat} (h : i < 1000000000) : wrap64 ((i : Int) + 1) = ((i + 1 : Nat) : Int) := by rw [w64 (by omega) (by omega)]; rfl
theorem wadd {s q : Nat} (h : s + q < 1000000000) : wrap64 ((s : Int) + (q : Int)) = ((s + q : Nat) : Int) := by rw [w64 (by omega) (by omega)]; rfl
/-! ### a bit -/
theorem bit1 (a n : Nat) (ha : a < 4294967296) (hn : n < 32) : bits .and .u32 (shr .u32 (a : Int) (IntKind.u64.wrap (n : Int))) 1 = if a.testBit n then 1 else 0 := by
  have hu : IntKind.u64.wrap (n : Int) = (n : Int) := by rw [wrap_u64]; omega
  have hlt : a / 2 ^ n < 4294967296 := Nat.lt_of_le_of_lt (Nat.div_le_self _ _) ha
  unfold shr
  rw [hu, Int.toNat_natCast, Nat.min_eq_left (by simp [IntKind.bits]; omega), show (a : Int) / 2 ^ n = ((a / 2 ^ n : Nat) : Int) from by simp, show (1 : Int) = ((1 : Nat) : Int) from rfl, u32_and_nat _ 1 hlt (by omega), Nat.and_one_is_mod, Nat.testBit_eq_decide_div_mod_eq]
  have := Nat.mod_two_eq_zero_or_one (a / 2 ^ n)
  rcases this with h0 | h0 <;> rw [h0] <;> rfl

end Go.Proofs.Ytnmpmjbkelogaaa.Pure
