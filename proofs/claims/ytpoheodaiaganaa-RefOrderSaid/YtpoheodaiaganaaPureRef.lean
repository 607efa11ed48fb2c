/- References' words and their order: what the printed functions of layer 12 come to, in plain arithmetic. -/
import Derived.Test.YtpoheodaiaganaaPrint3
import Derived.Laws.BitsLemmas
namespace Go.Proofs.Ytpoheodaiaganaa.Pure
open Go.RowKit Go.Proofs.Ytpoheodaiaganaa.Print Go.Proofs.YtpoheodaiaganaaW.PrintWords Go.Proofs.YtpoheodaiaganaaW.PrintMore
set_option linter.unusedSimpArgs false
set_option linter.unusedVariables false

theorem wrap_u64 (n : Int) : IntKind.u64.wrap n = n % 18446744073709551616 := by simp [IntKind.wrap, IntKind.bits, IntKind.signed]
theorem wraps_u64 (n : Int) (h₀ : 0 ≤ n) (h₁ : n < 2 ^ 64) : IntKind.u64.wrap n = n := by rw [wrap_u64]; omega
theorem i64_range {n : Int} (h : (Lit.int .i64 n).wf = true) : -9223372036854775808 ≤ n ∧ n ≤ 9223372036854775807 := by
  simpa [Lit.wf, IntKind.min, IntKind.max, IntKind.signed, IntKind.bits] using h
theorem u64_range {n : Int} (h : (Lit.int .u64 n).wf = true) : 0 ≤ n ∧ n ≤ 18446744073709551615 := by
  simpa [Lit.wf, IntKind.min, IntKind.max, IntKind.signed, IntKind.bits] using h

def cmpI (a b : Int) : Int := if a < b then -1 else if a > b then 1 else 0
theorem cmp64 (a b : Int) : cmp_Compare_int64.f a b = some (cmpI a b) := by
  unfold cmp_Compare_int64.f cmp_isNaN_int64.f cmpI
  simp
  split <;> (try rfl)
  split <;> rfl
theorem cmpi (a b : Int) : cmp_Compare_int.f a b = some (cmpI a b) := by
  unfold cmp_Compare_int.f cmp_isNaN_int.f cmpI
  simp
  split <;> (try rfl)
  split <;> rfl
def or3 (a b c : Int) : Int := if a = 0 then (if b = 0 then c else b) else a
theorem w64_1 : wrap64 1 = 1 := by decide +kernel
theorem w64_2 : wrap64 2 = 2 := by decide +kernel
theorem w64_3 : wrap64 3 = 3 := by decide +kernel
theorem or_three (n : Nat) (a b c : Int) : cmp_Or_int.f (n + 6) [a, b, c] = some (or3 a b c) := by
  unfold cmp_Or_int.f or3
  by_cases ha : a = 0
  · subst ha
    by_cases hb : b = 0
    · subst hb
      by_cases hc : c = 0
      · subst hc
        simp [cmp_Or_int.l0, rd, w64_1, w64_2, w64_3]
      · simp [cmp_Or_int.l0, rd, w64_1, w64_2, w64_3, hc]
    · simp [cmp_Or_int.l0, rd, w64_1, w64_2, w64_3, hb]
  · simp [cmp_Or_int.l0, rd, w64_1, w64_2, w64_3, ha]

/-- Which of two references comes ahead. -/
def cmp3 (e1 s1 g1 e2 s2 g2 : Int) : Int := or3 (cmpI g1 g2) (cmpI e1 e2) (cmpI s1 s2)
theorem compare (n : Nat) (e1 s1 g1 e2 s2 g2 : Int) : ref_Compare.f (n + 6) e1 s1 g1 e2 s2 g2 = some (cmp3 e1 s1 g1 e2 s2 g2) := by
  unfold ref_Compare.f
  simp only [cmp64, cmpi, Option.bind_some, or_three]
  rfl
theorem compare' (n : Nat) (e1 s1 g1 e2 s2 g2 : Int) : atticref12_Compare.f (n + 12) e1 s1 g1 e2 s2 g2 = some (cmp3 e1 s1 g1 e2 s2 g2) := by
  unfold atticref12_Compare.f cmp3 or3 cmpI
  simp [atticref12_Compare.l0, atticref12_Compare.j1, rd, w64_1, w64_2, w64_3]
  repeat' split
  all_goals first | rfl | omega

theorem begun_true : atticlaw12_begun.f = some true := by decide +kernel

/-- May a reference be. -/
def chk (e s g : Int) : Int := if e = 0 ∧ s = 0 ∧ g = 0 then 0 else if e < 0 ∨ e ≥ 256 ∨ s < 0 ∨ s ≥ 32 ∨ g < 1 ∨ g > 1099511627776 then 120 else 0
theorem check (e s g : Int) : ref_Check.f e s g = some (chk e s g) := by
  unfold ref_Check.f chk
  by_cases h : e = 0 ∧ s = 0 ∧ g = 0
  · rw [if_pos h, if_pos (by simp [h])]
  · rw [if_neg h, if_neg (by simpa using h)]
    repeat' split
    all_goals first | rfl | omega
theorem check' (e s g : Int) : atticref12_Check.f e s g = some (chk e s g) := check e s g
theorem chk_zero {e s g : Int} (h : chk e s g = 0) : (e = 0 ∧ s = 0 ∧ g = 0) ∨ (0 ≤ e ∧ e < 256 ∧ 0 ≤ s ∧ s < 32 ∧ 1 ≤ g ∧ g ≤ 1099511627776) := by
  unfold chk at h
  split at h
  · left; assumption
  · split at h
    · omega
    · right; omega
theorem chk_120 {e s g : Int} (h : chk e s g ≠ 0) : chk e s g = 120 := by
  unfold chk at h ⊢
  split
  · rename_i h1; rw [if_pos h1] at h; exact absurd rfl h
  · rename_i h1; rw [if_neg h1] at h
    split
    · rfl
    · rename_i h2; rw [if_neg h2] at h; exact absurd rfl h

/-- A reference's word, where it may be. -/
theorem or_word {e s g : Int} (he : 0 ≤ e) (he' : e < 256) (hs : 0 ≤ s) (hs' : s < 256) (hg : 0 ≤ g) (hg' : g ≤ 1099511627776) :
    Go.bits .or .u64 (Go.bits .or .u64 (IntKind.u64.wrap ((IntKind.u64.wrap g) * 65536)) (IntKind.u64.wrap ((IntKind.u64.wrap e) * 256))) (IntKind.u64.wrap s) = g * 65536 + e * 256 + s := by
  rw [wraps_u64 g hg (by omega), wraps_u64 (g * 65536) (by omega) (by omega), wraps_u64 e he (by omega), wraps_u64 (e * 256) (by omega) (by omega), wraps_u64 s hs (by omega)]
  rw [bits_join .u64 64 (by decide) wraps_u64 16 (g * 65536) (e * 256) (by omega) (by omega) (by omega) (by omega) (by omega) (by omega)]
  rw [bits_join .u64 64 (by decide) wraps_u64 8 (g * 65536 + e * 256) s (by omega) (by omega) (by omega) (by omega) (by omega) (by omega)]
theorem word (e s g : Int) : ref_Word.f e s g = some (if chk e s g = 0 then (g * 65536 + e * 256 + s, 0) else (0, 120)) := by
  unfold ref_Word.f
  rw [check, Option.bind_some]
  by_cases h : chk e s g = 0
  · rw [if_pos h, if_pos h]
    rcases chk_zero h with ⟨rfl, rfl, rfl⟩ | ⟨h0, h1, h2, h3, h4, h5⟩
    · rw [or_word (by omega) (by omega) (by omega) (by omega) (by omega) (by omega)]
    · rw [or_word h0 h1 h2 (by omega) (by omega) h5]
  · rw [if_neg h, if_neg h, chk_120 h]
theorem word' (e s g : Int) : atticref12_Word.f e s g = some (if chk e s g = 0 then (g * 65536 + e * 256 + s, 0) else (0, 120)) := by
  unfold atticref12_Word.f
  rw [check', Option.bind_some]
  by_cases h : chk e s g = 0
  · rw [if_pos h, if_pos h]
    rcases chk_zero h with ⟨rfl, rfl, rfl⟩ | ⟨h0, h1, h2, h3, h4, h5⟩
    · simp [wrap_u64]
    · rw [wraps_u64 g (by omega) (by omega), wraps_u64 (g * 65536) (by omega) (by omega), wraps_u64 e (by omega) (by omega), wraps_u64 (e * 256) (by omega) (by omega), wraps_u64 s (by omega) (by omega),
        wraps_u64 (g * 65536 + e * 256) (by omega) (by omega), wraps_u64 _ (by omega) (by omega)]
  · rw [if_neg h, if_neg h, chk_120 h]

theorem and255 {x : Int} (h0 : 0 ≤ x) (h1 : x ≤ 18446744073709551615) : Go.bits .and .u64 x 255 = x % 256 := bits_mask .u64 64 (by decide) wraps_u64 8 (by decide) x h0 (by omega)
theorem parse_same {w : Int} (h0 : 0 ≤ w) (h1 : w ≤ 18446744073709551615) : ref_Parse.f w = atticref12_Parse.f w := by
  unfold ref_Parse.f atticref12_Parse.f
  have e1 : Int.tdiv w 256 = w / 256 := Int.tdiv_eq_ediv_of_nonneg h0
  have e2 : Int.tdiv w 65536 = w / 65536 := Int.tdiv_eq_ediv_of_nonneg h0
  have e3 : Int.tmod w 256 = w % 256 := Int.tmod_eq_emod_of_nonneg h0
  rw [e1, e2, e3, wraps_u64 (w / 256) (by omega) (by omega), wraps_u64 (w / 65536) (by omega) (by omega), Int.tmod_eq_emod_of_nonneg (by omega), and255 (by omega) (by omega), and255 h0 h1]
  simp only [check, check', Option.bind_some]
theorem parse_some (w : Int) : ∃ r, atticref12_Parse.f w = some r := by
  unfold atticref12_Parse.f
  rw [check', Option.bind_some]
  split <;> exact ⟨_, rfl⟩
end Go.Proofs.Ytpoheodaiaganaa.Pure
