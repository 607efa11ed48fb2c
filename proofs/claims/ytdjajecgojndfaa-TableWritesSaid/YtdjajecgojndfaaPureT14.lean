/- An extent's entry and a table of them: what the printed functions of layer 14 come to, in plain arithmetic and lists. -/
import Derived.Test.YtdjajecgojndfaaPrint
import Derived.Test.YtdjajecgojndfaaPureBase
import Derived.Laws.BitsAllLaws
namespace Go.Proofs.Ytdjajecgojndfaa.Pure
open Go.RowKit Go.Proofs.Ytdjajecgojndfaa.Print Go.Proofs.YtdjajecgojndfaaW.PrintWords Go.Proofs.YtdjajecgojndfaaW.PrintMore
set_option linter.unusedSimpArgs false
set_option linter.unusedVariables false


/-! ### bits -/
/-- Whether none of the m bits from n on is set. -/
def non (p : Nat → Bool) : Nat → Nat → Bool
  | _, 0 => true
  | n, m + 1 => !p n && non p (n + 1) m
theorem non_iff (p : Nat → Bool) : ∀ {m n : Nat}, non p n m = true ↔ ∀ j, n ≤ j → j < n + m → p j = false
  | 0, n => by simp [non]; omega
  | m + 1, n => by
    unfold non
    rw [Bool.and_eq_true, non_iff p (m := m) (n := n + 1)]
    constructor
    · rintro ⟨h1, h2⟩ j hj1 hj2
      rcases Nat.lt_or_ge n j with h | h
      · exact h2 j h (by omega)
      · obtain rfl : j = n := by omega
        simpa using h1
    · exact fun h => ⟨by simpa using h n (Nat.le_refl _) (by omega), fun j hj1 hj2 => h j (by omega) (by omega)⟩
theorem non_lt {a n : Nat} (ha : a < 4294967296) (hn : n ≤ 32) : non a.testBit n (32 - n) = decide (a < 2 ^ n) := by
  rw [Bool.eq_iff_iff, non_iff, decide_eq_true_iff]
  constructor
  · intro h
    refine Nat.lt_pow_two_of_testBit a fun j hj => ?_
    rcases Nat.lt_or_ge j 32 with h1 | h1
    · exact h j hj (by omega)
    · exact Nat.testBit_lt_two_pow (Nat.lt_of_lt_of_le ha (Nat.pow_le_pow_right (n := 2) (by omega) h1))
  · exact fun h j hj _ => Nat.testBit_lt_two_pow (Nat.lt_of_lt_of_le h (Nat.pow_le_pow_right (by omega) hj))

/-- An entry's four bytes. -/
def row (a : Nat) : List Int := [(a : Int) % 256, ((a : Int) / 256) % 256, ((a : Int) / 65536) % 256, ((a : Int) / 16777216) % 256]
theorem row_eq (c : Int) (a : Nat) : table_row.f c a = some (row a) := rfl
theorem byte_bit (a q r : Nat) (hr : r < 8) : ((a / 2 ^ (8 * q)) % 256 / 2 ^ r) % 2 = if a.testBit (8 * q + r) then 1 else 0 := by
  have h : ((a / 2 ^ (8 * q)) % 2 ^ 8).testBit r = a.testBit (8 * q + r) := by
    rw [Nat.testBit_mod_two_pow, Nat.testBit_div_two_pow]
    simp [hr, Nat.add_comm]
  rw [← h, Nat.testBit_eq_decide_div_mod_eq]
  have := Nat.mod_two_eq_zero_or_one ((a / 2 ^ (8 * q)) % 256 / 2 ^ r)
  rcases this with h0 | h0 <;> simp [h0]
theorem rd_row (a : Nat) (q : Nat) (hq : q < 4) : rd (row a) (q : Int) = ((a / 2 ^ (8 * q) % 256 : Nat) : Int) := by
  have : q = 0 ∨ q = 1 ∨ q = 2 ∨ q = 3 := by omega
  rcases this with rfl | rfl | rfl | rfl <;> simp [rd, row]
theorem get_bit (a i : Nat) (hi : i < 32) : bits_Get.f (row a) (i : Int) = some (a.testBit i) := by
  have hl : (row a).length = 4 := rfl
  have hd : Int.tdiv (i : Int) 8 = ((i / 8 : Nat) : Int) := by rw [Int.tdiv_eq_ediv_of_nonneg (by omega)]; omega
  have hm : Int.tmod (i : Int) 8 = ((i % 8 : Nat) : Int) := by rw [Int.tmod_eq_emod_of_nonneg (by omega)]; omega
  have hw : wrap64 ((i / 8 : Nat) : Int) = ((i / 8 : Nat) : Int) := w64 (by omega) (by omega)
  have hs : shr .u8 (((a / 2 ^ (8 * (i / 8)) % 256 : Nat) : Int)) ((i % 8 : Nat) : Int) = ((a / 2 ^ (8 * (i / 8)) % 256 / 2 ^ (i % 8) : Nat) : Int) := by
    unfold shr
    rw [Int.toNat_natCast, Nat.min_eq_left (by simp [IntKind.bits]; omega)]
    simp
  have hb := byte_bit a (i / 8) (i % 8) (by omega)
  rw [show 8 * (i / 8) + i % 8 = i from by omega] at hb
  have hlt : a / 2 ^ (8 * (i / 8)) % 256 / 2 ^ (i % 8) < 256 := Nat.lt_of_le_of_lt (Nat.div_le_self _ _) (Nat.mod_lt _ (by omega))
  unfold bits_Get.f bits_there.f
  rw [if_pos (show (i : Int) ≥ 0 by omega), hd, hw, hl, Option.bind_some, if_pos (by simp; omega), if_pos (by omega), if_pos (by omega), hm, if_pos (by omega), rd_row a (i / 8) (by omega), hs]
  rw [show (1 : Int) = ((1 : Nat) : Int) from rfl, u8_and_nat _ 1 hlt (by omega), Nat.and_one_is_mod, hb]
  cases a.testBit i <;> rfl
/-- Next says 32 just if no bit from there on is set. -/
theorem next_32 (a : Nat) : ∀ (m n fuel : Nat), n + m = 32 → ∃ v : Int, bits_Next.l0 (2 * m + 1 + fuel) (row a) 32 true (n : Int) = some v ∧ (v == 32) = non a.testBit n m
  | 0, n, fuel, h => by
    obtain rfl : n = 32 := by omega
    rw [show 2 * 0 + 1 + fuel = fuel + 1 from by omega]
    rw [bits_Next.l0]
    exact ⟨32, by rfl, rfl⟩
  | m + 1, n, fuel, h => by
    obtain ⟨v, hv, hv2⟩ := next_32 a m (n + 1) fuel (by omega)
    have ht : bits_there.f (row a) (n : Int) = some true := by
      unfold bits_there.f
      rw [if_pos (show (n : Int) ≥ 0 by omega), show Int.tdiv (n : Int) 8 = ((n / 8 : Nat) : Int) from by rw [Int.tdiv_eq_ediv_of_nonneg (by omega)]; omega, w64 (by omega) (by omega)]
      simp [row]; omega
    have hw : wrap64 ((n : Int) + 1) = ((n + 1 : Nat) : Int) := by rw [w64 (by omega) (by omega)]; rfl
    rw [show 2 * (m + 1) + 1 + fuel = (2 * m + 1 + fuel + 1) + 1 from by omega]
    rw [bits_Next.l0]
    rw [if_pos (by omega), ht, Option.bind_some, if_pos rfl]
    rw [bits_Next.j1]
    rw [if_neg (by decide), get_bit a n (by omega), Option.bind_some, hw]
    unfold non
    cases hb : a.testBit n with
    | true =>
      refine ⟨(n : Int), by simp, ?_⟩
      simp; omega
    | false => exact ⟨v, by simpa using hv, by simpa using hv2⟩

/-- How many slots a class has. -/
def slots (c : Int) : Nat := if c = 0 then 32 else if c = 1 then 16 else if c = 2 then 8 else if c = 3 then 4 else if c = 4 then 2 else if c = 5 then 1 else 0
theorem slots_le (c : Int) : slots c ≤ 32 := by unfold slots; (repeat' split) <;> omega
/-- May an entry be. -/
def okE (c : Int) (a : Nat) : Bool := decide (-1 ≤ c) && (decide (c < 6) && decide (a < 2 ^ slots c))
theorem geom_slots (c : Int) (h0 : -1 ≤ c) (h1 : c < 6) : geom_Slots.f c = some (slots c : Int) := by
  have : c = -1 ∨ c = 0 ∨ c = 1 ∨ c = 2 ∨ c = 3 ∨ c = 4 ∨ c = 5 := by omega
  rcases this with rfl | rfl | rfl | rfl | rfl | rfl | rfl <;> decide +kernel
theorem may (c : Int) (a : Nat) (ha : a < 4294967296) {k : Nat} (hk : 100 ≤ k) : table_may.f k c (a : Int) = some (okE c a) := by
  obtain ⟨k, rfl⟩ : ∃ k', k = k' + 1 := ⟨k - 1, by omega⟩
  unfold table_may.f okE
  by_cases h0 : c < -1
  · rw [if_pos h0]
    rw [table_may.j0]
    rw [if_pos rfl, decide_eq_false (by omega : ¬ (-1 ≤ c))]
    rfl
  · rw [if_neg h0, decide_eq_true (by omega : -1 ≤ c)]
    rw [table_may.j0]
    by_cases h1 : c ≥ 6
    · rw [decide_eq_true h1, if_pos rfl, decide_eq_false (by omega : ¬ (c < 6))]
      rfl
    · rw [decide_eq_false h1, if_neg (by decide), decide_eq_true (by omega : c < 6), geom_slots c (by omega) (by omega), Option.bind_some, row_eq, Option.bind_some]
      have hs := slots_le c
      obtain ⟨v, hv, hv2⟩ := next_32 a (32 - slots c) (slots c) (k - (2 * (32 - slots c) + 1)) (by omega)
      rw [show 2 * (32 - slots c) + 1 + (k - (2 * (32 - slots c) + 1)) = k from by omega] at hv
      unfold bits_Next.f
      rw [show mx (slots c : Int) 0 = (slots c : Int) from by unfold mx; split <;> omega, hv, Option.bind_some, hv2, non_lt ha hs]
      rfl

/-! ### an entry's bytes -/
theorem bytes (c : Int) (a : Nat) (ha : a < 4294967296) {k : Nat} (hk : 100 ≤ k) :
    table_Bytes.f k c (a : Int) = some (if okE c a then ([(wrap64 (c + 1)) % 256, 0, 0, 0] ++ row a, 0) else ([], 140)) := by
  unfold table_Bytes.f
  rw [may c a ha hk, Option.bind_some]
  cases okE c a
  · rfl
  · rw [if_pos rfl, Option.bind_some, row_eq, Option.bind_some]
    rfl

/-! ### the document's word on an entry -/
/-! ### tables -/
abbrev Ent := S34
/-- The words of a table's entries are words. -/
def U (l : List Ent) : Prop := ∀ y ∈ l, 0 ≤ y.f1 ∧ y.f1 < 4294967296
theorem U_of {l : List Ent} (h : ∀ y ∈ l, G34 y) : U l := fun y hy => by have := u32_range (h y hy).2; omega
def okX (x : Ent) : Bool := okE x.f0 x.f1.toNat
def goodT (l : List Ent) : Bool := decide (1 ≤ l.length) && (decide (l.length ≤ 256) && l.all okX)
theorem rd_ent (l : List Ent) (i : Nat) (h : i < l.length) : rd_T34 l (i : Int) = l[i] := by simp [rd_T34, h]
/-! ### Check -/
theorem any_check {k : Nat} (hk : 100 ≤ k) : ∀ l : List Ent, U l → any_table_Check_1.f k l = some (!l.all okX)
  | [], _ => rfl
  | x :: l, h => by
    have hx := h x List.mem_cons_self
    obtain ⟨e, hl⟩ := nat_of hx
    have hm : table_Check_1.f k x.f0 x.f1 = some (!okX x) := by
      unfold table_Check_1.f
      rw [e, may _ _ hl hk]
      simp [okX, okE]
    rw [any_table_Check_1.f, hm, Option.bind_some, any_check hk l (fun y hy => h y (List.mem_cons_of_mem _ hy)), List.all_cons]
    cases okX x <;> simp
theorem check (l : List Ent) (h : U l) {k : Nat} (hk : 100 ≤ k) : table_Check.f k l = some (if goodT l then 0 else 140) := by
  unfold table_Check.f goodT
  by_cases h1 : (l.length : Int) < 1
  · rw [if_pos h1, decide_eq_false (by omega : ¬ 1 ≤ l.length)]; rfl
  · rw [if_neg h1, decide_eq_true (by omega : 1 ≤ l.length)]
    by_cases h2 : (l.length : Int) > 256
    · rw [if_pos h2, decide_eq_false (by omega : ¬ l.length ≤ 256)]; rfl
    · rw [if_neg h2, decide_eq_true (by omega : l.length ≤ 256), any_check hk l h, Option.bind_some]
      cases l.all okX <;> rfl
theorem good_len {l : List Ent} (h : goodT l = true) : 1 ≤ l.length ∧ l.length ≤ 256 := by
  unfold goodT at h; simp at h; exact ⟨h.1, h.2.1⟩
theorem good_all {l : List Ent} (h : goodT l = true) : ∀ x ∈ l, okX x = true := by
  unfold goodT at h; simp at h; exact h.2.2

theorem begun {k : Nat} (hk : 300 ≤ k) : atticlaw14_begun.f k = some true := by
  refine up (fun k => atticlaw14_begun.mono k) hk ?_
  decide +kernel

/-! ### any slot's bit -/
theorem cls {x : Ent} (h : okX x = true) : -1 ≤ x.f0 ∧ x.f0 < 6 := by
  unfold okX okE at h; simp at h; exact ⟨h.1, h.2.1⟩
end Go.Proofs.Ytdjajecgojndfaa.Pure
