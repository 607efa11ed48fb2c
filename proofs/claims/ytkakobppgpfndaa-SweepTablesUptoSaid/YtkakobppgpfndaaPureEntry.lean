/- An extent's entry: what the printed functions of the layers 14 and 21 come to, in plain arithmetic. -/
import Derived.Test.YtkakobppgpfndaaPrint
import Derived.Test.YtkakobppgpfndaaPureBase
import Derived.Laws.BitsAllLaws
namespace Go.Proofs.Ytkakobppgpfndaa.Pure
open Go.RowKit Go.Proofs.Ytkakobppgpfndaa.Print Go.Proofs.YtkakobppgpfndaaW.PrintWords Go.Proofs.YtkakobppgpfndaaW.PrintMore
set_option linter.unusedSimpArgs false
set_option linter.unusedVariables false

/-! ### bits -/
/-- How many of the m bits from n on are set. -/
def cnt (p : Nat → Bool) : Nat → Nat → Nat
  | _, 0 => 0
  | n, m + 1 => (if p n then 1 else 0) + cnt p (n + 1) m
theorem cnt_le (p : Nat → Bool) : ∀ n m, cnt p n m ≤ m
  | _, 0 => Nat.le_refl _
  | n, m + 1 => by have := cnt_le p (n + 1) m; unfold cnt; split <;> omega
theorem cnt_add (p : Nat → Bool) : ∀ a b n, cnt p n (a + b) = cnt p n a + cnt p (n + a) b
  | 0, b, n => by simp [cnt]
  | a + 1, b, n => by
    rw [show a + 1 + b = (a + b) + 1 from by omega]
    rw [cnt, cnt, cnt_add p a b (n + 1), show n + 1 + a = n + (a + 1) from by omega]
    omega
theorem cnt32 (p : Nat → Bool) : cnt p 0 32 = cnt p (8 * 3) 8 + cnt p (8 * 2) 8 + cnt p (8 * 1) 8 + cnt p (8 * 0) 8 := by
  have h := cnt_add p 8 24 0
  have h' := cnt_add p 8 16 8
  have h'' := cnt_add p 8 8 16
  rw [show (32 : Nat) = 8 + 24 from rfl, h, show (0 : Nat) + 8 = 8 from rfl, show (24 : Nat) = 8 + 16 from rfl, h', show (8 : Nat) + 8 = 16 from rfl, show (16 : Nat) = 8 + 8 from rfl]
  rw [show (8 : Nat) + 8 = 16 from rfl, h'', show (8 : Nat) * 3 = 16 + 8 from rfl, show (8 : Nat) * 2 = 16 from rfl, show (8 : Nat) * 1 = 8 from rfl, show (8 : Nat) * 0 = 0 from rfl]
  generalize cnt p 0 8 = x0
  generalize cnt p 8 8 = x1
  generalize cnt p 16 8 = x2
  generalize cnt p (16 + 8) 8 = x3
  omega
theorem cnt_congr {p q : Nat → Bool} : ∀ {m n n' : Nat}, (∀ j, j < m → p (n + j) = q (n' + j)) → cnt p n m = cnt q n' m
  | 0, _, _, _ => rfl
  | m + 1, n, n', h => by
    unfold cnt
    rw [show p n = q n' from by simpa using h 0 (by omega), cnt_congr (m := m) (n := n + 1) (n' := n' + 1) (fun j hj => by have := h (j + 1) (by omega); rwa [show n + 1 + j = n + (j + 1) from by omega, show n' + 1 + j = n' + (j + 1) from by omega])]
theorem cnt_and (p q : Nat → Bool) : ∀ n m, cnt p n m = cnt (fun j => p j && q j) n m + cnt (fun j => p j && !q j) n m
  | _, 0 => rfl
  | n, m + 1 => by
    have := cnt_and p q (n + 1) m
    unfold cnt
    cases p n <;> cases q n <;> simp <;> omega
/-- Whether none of the m bits from n on is set. -/
def non (p : Nat → Bool) : Nat → Nat → Bool
  | _, 0 => true
  | n, m + 1 => !p n && non p (n + 1) m
theorem non_iff (p : Nat → Bool) : ∀ {m n : Nat}, non p n m = true ↔ ∀ j, n ≤ j → j < n + m → p j = false
  | 0, n => by simp [non]; omega
  | m + 1, n => by
    unfold non
    rw [Bool.and_eq_true, non_iff p (m := m) (n := n + 1)]
    constructor
    · rintro ⟨h1, h2⟩ j hj1 hj2
      rcases Nat.lt_or_ge n j with h | h
      · exact h2 j h (by omega)
      · obtain rfl : j = n := by omega
        simpa using h1
    · exact fun h => ⟨by simpa using h n (Nat.le_refl _) (by omega), fun j hj1 hj2 => h j (by omega) (by omega)⟩
theorem non_lt {a n : Nat} (ha : a < 4294967296) (hn : n ≤ 32) : non a.testBit n (32 - n) = decide (a < 2 ^ n) := by
  rw [Bool.eq_iff_iff, non_iff, decide_eq_true_iff]
  constructor
  · intro h
    refine Nat.lt_pow_two_of_testBit a fun j hj => ?_
    rcases Nat.lt_or_ge j 32 with h1 | h1
    · exact h j hj (by omega)
    · exact Nat.testBit_lt_two_pow (Nat.lt_of_lt_of_le ha (Nat.pow_le_pow_right (n := 2) (by omega) h1))
  · exact fun h j hj _ => Nat.testBit_lt_two_pow (Nat.lt_of_lt_of_le h (Nat.pow_le_pow_right (by omega) hj))

/-- An entry's four bytes. -/
def row (a : Nat) : List Int := [(a : Int) % 256, ((a : Int) / 256) % 256, ((a : Int) / 65536) % 256, ((a : Int) / 16777216) % 256]
theorem row_eq (c : Int) (a : Nat) : table_row.f c a = some (row a) := rfl
theorem byte_bit (a q r : Nat) (hr : r < 8) : ((a / 2 ^ (8 * q)) % 256 / 2 ^ r) % 2 = if a.testBit (8 * q + r) then 1 else 0 := by
  have h : ((a / 2 ^ (8 * q)) % 2 ^ 8).testBit r = a.testBit (8 * q + r) := by
    rw [Nat.testBit_mod_two_pow, Nat.testBit_div_two_pow]
    simp [hr, Nat.add_comm]
  rw [← h, Nat.testBit_eq_decide_div_mod_eq]
  have := Nat.mod_two_eq_zero_or_one ((a / 2 ^ (8 * q)) % 256 / 2 ^ r)
  rcases this with h0 | h0 <;> simp [h0]
theorem rd_row (a : Nat) (q : Nat) (hq : q < 4) : rd (row a) (q : Int) = ((a / 2 ^ (8 * q) % 256 : Nat) : Int) := by
  have : q = 0 ∨ q = 1 ∨ q = 2 ∨ q = 3 := by omega
  rcases this with rfl | rfl | rfl | rfl <;> simp [rd, row]
theorem get_bit (a i : Nat) (hi : i < 32) : bits_Get.f (row a) (i : Int) = some (a.testBit i) := by
  have hl : (row a).length = 4 := rfl
  have hd : Int.tdiv (i : Int) 8 = ((i / 8 : Nat) : Int) := by rw [Int.tdiv_eq_ediv_of_nonneg (by omega)]; omega
  have hm : Int.tmod (i : Int) 8 = ((i % 8 : Nat) : Int) := by rw [Int.tmod_eq_emod_of_nonneg (by omega)]; omega
  have hw : wrap64 ((i / 8 : Nat) : Int) = ((i / 8 : Nat) : Int) := w64 (by omega) (by omega)
  have hs : shr .u8 (((a / 2 ^ (8 * (i / 8)) % 256 : Nat) : Int)) ((i % 8 : Nat) : Int) = ((a / 2 ^ (8 * (i / 8)) % 256 / 2 ^ (i % 8) : Nat) : Int) := by
    unfold shr
    rw [Int.toNat_natCast, Nat.min_eq_left (by simp [IntKind.bits]; omega)]
    simp
  have hb := byte_bit a (i / 8) (i % 8) (by omega)
  rw [show 8 * (i / 8) + i % 8 = i from by omega] at hb
  have hlt : a / 2 ^ (8 * (i / 8)) % 256 / 2 ^ (i % 8) < 256 := Nat.lt_of_le_of_lt (Nat.div_le_self _ _) (Nat.mod_lt _ (by omega))
  unfold bits_Get.f bits_there.f
  rw [if_pos (show (i : Int) ≥ 0 by omega), hd, hw, hl, Option.bind_some, if_pos (by simp; omega), if_pos (by omega), if_pos (by omega), hm, if_pos (by omega), rd_row a (i / 8) (by omega), hs]
  rw [show (1 : Int) = ((1 : Nat) : Int) from rfl, u8_and_nat _ 1 hlt (by omega), Nat.and_one_is_mod, hb]
  cases a.testBit i <;> rfl
/-- Next says 32 just if no bit from there on is set. -/
theorem next_32 (a : Nat) : ∀ (m n fuel : Nat), n + m = 32 → ∃ v : Int, bits_Next.l0 (2 * m + 1 + fuel) (row a) 32 true (n : Int) = some v ∧ (v == 32) = non a.testBit n m
  | 0, n, fuel, h => by
    obtain rfl : n = 32 := by omega
    rw [show 2 * 0 + 1 + fuel = fuel + 1 from by omega]
    rw [bits_Next.l0]
    exact ⟨32, by rfl, rfl⟩
  | m + 1, n, fuel, h => by
    obtain ⟨v, hv, hv2⟩ := next_32 a m (n + 1) fuel (by omega)
    have ht : bits_there.f (row a) (n : Int) = some true := by
      unfold bits_there.f
      rw [if_pos (show (n : Int) ≥ 0 by omega), show Int.tdiv (n : Int) 8 = ((n / 8 : Nat) : Int) from by rw [Int.tdiv_eq_ediv_of_nonneg (by omega)]; omega, w64 (by omega) (by omega)]
      simp [row]; omega
    have hw : wrap64 ((n : Int) + 1) = ((n + 1 : Nat) : Int) := by rw [w64 (by omega) (by omega)]; rfl
    rw [show 2 * (m + 1) + 1 + fuel = (2 * m + 1 + fuel + 1) + 1 from by omega]
    rw [bits_Next.l0]
    rw [if_pos (by omega), ht, Option.bind_some, if_pos rfl]
    rw [bits_Next.j1]
    rw [if_neg (by decide), get_bit a n (by omega), Option.bind_some, hw]
    unfold non
    cases hb : a.testBit n with
    | true =>
      refine ⟨(n : Int), by simp, ?_⟩
      simp; omega
    | false => exact ⟨v, by simpa using hv, by simpa using hv2⟩

/-- How many slots a class has. -/
def slots (c : Int) : Nat := if c = 0 then 32 else if c = 1 then 16 else if c = 2 then 8 else if c = 3 then 4 else if c = 4 then 2 else if c = 5 then 1 else 0
theorem slots_le (c : Int) : slots c ≤ 32 := by unfold slots; (repeat' split) <;> omega
/-- May an entry be. -/
def okE (c : Int) (a : Nat) : Bool := decide (-1 ≤ c) && (decide (c < 6) && decide (a < 2 ^ slots c))
theorem geom_slots (c : Int) (h0 : -1 ≤ c) (h1 : c < 6) : geom_Slots.f c = some (slots c : Int) := by
  have : c = -1 ∨ c = 0 ∨ c = 1 ∨ c = 2 ∨ c = 3 ∨ c = 4 ∨ c = 5 := by omega
  rcases this with rfl | rfl | rfl | rfl | rfl | rfl | rfl <;> decide +kernel
theorem may (c : Int) (a : Nat) (ha : a < 4294967296) {k : Nat} (hk : 100 ≤ k) : table_may.f k c (a : Int) = some (okE c a) := by
  obtain ⟨k, rfl⟩ : ∃ k', k = k' + 1 := ⟨k - 1, by omega⟩
  unfold table_may.f okE
  by_cases h0 : c < -1
  · rw [if_pos h0]
    rw [table_may.j0]
    rw [if_pos rfl, decide_eq_false (by omega : ¬ (-1 ≤ c))]
    rfl
  · rw [if_neg h0, decide_eq_true (by omega : -1 ≤ c)]
    rw [table_may.j0]
    by_cases h1 : c ≥ 6
    · rw [decide_eq_true h1, if_pos rfl, decide_eq_false (by omega : ¬ (c < 6))]
      rfl
    · rw [decide_eq_false h1, if_neg (by decide), decide_eq_true (by omega : c < 6), geom_slots c (by omega) (by omega), Option.bind_some, row_eq, Option.bind_some]
      have hs := slots_le c
      obtain ⟨v, hv, hv2⟩ := next_32 a (32 - slots c) (slots c) (k - (2 * (32 - slots c) + 1)) (by omega)
      rw [show 2 * (32 - slots c) + 1 + (k - (2 * (32 - slots c) + 1)) = k from by omega] at hv
      unfold bits_Next.f
      rw [show mx (slots c : Int) 0 = (slots c : Int) from by unfold mx; split <;> omega, hv, Option.bind_some, hv2, non_lt ha hs]
      rfl

/-! ### an entry's bytes -/
theorem bytes (c : Int) (a : Nat) (ha : a < 4294967296) {k : Nat} (hk : 100 ≤ k) :
    table_Bytes.f k c (a : Int) = some (if okE c a then ([(wrap64 (c + 1)) % 256, 0, 0, 0] ++ row a, 0) else ([], 140)) := by
  unfold table_Bytes.f
  rw [may c a ha hk, Option.bind_some]
  cases okE c a
  · rfl
  · rw [if_pos rfl, Option.bind_some, row_eq, Option.bind_some]
    rfl

/-! ### how many bits -/
set_option maxRecDepth 100000 in
theorem tab8 : ∀ i, i < 256 → bt (⟨#[0, 1, 1, 2, 1, 2, 2, 3, 1, 2, 2, 3, 2, 3, 3, 4, 1, 2, 2, 3, 2, 3, 3, 4, 2, 3, 3, 4, 3, 4, 4, 5, 1, 2, 2, 3, 2, 3, 3, 4, 2, 3, 3, 4, 3, 4, 4, 5, 2, 3, 3, 4, 3, 4, 4, 5, 3, 4, 4, 5, 4, 5, 5, 6, 1, 2, 2, 3, 2, 3, 3, 4, 2, 3, 3, 4, 3, 4, 4, 5, 2, 3, 3, 4, 3, 4, 4, 5, 3, 4, 4, 5, 4, 5, 5, 6, 2, 3, 3, 4, 3, 4, 4, 5, 3, 4, 4, 5, 4, 5, 5, 6, 3, 4, 4, 5, 4, 5, 5, 6, 4, 5, 5, 6, 5, 6, 6, 7, 1, 2, 2, 3, 2, 3, 3, 4, 2, 3, 3, 4, 3, 4, 4, 5, 2, 3, 3, 4, 3, 4, 4, 5, 3, 4, 4, 5, 4, 5, 5, 6, 2, 3, 3, 4, 3, 4, 4, 5, 3, 4, 4, 5, 4, 5, 5, 6, 3, 4, 4, 5, 4, 5, 5, 6, 4, 5, 5, 6, 5, 6, 6, 7, 2, 3, 3, 4, 3, 4, 4, 5, 3, 4, 4, 5, 4, 5, 5, 6, 3, 4, 4, 5, 4, 5, 5, 6, 4, 5, 5, 6, 5, 6, 6, 7, 3, 4, 4, 5, 4, 5, 5, 6, 4, 5, 5, 6, 5, 6, 6, 7, 4, 5, 5, 6, 5, 6, 6, 7, 5, 6, 6, 7, 6, 7, 7, 8]⟩ : ByteArray) (i : Nat) = ((cnt i.testBit 0 8 : Nat) : Int) := by decide +kernel
theorem cnt_byte (a q : Nat) : cnt (a / 2 ^ (8 * q) % 256).testBit 0 8 = cnt a.testBit (8 * q) 8 := by
  refine cnt_congr fun j hj => ?_
  rw [show 256 = 2 ^ 8 from rfl, Nat.testBit_mod_two_pow, Nat.testBit_div_two_pow]
  simp [hj, Nat.add_comm]
set_option maxRecDepth 100000 in
set_option maxHeartbeats 2000000 in
theorem ones (a : Nat) (ha : a < 4294967296) : bits_OnesCount32.f (a : Int) = some (cnt a.testBit 0 32 : Int) := by
  have e3 : (a : Int) / 16777216 = ((a / 2 ^ (8 * 3) % 256 : Nat) : Int) := by omega
  have a255 : ∀ x : Nat, x < 4294967296 → bits .and .u32 (x : Int) 255 = ((x % 256 : Nat) : Int) := fun x hx => by
    rw [show (255 : Int) = ((255 : Nat) : Int) from rfl, u32_and_nat x 255 hx (by omega), show 255 = 2 ^ 8 - 1 from rfl, Nat.and_two_pow_sub_one_eq_mod]
  have e2 : bits .and .u32 ((a : Int) / 65536) 255 = ((a / 2 ^ (8 * 2) % 256 : Nat) : Int) := by
    rw [show (a : Int) / 65536 = ((a / 65536 : Nat) : Int) from by omega, a255 _ (by omega)]
  have e1 : bits .and .u32 ((a : Int) / 256) 255 = ((a / 2 ^ (8 * 1) % 256 : Nat) : Int) := by
    rw [show (a : Int) / 256 = ((a / 256 : Nat) : Int) from by omega, a255 _ (by omega)]
  have e0 : bits .and .u32 (a : Int) 255 = ((a / 2 ^ (8 * 0) % 256 : Nat) : Int) := by
    rw [a255 _ (by omega)]; simp
  have hm : ∀ q, a / 2 ^ (8 * q) % 256 < 256 := fun q => Nat.mod_lt _ (by omega)
  have m0 := hm 0
  have m1 := hm 1
  have m2 := hm 2
  have m3 := hm 3
  have c0 := cnt_byte a 0
  have c1 := cnt_byte a 1
  have c2 := cnt_byte a 2
  have c3 := cnt_byte a 3
  delta bits_OnesCount32.f
  rw [e3, e2, e1, e0]
  clear e3 e2 e1 e0 a255 hm
  generalize a / 2 ^ (8 * 3) % 256 = b3 at *
  generalize a / 2 ^ (8 * 2) % 256 = b2 at *
  generalize a / 2 ^ (8 * 1) % 256 = b1 at *
  generalize a / 2 ^ (8 * 0) % 256 = b0 at *
  have q : ∀ b : Nat, b < 256 → (0 : Int) ≤ (b : Int) ∧ (b : Int) < 256 := fun b hb => ⟨by omega, by omega⟩
  rw [if_pos (q b3 m3).1, if_pos (q b3 m3).2, if_pos (q b2 m2).1, if_pos (q b2 m2).2, if_pos (q b1 m1).1, if_pos (q b1 m1).2, if_pos (q b0 m0).1, if_pos (q b0 m0).2, tab8 b3 m3, tab8 b2 m2, tab8 b1 m1, tab8 b0 m0, c0, c1, c2, c3]
  rw [cnt32]
  have l0 := cnt_le a.testBit (8 * 0) 8
  have l1 := cnt_le a.testBit (8 * 1) 8
  have l2 := cnt_le a.testBit (8 * 2) 8
  have l3 := cnt_le a.testBit (8 * 3) 8
  clear c0 c1 c2 c3
  generalize cnt a.testBit (8 * 0) 8 = x0 at *
  generalize cnt a.testBit (8 * 1) 8 = x1 at *
  generalize cnt a.testBit (8 * 2) 8 = x2 at *
  generalize cnt a.testBit (8 * 3) 8 = x3 at *
  refine congrArg some ?_
  omega

/-! ### an entry, swept -/
def swept (c : Int) (a m : Nat) : Int × Int × Int :=
  if okE c a then (if a &&& m = 0 then -1 else c, ((a &&& m : Nat) : Int), (cnt (fun j => a.testBit j && !m.testBit j) 0 32 : Int)) else (c, (a : Int), 0)
theorem and_lt (a m : Nat) (ha : a < 4294967296) : a &&& m < 4294967296 := Nat.lt_of_le_of_lt Nat.and_le_left ha
theorem sweep (c : Int) (a m : Nat) (ha : a < 4294967296) (hm : m < 4294967296) {k : Nat} (hk : 100 ≤ k) : sweep_Entry.f k c (a : Int) (m : Int) = some (swept c a m) := by
  unfold sweep_Entry.f swept
  rw [bytes c a ha hk, Option.bind_some]
  cases okE c a
  · rfl
  · have hn : a &&& (4294967295 - m) < 4294967296 := and_lt a _ ha
    rw [if_pos rfl, if_pos rfl, if_pos rfl, u32_andNot_nat a m ha hm, ones _ hn, Option.bind_some, u32_and_nat a m ha hm]
    have hc : cnt (a &&& (4294967295 - m)).testBit 0 32 = cnt (fun j => a.testBit j && !m.testBit j) 0 32 := by
      refine cnt_congr fun j hj => ?_
      rw [Nat.testBit_and, show 4294967295 - m = 2 ^ 32 - (m + 1) from by omega, Nat.testBit_two_pow_sub_succ (by omega)]
      simp [hj]
    rw [hc]
    by_cases h0 : a &&& m = 0
    · rw [if_pos (by rw [h0]; rfl), if_pos h0]
    · rw [if_neg (by omega), if_neg h0]
end Go.Proofs.Ytkakobppgpfndaa.Pure
