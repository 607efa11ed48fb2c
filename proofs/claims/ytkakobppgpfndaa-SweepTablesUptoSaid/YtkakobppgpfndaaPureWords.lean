/- Words of marks and marks of words: what the printed functions of layer 21 come to, in plain lists. -/
import Derived.Test.YtkakobppgpfndaaPrint
import Derived.Test.YtkakobppgpfndaaPureBase
namespace Go.Proofs.Ytkakobppgpfndaa.Pure
open Go.RowKit Go.Proofs.Ytkakobppgpfndaa.Print Go.Proofs.YtkakobppgpfndaaW.PrintWords Go.Proofs.YtkakobppgpfndaaW.PrintMore
set_option linter.unusedSimpArgs false
set_option linter.unusedVariables false

/-! ### marks of words -/
/-- The t-th mark. -/
def mk1 (ws : List Int) (t : Nat) : Bool := (rd ws ((t / 32 : Nat) : Int)).toNat.testBit (t % 32)
def marksN (ws : List Int) (t : Nat) : List Bool := (List.range t).map (mk1 ws)
theorem marksN_len (ws : List Int) (t : Nat) : (marksN ws t).length = t := by simp [marksN]
theorem marksN_succ (ws : List Int) (t : Nat) : marksN ws (t + 1) = marksN ws t ++ [mk1 ws t] := by simp [marksN, List.range_succ]
theorem mk1_at (ws : List Int) (i n : Nat) (hn : n < 32) : mk1 ws (32 * i + n) = (rd ws (i : Int)).toNat.testBit n := by
  unfold mk1
  rw [show (32 * i + n) / 32 = i from by omega, show (32 * i + n) % 32 = n from by omega]
theorem wsuccL {i : Nat} (h : i < 4611686018427387904) : wrap64 ((i : Int) + 1) = ((i + 1 : Nat) : Int) := by rw [w64 (by omega) (by omega)]; rfl
theorem bit1' (a n : Nat) (ha : a < 4294967296) (hn : n < 32) : (bits .and .u32 (shr .u32 (a : Int) (n : Int)) 1 == 1) = a.testBit n := by
  have h := bit1 a n ha hn
  rw [show IntKind.u64.wrap (n : Int) = (n : Int) from by rw [wrap_u64]; omega] at h
  rw [h]
  cases a.testBit n <;> rfl
theorem bit2' (a n : Nat) (hn : n < 32) : (Int.tmod (shr .u32 (a : Int) (IntKind.u64.wrap (n : Int))) 2 == 1) = a.testBit n := by
  rw [show IntKind.u64.wrap (n : Int) = (n : Int) from by rw [wrap_u64]; omega]
  unfold shr
  rw [Int.toNat_natCast, Nat.min_eq_left (by simp [IntKind.bits]; omega), show (a : Int) / 2 ^ n = ((a / 2 ^ n : Nat) : Int) from by simp, tm2, Nat.testBit_eq_decide_div_mod_eq]
  have := Nat.mod_two_eq_zero_or_one (a / 2 ^ n)
  rcases this with h0 | h0 <;> rw [h0] <;> rfl
theorem marks_l1 (ws : List Int) (hW : UW ws) (i : Nat) (hi : i < ws.length) (hl : ws.length ≤ 2000000) : ∀ (j n K : Nat), n + j = 32 →
    sweep_Marks.l1 (j + 1 + K) (marksN ws (32 * i + n)) (rd ws (i : Int)) ws (ws.length : Int) (i : Int) (n : Int) = sweep_Marks.l0 K (marksN ws (32 * (i + 1))) ws (ws.length : Int) ((i + 1 : Nat) : Int) := by
  intro j
  induction j with
  | zero =>
    intro n K hn
    rw [show 0 + 1 + K = K + 1 from by omega, sweep_Marks.l1, if_neg (by omega), wsuccL (by omega), show 32 * i + n = 32 * (i + 1) from by omega]
  | succ j ih =>
    intro n K hn
    have ih' := ih (n + 1) K (by omega)
    obtain ⟨e, he⟩ := nat_of (hW _ (List.getElem_mem hi))
    have hr : rd ws (i : Int) = ((ws[i].toNat : Nat) : Int) := by rw [rd_int ws i hi]; exact e
    have hb : (bits .and .u32 (shr .u32 (rd ws (i : Int)) (n : Int)) 1 == 1) = mk1 ws (32 * i + n) := by
      rw [mk1_at ws i n (by omega), hr, bit1' _ n he (by omega), Int.toNat_natCast]
    rw [show j + 1 + 1 + K = (j + 1 + K) + 1 from by omega, sweep_Marks.l1, if_pos (by omega), if_pos (by omega), if_pos (by rw [marksN_len]; omega), hb, ← marksN_succ, wsuccL (by omega)]
    exact ih'
theorem marks_l0 (ws : List Int) (hW : UW ws) (hl : ws.length ≤ 2000000) : ∀ (m i fuel : Nat), i + m = ws.length → sweep_Marks.l0 (m * 34 + 1 + fuel) (marksN ws (32 * i)) ws (ws.length : Int) (i : Int) = some (marksN ws (32 * ws.length)) := by
  intro m
  induction m with
  | zero =>
    intro i fuel hi
    rw [show 0 * 34 + 1 + fuel = fuel + 1 from by omega, sweep_Marks.l0, if_neg (by omega), show i = ws.length from by omega]
  | succ m ih =>
    intro i fuel hi
    have h1 := marks_l1 ws hW i (by omega) hl 32 0 (m * 34 + 1 + fuel) rfl
    rw [show 32 * i + 0 = 32 * i from rfl] at h1
    rw [show (m + 1) * 34 + 1 + fuel = (32 + 1 + (m * 34 + 1 + fuel)) + 1 from by omega, sweep_Marks.l0, if_pos (by omega), if_pos (by omega), if_pos (by omega), show (0 : Int) = ((0 : Nat) : Int) from rfl, h1]
    exact ih (i + 1) fuel (by omega)
theorem marks (ws : List Int) (hW : UW ws) (hl : ws.length ≤ 2000000) {k : Nat} (hk : ws.length * 34 + 1 ≤ k) : sweep_Marks.f k ws = some (marksN ws (32 * ws.length)) := by
  have h := marks_l0 ws hW hl ws.length 0 (k - (ws.length * 34 + 1)) (by omega)
  rw [show ws.length * 34 + 1 + (k - (ws.length * 34 + 1)) = k from by omega] at h
  unfold sweep_Marks.f
  have hm : 0 ≤ mn (ws.length : Int) 256 ∧ mn (ws.length : Int) 256 ≤ 256 := by unfold mn; split <;> omega
  rw [if_pos (by omega), if_pos (by omega)]
  exact h

/-! ### words of marks -/
/-- The first m bits, as a number. -/
def pk (p : Nat → Bool) : Nat → Nat
  | 0 => 0
  | m + 1 => pk p m + (if p m then 2 ^ m else 0)
theorem pk_lt (p : Nat → Bool) : ∀ m, pk p m < 2 ^ m
  | 0 => Nat.zero_lt_one
  | m + 1 => by
    have := pk_lt p m
    rw [pk, Nat.pow_succ]
    split <;> omega
theorem pk_bit (p : Nat → Bool) : ∀ m k, k < m → (pk p m).testBit k = p k := by
  intro m
  induction m with
  | zero => intro k hk; omega
  | succ m ih =>
    intro k hk
    have hlt := pk_lt p m
    rw [pk]
    by_cases hkm : k = m
    · subst hkm
      cases hp : p k with
      | true => rw [if_pos rfl, Nat.add_comm, Nat.testBit_two_pow_add_eq, Nat.testBit_lt_two_pow hlt]; rfl
      | false => rw [if_neg (by decide), Nat.add_zero, Nat.testBit_lt_two_pow hlt]
    · have hkm' : k < m := by omega
      cases hp : p m with
      | true => rw [if_pos rfl, Nat.add_comm, Nat.testBit_two_pow_add_gt hkm', ih k hkm']
      | false => rw [if_neg (by decide), Nat.add_zero, ih k hkm']
theorem pk_congr {p q : Nat → Bool} : ∀ m, (∀ k, k < m → p k = q k) → pk p m = pk q m := by
  intro m
  induction m with
  | zero => intro _; rfl
  | succ m ih => intro h; rw [pk, pk, ih (fun k hk => h k (by omega)), h m (by omega)]
theorem pk_test (a m : Nat) (ha : a < 2 ^ m) : pk a.testBit m = a := by
  refine Nat.eq_of_testBit_eq fun k => ?_
  rcases Nat.lt_or_ge k m with h | h
  · exact pk_bit _ m k h
  · rw [Nat.testBit_lt_two_pow (Nat.lt_of_lt_of_le (pk_lt _ m) (Nat.pow_le_pow_right (by omega) h)), Nat.testBit_lt_two_pow (Nat.lt_of_lt_of_le ha (Nat.pow_le_pow_right (by omega) h))]

def mat (ms : List Bool) (j k : Nat) : Bool := rdOf false ms ((32 * j + k : Nat) : Int)
/-- Word j when i marks have been seen. -/
def word (ms : List Bool) (i j : Nat) : Nat := pk (mat ms j) (min 32 (i - 32 * j))
def wordsN (ms : List Bool) (n i : Nat) : List Int := (List.range n).map fun j => ((word ms i j : Nat) : Int)
theorem wordsN_len (ms : List Bool) (n i : Nat) : (wordsN ms n i).length = n := by simp [wordsN]
theorem wordsN_zero (ms : List Bool) (n : Nat) : wordsN ms n 0 = List.replicate n 0 := by
  refine List.ext_getElem (by simp [wordsN]) fun j h1 h2 => ?_
  simp [wordsN, word, pk]
theorem wordsN_at (ms : List Bool) (n i j : Nat) (hj : j < n) : rd (wordsN ms n i) (j : Int) = ((word ms i j : Nat) : Int) := by
  rw [rd_int _ j (by rw [wordsN_len]; exact hj)]
  simp [wordsN]
theorem word_same {ms : List Bool} {i j : Nat} (h : i < 32 * j ∨ 32 * j + 32 ≤ i ∨ rdOf false ms (i : Int) = false) : word ms (i + 1) j = word ms i j := by
  unfold word
  rcases h with h | h | h
  · rw [show i + 1 - 32 * j = 0 from by omega, show i - 32 * j = 0 from by omega]
  · rw [show min 32 (i + 1 - 32 * j) = 32 from by omega, show min 32 (i - 32 * j) = 32 from by omega]
  · by_cases h1 : 32 * j ≤ i ∧ i < 32 * j + 32
    · rw [show min 32 (i + 1 - 32 * j) = (i - 32 * j) + 1 from by omega, show min 32 (i - 32 * j) = i - 32 * j from by omega, pk]
      unfold mat
      rw [show 32 * j + (i - 32 * j) = i from by omega, h]
      simp
    · by_cases h2 : i < 32 * j
      · rw [show i + 1 - 32 * j = 0 from by omega, show i - 32 * j = 0 from by omega]
      · rw [show min 32 (i + 1 - 32 * j) = 32 from by omega, show min 32 (i - 32 * j) = 32 from by omega]
theorem word_step {ms : List Bool} {i : Nat} (h : rdOf false ms (i : Int) = true) : word ms (i + 1) (i / 32) = word ms i (i / 32) + 2 ^ (i % 32) ∧ word ms i (i / 32) < 2 ^ (i % 32) := by
  unfold word
  rw [show min 32 (i + 1 - 32 * (i / 32)) = i % 32 + 1 from by omega, show min 32 (i - 32 * (i / 32)) = i % 32 from by omega, pk]
  refine ⟨?_, pk_lt _ _⟩
  unfold mat
  rw [show 32 * (i / 32) + i % 32 = i from by omega, h]
  rfl
theorem wordsN_step {ms : List Bool} {n i : Nat} (h : rdOf false ms (i : Int) = true) (hi : i / 32 < n) : (wordsN ms n i).set (i / 32) ((word ms i (i / 32) + 2 ^ (i % 32) : Nat) : Int) = wordsN ms n (i + 1) := by
  refine List.ext_getElem (by simp [wordsN]) fun j h1 h2 => ?_
  by_cases hj : i / 32 = j
  · subst hj
    rw [List.getElem_set_self]
    simp only [wordsN, List.getElem_map, List.getElem_range]
    rw [(word_step h).1]
  · rw [List.getElem_set_ne hj]
    simp only [wordsN, List.getElem_map, List.getElem_range]
    rw [word_same (by omega)]
theorem wordsN_skip {ms : List Bool} {n i : Nat} (h : rdOf false ms (i : Int) = false) : wordsN ms n i = wordsN ms n (i + 1) := by
  unfold wordsN
  refine List.map_congr_left fun j _ => ?_
  rw [word_same (.inr (.inr h))]
theorem shl1 (r : Nat) (hr : r < 32) : shl .u32 1 (r : Int) = ((2 ^ r : Nat) : Int) := by
  have : r = 0 ∨ r = 1 ∨ r = 2 ∨ r = 3 ∨ r = 4 ∨ r = 5 ∨ r = 6 ∨ r = 7 ∨ r = 8 ∨ r = 9 ∨ r = 10 ∨ r = 11 ∨ r = 12 ∨ r = 13 ∨ r = 14 ∨ r = 15 ∨ r = 16 ∨ r = 17 ∨ r = 18 ∨ r = 19 ∨ r = 20 ∨ r = 21 ∨ r = 22 ∨ r = 23 ∨ r = 24 ∨ r = 25 ∨ r = 26 ∨ r = 27 ∨ r = 28 ∨ r = 29 ∨ r = 30 ∨ r = 31 := by omega
  rcases this with h | h | h | h | h | h | h | h | h | h | h | h | h | h | h | h | h | h | h | h | h | h | h | h | h | h | h | h | h | h | h | h <;> subst h <;> decide +kernel
theorem two_le (r : Nat) (hr : r < 32) : 2 ^ r ≤ 2147483648 := Nat.pow_le_pow_right (n := 2) (by omega) (show r ≤ 31 by omega)
theorem or_word (v r : Nat) (hr : r < 32) (hv : v < 2 ^ r) : bits .or .u32 (v : Int) (shl .u32 1 (r : Int)) = ((v + 2 ^ r : Nat) : Int) := by
  have h2 := two_le r hr
  rw [shl1 r hr, u32_or_nat v (2 ^ r) (by omega) (by omega)]
  congr 1
  have h := Nat.two_pow_add_eq_or_of_lt hv 1
  rw [Nat.mul_one] at h
  rw [Nat.or_comm, Nat.add_comm, h]
theorem add_word (v r : Nat) (hr : r < 32) (hv : v < 2 ^ r) : ((v : Int) + shl .u32 1 (IntKind.u64.wrap (r : Int))) % 4294967296 = ((v + 2 ^ r : Nat) : Int) := by
  have h2 := two_le r hr
  rw [show IntKind.u64.wrap (r : Int) = (r : Int) from by rw [wrap_u64]; omega, shl1 r hr]
  omega
theorem div32 (i : Nat) (h : i < 4611686018427387904) : wrap64 (Int.tdiv (i : Int) 32) = ((i / 32 : Nat) : Int) := by
  rw [Int.tdiv_eq_ediv_of_nonneg (by omega), show (i : Int) / 32 = ((i / 32 : Nat) : Int) from by omega, w64 (by omega) (by omega)]
theorem mod32 (i : Nat) : Int.tmod (i : Int) 32 = ((i % 32 : Nat) : Int) := by
  rw [Int.tmod_eq_emod_of_nonneg (by omega)]; omega
theorem words_l0 (ms : List Bool) (n : Nat) (hn : ms.length = 32 * n) (hl : ms.length ≤ 100000000) : ∀ (m i fuel : Nat), i + m = ms.length → sweep_Words.l0 (m + 1 + fuel) (wordsN ms n i) ms (ms.length : Int) (i : Int) = some (wordsN ms n ms.length, 0) := by
  intro m
  induction m with
  | zero =>
    intro i fuel hi
    rw [show 0 + 1 + fuel = fuel + 1 from by omega, sweep_Words.l0, if_neg (by omega), show i = ms.length from by omega]
  | succ m ih =>
    intro i fuel hi
    have ih' := ih (i + 1) fuel (by omega)
    have hj : i / 32 < n := by omega
    rw [show m + 1 + 1 + fuel = (m + 1 + fuel) + 1 from by omega, sweep_Words.l0, if_pos (by omega), if_pos (by omega), if_pos (by omega), wsuccL (by omega), div32 i (by omega), mod32, wordsN_at ms n i _ hj, wordsN_len]
    cases h : rdOf false ms (i : Int) with
    | true =>
      rw [if_pos rfl, if_pos (by omega), if_pos (by omega), if_pos (by omega), or_word _ _ (by omega) (word_step h).2, Int.toNat_natCast, wordsN_step h hj]
      exact ih'
    | false =>
      rw [if_neg (by decide), wordsN_skip h]
      exact ih'
theorem words (ms : List Bool) (hl : ms.length ≤ 100000000) {k : Nat} (hk : ms.length + 1 ≤ k) : sweep_Words.f k ms = some (if ms.length % 32 = 0 then (wordsN ms (ms.length / 32) ms.length, 0) else ([], 1)) := by
  unfold sweep_Words.f
  by_cases h : ms.length % 32 = 0
  · have hw : wrap64 ((ms.length : Int) / 32) = ((ms.length / 32 : Nat) : Int) := by
      rw [show (ms.length : Int) / 32 = ((ms.length / 32 : Nat) : Int) from by omega, w64 (by omega) (by omega)]
    have h0 := words_l0 ms (ms.length / 32) (by omega) hl ms.length 0 (k - (ms.length + 1)) (by omega)
    rw [show ms.length + 1 + (k - (ms.length + 1)) = k from by omega, wordsN_zero] at h0
    rw [if_pos (by omega), hw, if_pos (by omega), if_pos (by omega), Int.toNat_natCast, if_pos h]
    exact h0
  · rw [if_neg (by omega), if_neg h]

/-! ### there and back -/
theorem rdOf_at (ms : List Bool) (i : Nat) (h : i < ms.length) : rdOf false ms (i : Int) = ms[i] := by simp [rdOf, h]
theorem back_words (ws : List Int) (hW : UW ws) : wordsN (marksN ws (32 * ws.length)) ws.length (32 * ws.length) = ws := by
  refine List.ext_getElem (by simp [wordsN]) fun j h1 h2 => ?_
  obtain ⟨e, he⟩ := nat_of (hW _ (List.getElem_mem h2))
  simp only [wordsN, List.getElem_map, List.getElem_range]
  unfold word
  rw [show min 32 (32 * ws.length - 32 * j) = 32 from by omega, pk_congr (q := ws[j].toNat.testBit) 32 (fun k hk => ?_), pk_test _ 32 (by omega), ← e]
  unfold mat
  rw [rdOf_at _ _ (by rw [marksN_len]; omega)]
  simp only [marksN, List.getElem_map, List.getElem_range]
  rw [mk1_at ws j k hk, rd_int ws j h2]
theorem back_marks (ms : List Bool) (h : ms.length % 32 = 0) : marksN (wordsN ms (ms.length / 32) ms.length) (32 * (ms.length / 32)) = ms := by
  refine List.ext_getElem (by rw [marksN_len]; omega) fun t h1 h2 => ?_
  rw [marksN_len] at h1
  simp only [marksN, List.getElem_map, List.getElem_range]
  unfold mk1
  rw [wordsN_at ms _ _ _ (by omega), Int.toNat_natCast]
  unfold word
  rw [show min 32 (ms.length - 32 * (t / 32)) = 32 from by omega, pk_bit _ 32 _ (Nat.mod_lt _ (by omega))]
  unfold mat
  rw [show 32 * (t / 32) + t % 32 = t from by omega, rdOf_at ms t h2]
theorem wordsN_UW (ms : List Bool) (n i : Nat) : UW (wordsN ms n i) := by
  intro y hy
  obtain ⟨j, hj, rfl⟩ := List.getElem_of_mem hy
  simp only [wordsN, List.getElem_map, List.getElem_range]
  have h1 := pk_lt (mat ms j) (min 32 (i - 32 * j))
  have h2 : 2 ^ (min 32 (i - 32 * j)) ≤ 2 ^ 32 := Nat.pow_le_pow_right (by omega) (Nat.min_le_left _ _)
  unfold word
  omega
theorem eqw_l0 (l : List Int) (hl : l.length ≤ 100000000) : ∀ (m i fuel : Nat), i + m = l.length → slices_Equal_uint32_uint32.l0 (m + 1 + fuel) l l (l.length : Int) (i : Int) = some true := by
  intro m
  induction m with
  | zero => intro i fuel hi; rw [show 0 + 1 + fuel = fuel + 1 from by omega, slices_Equal_uint32_uint32.l0, if_neg (by omega)]
  | succ m ih =>
    intro i fuel hi
    have ih' := ih (i + 1) fuel (by omega)
    rw [show m + 1 + 1 + fuel = (m + 1 + fuel) + 1 from by omega, slices_Equal_uint32_uint32.l0, if_pos (by omega), if_pos (by omega), if_pos (by omega), if_pos (by omega), if_pos rfl, wsuccL (by omega)]
    exact ih'
theorem eqw (l : List Int) (hl : l.length ≤ 100000000) {k : Nat} (hk : l.length + 1 ≤ k) : slices_Equal_uint32_uint32.f k l l = some true := by
  unfold slices_Equal_uint32_uint32.f
  have h := eqw_l0 l hl l.length 0 (k - (l.length + 1)) (by omega)
  rw [show l.length + 1 + (k - (l.length + 1)) = k from by omega] at h
  rw [if_pos rfl]
  exact h
theorem eqb_l0 (l : List Bool) (hl : l.length ≤ 100000000) : ∀ (m i fuel : Nat), i + m = l.length → slices_Equal_bool_bool.l0 (m + 1 + fuel) l l (l.length : Int) (i : Int) = some true := by
  intro m
  induction m with
  | zero => intro i fuel hi; rw [show 0 + 1 + fuel = fuel + 1 from by omega, slices_Equal_bool_bool.l0, if_neg (by omega)]
  | succ m ih =>
    intro i fuel hi
    have ih' := ih (i + 1) fuel (by omega)
    rw [show m + 1 + 1 + fuel = (m + 1 + fuel) + 1 from by omega, slices_Equal_bool_bool.l0, if_pos (by omega), if_pos (by omega), if_pos (by omega), if_pos (by omega), if_neg (by simp), wsuccL (by omega)]
    exact ih'
theorem eqb (l : List Bool) (hl : l.length ≤ 100000000) {k : Nat} (hk : l.length + 1 ≤ k) : slices_Equal_bool_bool.f k l l = some true := by
  unfold slices_Equal_bool_bool.f
  have h := eqb_l0 l hl l.length 0 (k - (l.length + 1)) (by omega)
  rw [show l.length + 1 + (k - (l.length + 1)) = k from by omega] at h
  rw [if_pos rfl]
  exact h
theorem ones_sum {α : Type} (l : List α) : (l.map fun _ => 1).sum = l.length := by
  induction l with
  | nil => rfl
  | cons x l ih => simp only [List.map_cons, List.sum_cons, ih, List.length_cons]; omega
end Go.Proofs.Ytkakobppgpfndaa.Pure
