/- What counts, by the document. -/
import Derived.Test.YtnmpmjbkelogaaaPrint
import Derived.Test.YtnmpmjbkelogaaaPureX19
namespace Go.Proofs.Ytnmpmjbkelogaaa.Pure
open Go.RowKit Go.Proofs.Ytnmpmjbkelogaaa.Print Go.Proofs.YtnmpmjbkelogaaaW.PrintWords Go.Proofs.YtnmpmjbkelogaaaW.PrintMore
set_option linter.unusedSimpArgs false
set_option linter.unusedVariables false

theorem rcounts_l0 (x : List Int) (hx : x.length ≤ 9223372036854775807) : ∀ (m j k : Nat) (a : List Int), j + m = x.length → a.length + m < 17592186044416 → m < k → atticref19_counted.l0 k x a (j : Int) = some (a ++ (x.drop j).filter (· ≠ -1))
  | 0, j, k, a, hj, ha, hk => by
    obtain ⟨k, rfl⟩ : ∃ k', k = k' + 1 := ⟨k - 1, by omega⟩
    rw [List.drop_eq_nil_of_le (by omega), atticref19_counted.l0, if_neg (by omega)]
    simp
  | m + 1, j, k, a, hj, ha, hk => by
    obtain ⟨k, rfl⟩ : ∃ k', k = k' + 1 := ⟨k - 1, by omega⟩
    have hlt : j < x.length := by omega
    rw [List.drop_eq_getElem_cons hlt, List.filter_cons, atticref19_counted.l0, if_pos (by omega), if_pos (by omega), rd_in x j hlt, wnat hlt hx]
    by_cases h : x[j] = -1
    · rw [if_pos h, if_neg (by simp [h]), rcounts_l0 x hx m (j + 1) k a (by omega) (by omega) (by omega)]
    · rw [if_neg h, if_pos (by omega), if_pos (by simp [h]), rcounts_l0 x hx m (j + 1) k (a ++ [x[j]]) (by omega) (by rw [List.length_append, List.length_singleton]; omega) (by omega)]
      simp
theorem rcounts_l1 (x : List Int) (hx : x.length ≤ 9223372036854775807) : ∀ (m j k : Nat) (a : List Int), j + m = x.length → a.length + m < 17592186044416 → m < k → atticref19_counted.l1 k x a (j : Int) = some (a ++ (x.drop j).filter (· ≠ -1))
  | 0, j, k, a, hj, ha, hk => by
    obtain ⟨k, rfl⟩ : ∃ k', k = k' + 1 := ⟨k - 1, by omega⟩
    rw [List.drop_eq_nil_of_le (by omega), atticref19_counted.l1, if_neg (by omega)]
    simp
  | m + 1, j, k, a, hj, ha, hk => by
    obtain ⟨k, rfl⟩ : ∃ k', k = k' + 1 := ⟨k - 1, by omega⟩
    have hlt : j < x.length := by omega
    rw [List.drop_eq_getElem_cons hlt, List.filter_cons, atticref19_counted.l1, if_pos (by omega), if_pos (by omega), rd_in x j hlt, wnat hlt hx]
    by_cases h : x[j] = -1
    · rw [if_pos h, if_neg (by simp [h]), rcounts_l1 x hx m (j + 1) k a (by omega) (by omega) (by omega)]
    · rw [if_neg h, if_pos (by omega), if_pos (by simp [h]), rcounts_l1 x hx m (j + 1) k (a ++ [x[j]]) (by omega) (by rw [List.length_append, List.length_singleton]; omega) (by omega)]
      simp
theorem rcounts_f (lc : List Cel) (lr : List Int) (m : List Bool) (i k : Nat) (hi : i < lc.length) (hml : m.length = lc.length) (hv : viewB lc lr = true) (hlen : lc[i].f1.length < 17592186044416) (hk : lc[i].f1.length < k) : atticref19_counted.f k lc lr m (i : Int) = some (cnt lc m i) := by
  obtain ⟨v1, v2, v3⟩ := view_in hv
  obtain ⟨w1, w2⟩ := v2 _ (List.getElem_mem hi)
  rw [cnt_in lc m i hi, atticref19_counted.f, if_pos (by omega), if_pos (by omega), rdT_in lc i hi]
  generalize lc[i] = c at *
  by_cases h3 : c.f0 = 3
  · simp only [if_pos h3, if_neg (show ¬ c.f0 = 2 by omega)]
    have hne : 0 < c.f1.length := by unfold cellB at w1; rw [if_neg (by omega), if_pos h3] at w1; exact of_decide_eq_true w1
    rw [if_pos (show (0 : Int) < (c.f1.length : Int) by omega)]
    match hc : c.f1, hne with
    | key :: r, _ =>
      rw [hc] at hlen hk w2
      have hkey := w2 key List.mem_cons_self
      rw [show rd (key :: r) 0 = key from rfl]
      by_cases h1 : key = -1
      · rw [if_pos h1]; simp [h1]
      · have ht : isThere lc key = true := by unfold ptrB at hkey; rw [beq_eq_false_iff_ne.2 h1, Bool.false_or] at hkey; exact hkey
        obtain ⟨t1, t2, _⟩ := there_in ht
        rw [if_neg h1, if_pos t1, if_pos (by omega)]
        have e : rdOf false m key = m.getD key.toNat false := rfl
        rw [e]
        cases hb : m.getD key.toNat false with
        | false =>
          rw [if_neg Bool.false_ne_true]
          show some [] = some (if key = -1 ∨ m.getD key.toNat false = false then [] else r.filter (· ≠ -1))
          rw [hb, if_pos (Or.inr rfl)]
        | true =>
          have h0 := rcounts_l0 r (by simp at hlen; omega) r.length 0 k [] (by omega) (by simp at hlen ⊢; omega) (by simp at hk; omega)
          rw [show ((0 : Nat) : Int) = 0 from rfl, List.drop_zero, List.nil_append] at h0
          rw [if_pos rfl, if_pos (by simp; omega), List.drop_one, List.tail_cons, h0]
          show some (r.filter (· ≠ -1)) = some (if key = -1 ∨ m.getD key.toNat false = false then [] else r.filter (· ≠ -1))
          rw [hb, if_neg (by simp [h1])]
  · by_cases h2 : c.f0 = 2
    · rw [if_pos h2, if_pos h2]
    · have h0 := rcounts_l1 c.f1 (by omega) c.f1.length 0 k [] (by omega) (by simp; omega) hk
      rw [show ((0 : Nat) : Int) = 0 from rfl, List.drop_zero, List.nil_append] at h0
      rw [if_neg h2, if_neg h3, if_neg h2, if_neg h3, h0]
theorem cnt_len (lc : List Cel) (m : List Bool) (i : Nat) (hi : i < lc.length) : (cnt lc m i).length ≤ lc[i].f1.length := by
  rw [cnt_in lc m i hi]
  split
  · simp
  · split
    · split
      · simp
      · rename_i key r hc
        split
        · simp
        · exact Nat.le_trans (List.length_filter_le _ _) (by rw [hc]; simp)
    · exact List.length_filter_le _ _
end Go.Proofs.Ytnmpmjbkelogaaa.Pure
