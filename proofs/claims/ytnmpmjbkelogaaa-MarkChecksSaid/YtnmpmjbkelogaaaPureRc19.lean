/- The document's check of a state, and sameness: what the program's check says. -/
import Derived.Test.YtnmpmjbkelogaaaPrint
import Derived.Test.YtnmpmjbkelogaaaPureX19
import Derived.Test.YtnmpmjbkelogaaaPureC19
namespace Go.Proofs.Ytnmpmjbkelogaaa.Pure
open Go.RowKit Go.Proofs.Ytnmpmjbkelogaaa.Print Go.Proofs.YtnmpmjbkelogaaaW.PrintWords Go.Proofs.YtnmpmjbkelogaaaW.PrintMore
set_option linter.unusedSimpArgs false
set_option linter.unusedVariables false

theorem rhas_l0 (v : Int) (l : List Int) (hl : l.length ≤ 9223372036854775806) : ∀ (m j k : Nat), j + m = l.length → m < k → atticref19_has.l0 k l v (j : Int) = some (decide (v ∈ l.drop j))
  | 0, j, k, hj, hk => by
    obtain ⟨k, rfl⟩ : ∃ k', k = k' + 1 := ⟨k - 1, by omega⟩
    rw [atticref19_has.l0, if_neg (by omega), List.drop_eq_nil_of_le (by omega)]; rfl
  | m + 1, j, k, hj, hk => by
    obtain ⟨k, rfl⟩ : ∃ k', k = k' + 1 := ⟨k - 1, by omega⟩
    have hlt : j < l.length := by omega
    rw [atticref19_has.l0, if_pos (by omega), if_pos (by omega), rd_in l j hlt, List.drop_eq_getElem_cons hlt, wnat hlt (by omega)]
    by_cases h : l[j] = v
    · rw [if_pos h, decide_eq_true]; rw [← h]; exact List.mem_cons_self
    · rw [if_neg h, rhas_l0 v l hl m (j + 1) k (by omega) (by omega)]
      congr 1
      rw [decide_eq_decide]
      exact ⟨fun h' => List.mem_cons_of_mem _ h', fun h' => (List.mem_cons.1 h').resolve_left fun e => h e.symm⟩
theorem rhas_f (v : Int) (l : List Int) (hl : l.length ≤ 9223372036854775806) {k : Nat} (hk : l.length < k) : atticref19_has.f k l v = some (l.contains v) := by
  unfold atticref19_has.f
  have := rhas_l0 v l hl l.length 0 k (by omega) hk
  rw [show (0 : Int) = ((0 : Nat) : Int) from rfl, this, List.drop_zero]
  congr 1
  rw [Bool.eq_iff_iff]
  simp
def most (lc : List Cel) (lr : List Int) (ph : Int) (sc : Bool) : Int := if ph = 0 then (lr.length : Int) else if ph = 2 then (lc.length : Int) else if ph = 1 then (if sc = true then (lc.length : Int) else 0) else 0
theorem furth_most (lc : List Cel) (lr : List Int) {ph : Int} (sc : Bool) (h0 : 0 ≤ ph) (h3 : ph ≤ 3) : furth lc lr ph sc = most lc lr ph sc := by
  unfold furth most
  by_cases a : ph = 0
  · rw [if_pos a, if_pos a]
  · by_cases b : ph = 1
    · subst b; cases sc <;> rfl
    · by_cases c : ph = 2
      · rw [if_neg a, if_neg b, if_pos c, if_neg a, if_pos c]
      · rw [if_neg a, if_neg b, if_neg c, if_pos (by omega), if_neg a, if_neg c, if_neg b]
theorem furth_not (lc : List Cel) (lr : List Int) {ph : Int} (sc : Bool) (h : ph < 0 ∨ 3 < ph) : furth lc lr ph sc = -1 := by
  unfold furth
  rw [if_neg (by omega), if_neg (by omega), if_neg (by omega), if_neg (by omega)]
section
variable {lc : List Cel} {lr : List Int} {room ph at_ : Int} {m : List Bool} {st : List Int} {ov ag sc : Bool} {k : Nat}
theorem bad_true (h : at_ < 0 ∨ furth lc lr ph sc < at_ ∨ m.length ≠ lc.length ∨ room < (st.length : Int) ∨ ((ph = 2 ∨ ph = 3) ∧ 0 < st.length) ∨ (sc = true ∧ ph ≠ 1)) : chkBad lc lr room ph at_ m st sc = true := by
  unfold chkBad
  simp only [Bool.or_eq_true, Bool.and_eq_true, decide_eq_true_eq]
  rcases h with h | h | h | h | h | h
  · exact .inl (.inl (.inl (.inl (.inl h))))
  · exact .inl (.inl (.inl (.inl (.inr h))))
  · exact .inl (.inl (.inl (.inr h)))
  · exact .inl (.inl (.inr h))
  · exact .inl (.inr h)
  · exact .inr h
theorem j0_bad : atticref19_Check.j0 (k + 1) room (most lc lr ph sc) lc lr ph at_ m st ov ag sc = atticref19_Check.j1 k (chkBad lc lr room ph at_ m st sc) lc lr ph at_ m st ov ag sc := by
  rw [atticref19_Check.j0]
  by_cases h1 : ph < 0
  · rw [if_pos h1, bad_true (by rw [furth_not lc lr sc (.inl h1)]; omega)]
  by_cases h2 : ph > 3
  · rw [if_neg h1, if_pos h2, bad_true (by rw [furth_not lc lr sc (.inr h2)]; omega)]
  have hf : furth lc lr ph sc = most lc lr ph sc := furth_most lc lr sc (by omega) (by omega)
  rw [if_neg h1, if_neg h2]
  by_cases h3 : at_ < 0
  · rw [if_pos h3, bad_true (.inl h3)]
  by_cases h4 : at_ > most lc lr ph sc
  · rw [if_neg h3, if_pos h4, bad_true (.inr (.inl (by rw [hf]; exact h4)))]
  rw [if_neg h3, if_neg h4]
  by_cases h5 : (m.length : Int) = (lc.length : Int)
  · rw [if_pos h5]
    by_cases h6 : (st.length : Int) > room
    · rw [if_pos h6, bad_true (.inr (.inr (.inr (.inl h6))))]
    · rw [if_neg h6]
      have fin : (sc = true → ph = 1) → (if ph ≥ 2 then (atticref19_Check.j1 k (decide ((st.length : Int) > 0)) lc lr ph at_ m st ov ag sc) else (atticref19_Check.j1 k false lc lr ph at_ m st ov ag sc)) = atticref19_Check.j1 k (chkBad lc lr room ph at_ m st sc) lc lr ph at_ m st ov ag sc := fun hs => by
        by_cases h8 : ph ≥ 2
        · rw [if_pos h8]
          by_cases h9 : (st.length : Int) > 0
          · rw [decide_eq_true h9, bad_true (.inr (.inr (.inr (.inr (.inl ⟨by omega, by omega⟩)))))]
          · rw [decide_eq_false h9, chkBad_false.2 ⟨by omega, by omega, by omega, by omega, fun _ => List.eq_nil_of_length_eq_zero (by omega), hs⟩]
        · rw [if_neg h8, chkBad_false.2 ⟨by omega, by omega, by omega, by omega, fun h => absurd h (by omega), hs⟩]
      by_cases hs : sc = true
      · rw [if_pos hs]
        by_cases h7 : ph = 1
        · rw [if_pos h7]; exact fin fun _ => h7
        · rw [if_neg h7, bad_true (.inr (.inr (.inr (.inr (.inr ⟨hs, h7⟩)))))]
      · rw [if_neg hs]; exact fin fun h => absurd h hs
  · rw [if_neg h5, bad_true (.inr (.inr (.inl (by omega))))]
theorem rstack (hml : m.length = lc.length) (hb : st.length ≤ 9223372036854775806) : ∀ (d j k : Nat), j + d = st.length → d + st.length < k → atticref19_Check.l1 k (j : Int) lc lr ph at_ m st ov ag sc = some (if chkStack lc m st (st.drop j) j = true then 191 else 0)
  | 0, j, k, hj, hk => by
    obtain ⟨k, rfl⟩ : ∃ k', k = k' + 1 := ⟨k - 1, by omega⟩
    rw [atticref19_Check.l1, if_neg (by omega), List.drop_eq_nil_of_le (by omega)]; rfl
  | d + 1, j, k, hj, hk => by
    obtain ⟨k, rfl⟩ : ∃ k', k = k' + 1 := ⟨k - 1, by omega⟩
    have hlt : j < st.length := by omega
    rw [atticref19_Check.l1, if_pos (by omega), if_pos (by omega), rd_in st j hlt, rcell_at, Option.bind_some, List.drop_eq_getElem_cons hlt, chkStack, wnat hlt (by omega), rstack hml hb d (j + 1) k (by omega) (by omega)]
    cases ht : isThere lc st[j] with
    | false => rw [if_neg Bool.false_ne_true]; rfl
    | true =>
      obtain ⟨t0, t1, _⟩ := there_in ht
      rw [if_pos rfl, if_pos t0, if_pos (by omega)]
      cases hm : rdOf false m st[j] with
      | false => rw [if_neg Bool.false_ne_true]; rfl
      | true =>
        rw [if_pos rfl, if_pos (by omega), Int.toNat_natCast, rhas_f _ _ (by rw [List.length_take]; omega) (by rw [List.length_take]; omega), Option.bind_some]
        cases hc : (st.take j).contains st[j] with
        | true => rw [if_pos rfl]; rfl
        | false => rw [if_neg Bool.false_ne_true]; rfl
theorem rmarks (hml : m.length = lc.length) (hb : st.length ≤ 9223372036854775806) (hb2 : m.length ≤ 9223372036854775806) : ∀ (d j k : Nat), j + d = m.length → d + st.length + st.length + 1 < k → atticref19_Check.l0 k (j : Int) lc lr ph at_ m st ov ag sc = some (if chkMarks lc (m.drop j) j = true then 191 else if chkStack lc m st st 0 = true then 191 else 0)
  | 0, j, k, hj, hk => by
    obtain ⟨k, rfl⟩ : ∃ k', k = k' + 1 := ⟨k - 1, by omega⟩
    have := rstack (lr := lr) (ph := ph) (at_ := at_) (ov := ov) (ag := ag) (sc := sc) hml hb st.length 0 k (by omega) (by omega)
    rw [List.drop_zero] at this
    rw [atticref19_Check.l0, if_neg (by omega), List.drop_eq_nil_of_le (by omega)]
    exact this
  | d + 1, j, k, hj, hk => by
    obtain ⟨k, rfl⟩ : ∃ k', k = k' + 1 := ⟨k - 1, by omega⟩
    have hlt : j < m.length := by omega
    rw [atticref19_Check.l0, if_pos (by omega), if_pos (by omega), rdB_in m j hlt, List.drop_eq_getElem_cons hlt, chkMarks, wnat hlt (by omega), rmarks hml hb hb2 d (j + 1) k (by omega) (by omega)]
    cases hm : m[j] with
    | false => rw [if_neg Bool.false_ne_true]; rfl
    | true =>
      rw [if_pos rfl, if_pos (by omega)]
      by_cases h0 : (rd_T56 lc (j : Int)).f0 = 0
      · rw [if_pos h0, decide_eq_true h0]; rfl
      · rw [if_neg h0, decide_eq_false h0]; rfl
theorem rrest (hb : st.length ≤ 1000000000000000) (hb2 : m.length ≤ 1000000000000000) (hk : m.length + st.length + st.length + 4 < k) : atticref19_Check.j0 k room (most lc lr ph sc) lc lr ph at_ m st ov ag sc = some (chkRest lc lr room ph at_ m st sc) := by
  obtain ⟨k, rfl⟩ : ∃ k', k = k' + 2 := ⟨k - 2, by omega⟩
  rw [j0_bad, atticref19_Check.j1, chkRest]
  cases hbad : chkBad lc lr room ph at_ m st sc with
  | true => rw [if_pos rfl, if_pos rfl]
  | false =>
    have hml := (chkBad_false.1 hbad).2.2.1
    rw [if_neg Bool.false_ne_true, if_neg Bool.false_ne_true]
    have := rmarks (lr := lr) (ph := ph) (at_ := at_) (ov := ov) (ag := ag) (sc := sc) hml (st := st) (by omega) (by omega) m.length 0 k (by omega) (by omega)
    rw [List.drop_zero] at this
    exact this
end
theorem same_l1 (ph at_ : Int) (m : List Bool) (st : List Int) (ov ag sc : Bool) (hb : st.length ≤ 9223372036854775806) : ∀ (d j k : Nat), j + d = st.length → d < k → atticref19_Same.l1 k (j : Int) ph at_ m st ov ag sc ph at_ m st ov ag sc = some true
  | 0, j, k, hj, hk => by
    obtain ⟨k, rfl⟩ : ∃ k', k = k' + 1 := ⟨k - 1, by omega⟩
    rw [atticref19_Same.l1, if_neg (by omega)]
  | d + 1, j, k, hj, hk => by
    obtain ⟨k, rfl⟩ : ∃ k', k = k' + 1 := ⟨k - 1, by omega⟩
    rw [atticref19_Same.l1, if_pos (by omega), if_pos (by omega), if_pos (by omega), if_pos rfl, wnat (show j < st.length by omega) (by omega), same_l1 ph at_ m st ov ag sc hb d (j + 1) k (by omega) (by omega)]
theorem same_l0 (ph at_ : Int) (m : List Bool) (st : List Int) (ov ag sc : Bool) (hb : st.length ≤ 9223372036854775806) (hb2 : m.length ≤ 9223372036854775806) : ∀ (d j k : Nat), j + d = m.length → d + st.length + 1 < k → atticref19_Same.l0 k (j : Int) ph at_ m st ov ag sc ph at_ m st ov ag sc = some true
  | 0, j, k, hj, hk => by
    obtain ⟨k, rfl⟩ : ∃ k', k = k' + 1 := ⟨k - 1, by omega⟩
    rw [atticref19_Same.l0, if_neg (by omega)]
    exact same_l1 ph at_ m st ov ag sc hb st.length 0 k (by omega) (by omega)
  | d + 1, j, k, hj, hk => by
    obtain ⟨k, rfl⟩ : ∃ k', k = k' + 1 := ⟨k - 1, by omega⟩
    rw [atticref19_Same.l0, if_pos (by omega), if_pos (by omega), if_pos (by omega), bne_self_eq_false, if_neg Bool.false_ne_true, wnat (show j < m.length by omega) (by omega), same_l0 ph at_ m st ov ag sc hb hb2 d (j + 1) k (by omega) (by omega)]
theorem same_self (ph at_ : Int) (m : List Bool) (st : List Int) (ov ag sc : Bool) (hb : st.length ≤ 1000000000000000) (hb2 : m.length ≤ 1000000000000000) {k : Nat} (hk : m.length + st.length + 4 < k) : atticref19_Same.f k ph at_ m st ov ag sc ph at_ m st ov ag sc = some true := by
  obtain ⟨k, rfl⟩ : ∃ k', k = k' + 1 := ⟨k - 1, by omega⟩
  rw [atticref19_Same.f, if_pos rfl, if_pos rfl, if_pos rfl, if_pos rfl, bne_self_eq_false, if_neg Bool.false_ne_true, bne_self_eq_false, if_neg Bool.false_ne_true, bne_self_eq_false, atticref19_Same.j0, if_neg Bool.false_ne_true]
  exact same_l0 ph at_ m st ov ag sc (by omega) (by omega) m.length 0 k (by omega) (by omega)
end Go.Proofs.Ytnmpmjbkelogaaa.Pure
