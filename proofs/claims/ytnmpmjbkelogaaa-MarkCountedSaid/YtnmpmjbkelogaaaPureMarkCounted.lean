/- What counts of any cell, by any marks: the law's pure part. -/
import Derived.Test.YtnmpmjbkelogaaaPrint
import Derived.Test.YtnmpmjbkelogaaaPureW19
import Derived.Test.YtnmpmjbkelogaaaPureE19
namespace Go.Proofs.Ytnmpmjbkelogaaa.Pure
open Go.RowKit Go.Proofs.Ytnmpmjbkelogaaa.Print Go.Proofs.YtnmpmjbkelogaaaW.PrintWords Go.Proofs.YtnmpmjbkelogaaaW.PrintMore
set_option linter.unusedSimpArgs false
set_option linter.unusedVariables false

theorem cnt_len (lc : List Cel) (m : List Bool) (i : Nat) (hi : i < lc.length) : (cnt lc m i).length ≤ lc[i].f1.length := by
  rw [cnt_in lc m i hi]
  split
  · simp
  · split
    · split
      · simp
      · rename_i key r hc
        split
        · simp
        · exact Nat.le_trans (List.length_filter_le _ _) (by rw [hc]; simp)
    · exact List.length_filter_le _ _
theorem ptr_bound : ∀ lc : List Cel, ∃ K, ∀ c ∈ lc, c.f1.length < K
  | [] => ⟨0, fun c hc => by cases hc⟩
  | c :: lc => by
    obtain ⟨K, hK⟩ := ptr_bound lc
    refine ⟨K + c.f1.length + 1, fun d hd => ?_⟩
    rcases List.mem_cons.1 hd with rfl | hd
    · omega
    · have := hK d hd; omega
theorem MarkCounted : atticlaw19_MarkCounted.Pure := by
  rintro ⟨lc, lr⟩ m i ⟨⟨g1, g2⟩, g3, g4⟩ ⟨g5, _⟩ g6
  have hG : VG lc := ⟨by have : lc.length * 32 ≤ _ := g1; omega, fun c hc => by have := (g2 c hc).2.1; omega⟩
  replace g3 : lr.length * 8 ≤ 140737488351232 := g3
  obtain ⟨K1, hK1⟩ := view_f lc lr hG
  obtain ⟨K2, hK2⟩ := rview_f lc lr hG (by omega)
  obtain ⟨K3, hK3⟩ := ptr_bound lc
  obtain ⟨k, hk⟩ : ∃ k, k = K1 + K2 + K3 + 100 := ⟨_, rfl⟩
  have h1 : mark_CheckView.f k lc lr = _ := hK1 k (by omega)
  have h2 : atticref19_CheckView.f k lc lr = _ := hK2 k (by omega)
  refine ⟨k, ?_⟩
  show atticlaw19_MarkCounted.f k lc lr m i = some true
  unfold atticlaw19_MarkCounted.f
  rw [live_k (by omega), Option.bind_some, if_pos rfl]
  have key : ∃ l : List Int, mark_Counted.f k lc lr m i = some l ∧ atticref19_Counted.f k lc lr m i = some l ∧ l.length < k ∧ l.length ≤ 9223372036854775807 := by
    have nil_ : ([] : List Int).length < k ∧ ([] : List Int).length ≤ 9223372036854775807 := ⟨by simp; omega, by simp⟩
    unfold mark_Counted.f atticref19_Counted.f
    rw [h1, h2, Option.bind_some, Option.bind_some]
    cases hv : viewB lc lr with
    | false => exact ⟨[], rfl, rfl, nil_⟩
    | true =>
      rw [if_pos rfl, if_pos rfl, if_pos rfl]
      by_cases hml : m.length = lc.length
      · have hml' : (m.length : Int) = (lc.length : Int) := by omega
        simp only [if_pos hml', there_at, Option.bind_some]
        by_cases i0 : i < 0
        · rw [if_pos i0, show isThere lc i = false from decide_eq_false (fun h => absurd h.1 (by omega)), if_neg Bool.false_ne_true]
          exact ⟨[], rfl, rfl, nil_⟩
        · obtain ⟨n, rfl⟩ : ∃ n : Nat, i = (n : Int) := ⟨i.toNat, by omega⟩
          rw [if_neg i0]
          by_cases i1 : (n : Int) ≥ (m.length : Int)
          · rw [if_pos i1, show isThere lc (n : Int) = false from decide_eq_false (fun h => absurd h.2.1 (by omega)), if_neg Bool.false_ne_true]
            exact ⟨[], rfl, rfl, nil_⟩
          · have hlt : n < lc.length := by omega
            rw [if_neg i1]
            simp only [if_pos (show (0 : Int) ≤ (n : Int) by omega), if_pos (show (n : Int) < (m.length : Int) by omega), if_pos (show (n : Int) < (lc.length : Int) by omega)]
            by_cases hk0 : (rd_T56 lc (n : Int)).f0 = 0
            · rw [show isThere lc (n : Int) = false from decide_eq_false (fun h => h.2.2 hk0), if_neg Bool.false_ne_true, if_pos hk0]
              exact ⟨[], rfl, by simp, nil_⟩
            · rw [show isThere lc (n : Int) = true from decide_eq_true ⟨by omega, by omega, hk0⟩, if_pos rfl, if_neg hk0]
              cases hb : rdOf false m (n : Int) with
              | false => exact ⟨[], rfl, rfl, nil_⟩
              | true =>
                have hl := (g2 _ (List.getElem_mem hlt)).2.1
                have hK := hK3 _ (List.getElem_mem hlt)
                rw [if_pos rfl, if_pos rfl, counts_f lc lr m n k hlt hml hv (by omega) (by omega), rcounts_f lc lr m n k hlt hml hv (by omega) (by omega), Option.bind_some]
                have := cnt_len lc m n hlt
                exact ⟨_, rfl, rfl, by omega, by omega⟩
      · have hml' : ¬ (m.length : Int) = (lc.length : Int) := by omega
        simp only [if_neg hml']
        exact ⟨[], rfl, rfl, nil_⟩
  obtain ⟨l, e1, e2, e3, e4⟩ := key
  rw [e1, Option.bind_some, e2, Option.bind_some, eqI_f l e4 e3, Option.bind_some]
end Go.Proofs.Ytnmpmjbkelogaaa.Pure
