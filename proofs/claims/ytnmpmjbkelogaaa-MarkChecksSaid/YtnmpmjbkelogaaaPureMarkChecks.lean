/- Which views and states may be, the state at first, the bound: the law's pure part. -/
import Derived.Test.YtnmpmjbkelogaaaPrint
import Derived.Test.YtnmpmjbkelogaaaPureRc19
namespace Go.Proofs.Ytnmpmjbkelogaaa.Pure
open Go.RowKit Go.Proofs.Ytnmpmjbkelogaaa.Print Go.Proofs.YtnmpmjbkelogaaaW.PrintWords Go.Proofs.YtnmpmjbkelogaaaW.PrintMore
set_option linter.unusedSimpArgs false
set_option linter.unusedVariables false

theorem live_k {k : Nat} (hk : 20 ≤ k) : atticlaw19_live.f k = some true := at_rounds (g := fun k => atticlaw19_live.f k) atticlaw19_live.mono hk (show atticlaw19_live.f 20 = some true from by kernel_rfl)
theorem MarkChecks : atticlaw19_MarkChecks.Pure := by
  rintro ⟨lc, lr⟩ ⟨room, ⟨ph, at_, m, st, ov, ag, sc⟩, units⟩ ⟨⟨g1, g2⟩, g3, g4⟩ ⟨h1, ⟨h2, h3, ⟨h4, _⟩, ⟨h5, _⟩, _⟩, _⟩
  have hG : VG lc := ⟨by have : lc.length * 32 ≤ _ := g1; omega, fun c hc => by have := (g2 c hc).2.1; omega⟩
  have g1' : lc.length * 32 ≤ 140737488351232 := g1
  have g3' : lr.length * 8 ≤ 140737488351232 := g3
  have h4' : m.length * 1 ≤ 140737488351232 := h4
  have h5' : st.length * 8 ≤ 140737488351232 := h5
  obtain ⟨K1, hK1⟩ := view_f lc lr hG
  obtain ⟨K4, hK4⟩ := rview_f lc lr hG (by omega)
  obtain ⟨k, hk⟩ : ∃ k, k = K1 + K4 + lc.length + m.length + st.length + st.length + 100 := ⟨_, rfl⟩
  have e1 : mark_CheckView.f k lc lr = _ := hK1 k (by omega)
  have e4 : atticref19_CheckView.f k lc lr = _ := hK4 k (by omega)
  refine ⟨k, ?_⟩
  show atticlaw19_MarkChecks.f k lc lr room ph at_ m st ov ag sc units = some true
  have hbd : mark_Bound.f lc lr = atticref19_Bound.f lc lr := rfl
  have hnew : mark_New.f k lc lr room = atticref19_New.f k lc lr room := by
    unfold mark_New.f atticref19_New.f
    rw [e1, e4]
  have hchk : mark_Check.f k lc lr room ph at_ m st ov ag sc = atticref19_Check.f k lc lr room ph at_ m st ov ag sc := by
    unfold mark_Check.f atticref19_Check.f
    rw [hnew]
    congr 1
    funext q
    by_cases hq : q.2.2.2.2.2.2.2 = 0
    · rw [if_pos hq, if_pos hq]
      have hr := rrest (lc := lc) (lr := lr) (room := room) (ph := ph) (at_ := at_) (m := m) (st := st) (ov := ov) (ag := ag) (sc := sc) (k := k) (by omega) (by omega) (by omega)
      rw [← hr]
      unfold most
      by_cases a : ph = 0
      · rw [if_pos a, if_pos a]
      · by_cases b : ph = 2
        · rw [if_neg a, if_pos b, if_neg a, if_pos b]
        · by_cases c : ph = 1
          · rw [if_neg a, if_neg b, if_pos c, if_neg a, if_neg b, if_pos c]
            cases sc with
            | true => rw [if_pos rfl, if_pos rfl]
            | false => rw [if_neg Bool.false_ne_true, if_neg Bool.false_ne_true]
          · rw [if_neg a, if_neg b, if_neg c, if_neg a, if_neg b, if_neg c]
    · rw [if_neg hq, if_neg hq]
  obtain ⟨q, hq, hql⟩ : ∃ q, atticref19_New.f k lc lr room = some q ∧ q.2.2.1.length ≤ lc.length ∧ q.2.2.2.1 = [] := by
    unfold atticref19_New.f
    rw [e4, Option.bind_some]
    by_cases hv : viewB lc lr = true
    · rw [if_pos hv, if_pos rfl]
      by_cases r1 : room < 1
      · rw [if_pos r1]; exact ⟨_, rfl, by simp, rfl⟩
      · rw [if_neg r1]
        by_cases r2 : room > 256
        · rw [if_pos r2]; exact ⟨_, rfl, by simp, rfl⟩
        · rw [if_neg r2, if_pos (by omega), if_pos (by omega)]; exact ⟨_, rfl, by simp, rfl⟩
    · rw [if_neg hv, if_neg (by decide)]; exact ⟨_, rfl, by simp, rfl⟩
  obtain ⟨c, hc⟩ : ∃ c, atticref19_Check.f k lc lr room ph at_ m st ov ag sc = some c := by
    rw [← hchk]
    unfold mark_Check.f
    rw [hnew, hq, Option.bind_some]
    by_cases hz : q.2.2.2.2.2.2.2 = 0
    · rw [if_pos hz]; exact ⟨_, rfl⟩
    · rw [if_neg hz]; exact ⟨_, rfl⟩
  have hs := same_self q.1 q.2.1 q.2.2.1 q.2.2.2.1 q.2.2.2.2.1 q.2.2.2.2.2.1 q.2.2.2.2.2.2.1 (by rw [hql.2]; exact Nat.zero_le _) (by omega) (k := k) (by rw [hql.2]; simp only [List.length_nil]; omega)
  unfold atticlaw19_MarkChecks.f
  rw [hnew, hq, Option.bind_some, Option.bind_some, live_k (by omega), Option.bind_some, if_pos rfl, e1, Option.bind_some, e4, Option.bind_some, if_pos rfl, hchk, hc, Option.bind_some, Option.bind_some, if_pos rfl, if_pos rfl, hs, Option.bind_some, if_pos rfl, hbd]
  unfold atticref19_Bound.f
  rw [Option.bind_some, Option.bind_some, beq_self_eq_true]
end Go.Proofs.Ytnmpmjbkelogaaa.Pure
