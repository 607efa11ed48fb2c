/- The reference's views and what counts there. -/
import Derived.Test.YtnmpmjbkelogaaaPrint
import Derived.Test.YtnmpmjbkelogaaaPureV19
namespace Go.Proofs.Ytnmpmjbkelogaaa.Pure
open Go.RowKit Go.Proofs.Ytnmpmjbkelogaaa.Print Go.Proofs.YtnmpmjbkelogaaaW.PrintWords Go.Proofs.YtnmpmjbkelogaaaW.PrintMore
set_option linter.unusedSimpArgs false
set_option linter.unusedVariables false

theorem rcell_at (lc : List Cel) (lr : List Int) (i : Int) : atticref19_cell.f lc lr i = some (isThere lc i) := by
  have := there_at lc lr i
  unfold mark_there.f at this
  unfold atticref19_cell.f
  exact this
/-- A cell that may be, as the reference asks it. -/
theorem cellB_iff (c : Cel) : cellB c = true ↔ 0 ≤ c.f0 ∧ c.f0 ≤ 3 ∧ (c.f0 = 0 → c.f1.length = 0) ∧ (c.f0 = 3 → 0 < c.f1.length) := by
  unfold cellB
  by_cases h0 : c.f0 = 0
  · rw [if_pos h0]; simp [h0]
  · rw [if_neg h0]
    by_cases h3 : c.f0 = 3
    · rw [if_pos h3]; simp [h3]
    · rw [if_neg h3]
      by_cases h1 : c.f0 = 1
      · rw [if_pos h1]; simp [h1]
      · rw [if_neg h1]
        constructor
        · intro h
          have h2 : c.f0 = 2 := by simpa using h
          omega
        · rintro ⟨a, b, _⟩
          have h2 : c.f0 = 2 := by omega
          simp [h2]
theorem rview_l2 (lc : List Cel) (lr : List Int) (hl : lr.length ≤ 9223372036854775807) : ∀ (m j : Nat), j + m = lr.length → Ev (fun k => atticref19_CheckView.l2 k (j : Int) lc lr) (if (lr.drop j).all (isThere lc) = true then 0 else 190)
  | 0, j, hj => by
    rw [List.drop_eq_nil_of_le (by omega), List.all_nil, if_pos rfl]
    refine Ev.step (f := fun _ => some 0) (fun k => ?_) (Ev.now _)
    rw [atticref19_CheckView.l2, if_neg (by omega)]
  | m + 1, j, hj => by
    have hlt : j < lr.length := by omega
    rw [List.drop_eq_getElem_cons hlt, List.all_cons]
    have e : ∀ k, atticref19_CheckView.l2 (k + 1) (j : Int) lc lr = (if isThere lc lr[j] = true then atticref19_CheckView.l2 k ((j + 1 : Nat) : Int) lc lr else some 190) := fun k => by
      rw [atticref19_CheckView.l2, if_pos (by omega), if_pos (by omega), rcell_at, Option.bind_some, rd_in lr j hlt, wnat hlt hl]
    cases ht : isThere lc lr[j] with
    | true => rw [Bool.true_and]; exact Ev.step (fun k => by rw [e, ht, if_pos rfl]) (rview_l2 lc lr hl m (j + 1) (by omega))
    | false => rw [Bool.false_and, if_neg Bool.false_ne_true]; exact Ev.step (fun k => by rw [e, ht, if_neg Bool.false_ne_true]) (Ev.now _)
theorem rview_l1 (lc : List Cel) (lr : List Int) (x3 f0 : Int) (l : List Int) (hl : l.length ≤ 9223372036854775807) (r : Int) (hr : Ev (fun k => atticref19_CheckView.l0 k (wrap64 (x3 + 1)) lc lr) r) :
    ∀ (m j : Nat), j + m = l.length → Ev (fun k => atticref19_CheckView.l1 k x3 (j : Int) lc lr f0 l) (if (l.drop j).all (ptrB lc) = true then r else 190)
  | 0, j, hj => by
    rw [List.drop_eq_nil_of_le (by omega), List.all_nil, if_pos rfl]
    exact Ev.step (fun k => by rw [atticref19_CheckView.l1, if_neg (by omega)]) hr
  | m + 1, j, hj => by
    have hlt : j < l.length := by omega
    rw [List.drop_eq_getElem_cons hlt, List.all_cons]
    have e : ∀ k, atticref19_CheckView.l1 (k + 1) x3 (j : Int) lc lr f0 l = (if ptrB lc l[j] = true then atticref19_CheckView.l1 k x3 ((j + 1 : Nat) : Int) lc lr f0 l else some 190) := fun k => by
      rw [atticref19_CheckView.l1, if_pos (by omega), if_pos (by omega), rd_in l j hlt, wnat hlt hl, rcell_at, Option.bind_some, ptrB]
      by_cases h : l[j] = -1
      · rw [if_pos h, if_pos (by rw [h]; rfl)]
      · rw [if_neg h, beq_eq_false_iff_ne.2 h, Bool.false_or]
    cases hp : ptrB lc l[j] with
    | true => rw [Bool.true_and]; exact Ev.step (fun k => by rw [e, hp, if_pos rfl]) (rview_l1 lc lr x3 f0 l hl r hr m (j + 1) (by omega))
    | false => rw [Bool.false_and, if_neg Bool.false_ne_true]; exact Ev.step (fun k => by rw [e, hp, if_neg Bool.false_ne_true]) (Ev.now _)
theorem rview_l0 (lc : List Cel) (lr : List Int) (hG : VG lc) (hl : lr.length ≤ 9223372036854775807) : ∀ (m j : Nat), j + m = lc.length →
    Ev (fun k => atticref19_CheckView.l0 k (j : Int) lc lr) (if ((lc.drop j).all fun c => cellB c && c.f1.all (ptrB lc)) = true ∧ lr.all (isThere lc) = true then 0 else 190)
  | 0, j, hj => by
    rw [List.drop_eq_nil_of_le (by omega)]
    have := rview_l2 lc lr hl lr.length 0 (by omega)
    rw [List.drop_zero] at this
    refine Ev.eq (Ev.step (fun k => ?_) this) (by simp)
    rw [atticref19_CheckView.l0, if_neg (by omega)]; rfl
  | m + 1, j, hj => by
    have hlt : j < lc.length := by omega
    have hc := hG.2 _ (List.getElem_mem hlt)
    have ih := rview_l0 lc lr hG hl m (j + 1) (by omega)
    rw [← wnat hlt (by have := hG.1; omega)] at ih
    have h1 := rview_l1 lc lr (j : Int) lc[j].f0 lc[j].f1 hc _ ih lc[j].f1.length 0 (by omega)
    rw [List.drop_zero] at h1
    have hj1 : ∀ b : Bool, Ev (fun k => atticref19_CheckView.j1 k (j : Int) b lc lr lc[j].f0 lc[j].f1) (if b = true then 190 else (if lc[j].f1.all (ptrB lc) = true then (if ((lc.drop (j + 1)).all fun c => cellB c && c.f1.all (ptrB lc)) = true ∧ lr.all (isThere lc) = true then 0 else 190) else 190)) := fun b => by
      cases b with
      | true => exact Ev.step (f := fun _ => some 190) (fun k => by rw [atticref19_CheckView.j1, if_pos rfl]) (Ev.now _)
      | false => rw [if_neg Bool.false_ne_true]; exact Ev.step (fun k => by rw [atticref19_CheckView.j1, if_neg Bool.false_ne_true]; rfl) h1
    have e : ∀ k, atticref19_CheckView.l0 (k + 1) (j : Int) lc lr = atticref19_CheckView.j1 k (j : Int) (!cellB lc[j]) lc lr lc[j].f0 lc[j].f1 := fun k => by
      rw [atticref19_CheckView.l0, if_pos (by omega), if_pos (by omega), rdT_in lc j hlt]
      generalize lc[j] = c
      have hcb := cellB_iff c
      by_cases a1 : c.f0 < 0
      · rw [if_pos a1, show cellB c = false from by rw [Bool.eq_false_iff]; intro h; have := hcb.1 h; omega]; rfl
      · rw [if_neg a1]
        by_cases a2 : c.f0 > 3
        · rw [if_pos a2, show cellB c = false from by rw [Bool.eq_false_iff]; intro h; have := hcb.1 h; omega]; rfl
        · rw [if_neg a2]
          by_cases a0 : c.f0 = 0
          · rw [if_pos a0]
            by_cases al : (c.f1.length : Int) > 0
            · rw [if_pos al, show cellB c = false from by rw [Bool.eq_false_iff]; intro h; have := hcb.1 h; omega]; rfl
            · rw [if_neg al, if_neg (by omega), show cellB c = true from hcb.2 ⟨by omega, by omega, fun _ => by omega, fun h => by omega⟩]; rfl
          · rw [if_neg a0]
            by_cases a3 : c.f0 = 3
            · rw [if_pos a3]
              by_cases al : c.f1.length = 0
              · rw [show cellB c = false from by rw [Bool.eq_false_iff]; intro h; have := (hcb.1 h).2.2.2 a3; omega, show ((c.f1.length : Int) == 0) = true from beq_iff_eq.2 (by omega)]; rfl
              · rw [show cellB c = true from hcb.2 ⟨by omega, by omega, fun h => absurd h a0, fun _ => by omega⟩, show ((c.f1.length : Int) == 0) = false from beq_eq_false_iff_ne.2 (by omega)]; rfl
            · rw [if_neg a3, show cellB c = true from hcb.2 ⟨by omega, by omega, fun h => absurd h a0, fun h => absurd h a3⟩]; rfl
    rw [List.drop_eq_getElem_cons hlt, List.all_cons]
    refine Ev.eq (Ev.step e (hj1 (!cellB lc[j]))) ?_
    cases lc[j].f1.all (ptrB lc) <;> cases cellB lc[j] <;> simp
theorem rview_f (lc : List Cel) (lr : List Int) (hG : VG lc) (hl : lr.length ≤ 9223372036854775807) : Ev (fun k => atticref19_CheckView.f k lc lr) (if viewB lc lr = true then 0 else 190) := by
  unfold atticref19_CheckView.f
  by_cases h : (lc.length : Int) > 8192
  · refine Ev.eq (r := 190) ⟨0, fun k _ => if_pos h⟩ ?_
    rw [if_neg]
    unfold viewB
    simp only [Bool.and_eq_true, decide_eq_true_eq]
    omega
  · have := rview_l0 lc lr hG hl lc.length 0 (by omega)
    rw [List.drop_zero] at this
    refine Ev.eq (Ev.congr (fun k => by rw [if_neg h]; rfl) this) ?_
    unfold viewB
    simp only [Bool.and_eq_true, decide_eq_true_eq]
    have h2 : lc.length ≤ 8192 := by omega
    simp only [h2, true_and]
end Go.Proofs.Ytnmpmjbkelogaaa.Pure
