/- Views: which may be; what counts. -/
import Derived.Test.YtnmpmjbkelogaaaPrint
import Derived.Test.YtnmpmjbkelogaaaPureBase
namespace Go.Proofs.Ytnmpmjbkelogaaa.Pure
open Go.RowKit Go.Proofs.Ytnmpmjbkelogaaa.Print Go.Proofs.YtnmpmjbkelogaaaW.PrintWords Go.Proofs.YtnmpmjbkelogaaaW.PrintMore
set_option linter.unusedSimpArgs false
set_option linter.unusedVariables false

abbrev Cel := S56
theorem rdT_in (lc : List Cel) (i : Nat) (h : i < lc.length) : rd_T56 lc (i : Int) = lc[i] := by simp [rd_T56, h]
theorem rd_in (l : List Int) (i : Nat) (h : i < l.length) : rd l (i : Int) = l[i] := by simp [rd, h]
theorem rdB_in (l : List Bool) (i : Nat) (h : i < l.length) : rdOf false l (i : Int) = l[i] := by simp [rdOf, h]
theorem wnat {i n : Nat} (h : i < n) (hn : n ≤ 9223372036854775807) : wrap64 ((i : Int) + 1) = ((i + 1 : Nat) : Int) := by rw [w64 (by omega) (by omega)]; rfl
theorem Ev.eq {α : Type} {g : Nat → Option α} {r r' : α} (h : Ev g r) (e : r = r') : Ev g r' := e ▸ h
def cellB (c : Cel) : Bool := if c.f0 = 0 then c.f1.length == 0 else if c.f0 = 3 then decide (0 < c.f1.length) else if c.f0 = 1 then true else c.f0 == 2
theorem cell_f (c : Cel) : mark_cell.f c.f0 c.f1 = some (cellB c) := by
  unfold mark_cell.f cellB
  by_cases h0 : c.f0 = 0
  · rw [if_pos h0, if_pos h0]; congr 1; rw [Bool.eq_iff_iff]; simp
  · rw [if_neg h0, if_neg h0]
    by_cases h3 : c.f0 = 3
    · rw [if_pos h3, if_pos h3]; congr 1; rw [Bool.eq_iff_iff]; simp
    · rw [if_neg h3, if_neg h3]
      split <;> rfl
def ptrB (lc : List Cel) (p : Int) : Bool := p == -1 || isThere lc p
def viewB (lc : List Cel) (lr : List Int) : Bool := decide (lc.length ≤ 8192) && (lc.all fun c => cellB c && c.f1.all (ptrB lc)) && lr.all (isThere lc)
theorem any_f (lc : List Cel) (lr : List Int) : ∀ l : List Int, any_view.f l lc lr = some (!l.all (isThere lc))
  | [] => rfl
  | x :: l => by
    rw [any_view.f, there_at, Option.bind_some, List.all_cons, any_f lc lr l]
    cases isThere lc x <;> simp
theorem view_end (lc : List Cel) (lr : List Int) (b : Bool) (x4 : Int) : Ev (fun k => mark_CheckView.j1 k b x4 false lc lr) (if b = true ∧ lr.all (isThere lc) = true then 0 else 190) := by
  refine Ev.step (f := fun _ => some (if b = true ∧ lr.all (isThere lc) = true then 0 else 190)) (fun k => ?_) (Ev.now _)
  rw [mark_CheckView.j1, if_neg (by decide), any_f, Option.bind_some]
  cases b <;> cases lr.all (isThere lc) <;> simp
theorem view_l1 (lc : List Cel) (lr : List Int) (b : Bool) (x4 : Int) (l : List Int) (hl : l.length ≤ 9223372036854775807) (r : Int) (hr : Ev (fun k => mark_CheckView.l0 k b (wrap64 (x4 + 1)) lc lr) r) :
    ∀ (m j : Nat), j + m = l.length → Ev (fun k => mark_CheckView.l1 k b x4 l (l.length : Int) (j : Int) lc lr) (if (l.drop j).all (ptrB lc) = true then r else 190)
  | 0, j, hj => by
    rw [List.drop_eq_nil_of_le (by omega), List.all_nil, if_pos rfl]
    refine Ev.step (fun k => ?_) hr
    rw [mark_CheckView.l1, if_neg (by omega)]
  | m + 1, j, hj => by
    have hlt : j < l.length := by omega
    have ih := view_l1 lc lr b x4 l hl r hr m (j + 1) (by omega)
    rw [List.drop_eq_getElem_cons hlt, List.all_cons]
    have e : ∀ k, mark_CheckView.l1 (k + 1) b x4 l (l.length : Int) (j : Int) lc lr = (if ptrB lc l[j] = true then mark_CheckView.l1 k b x4 l (l.length : Int) ((j + 1 : Nat) : Int) lc lr else some 190) := by
      intro k
      rw [mark_CheckView.l1, if_pos (by omega), if_pos (by omega), if_pos (by omega), rd_in l j hlt, wnat hlt hl, there_at, Option.bind_some, ptrB]
      by_cases h : l[j] = -1
      · rw [if_pos h, if_pos (by rw [h]; rfl)]
      · rw [if_neg h, beq_eq_false_iff_ne.2 h, Bool.false_or]
    cases hp : ptrB lc l[j] with
    | true =>
      rw [Bool.true_and]
      exact Ev.step (fun k => by rw [e, hp, if_pos rfl]) ih
    | false =>
      rw [Bool.false_and, if_neg Bool.false_ne_true]
      exact Ev.step (fun k => by rw [e, hp, if_neg Bool.false_ne_true]) (Ev.now _)
def VG (lc : List Cel) : Prop := lc.length ≤ 9223372036854775806 ∧ ∀ c ∈ lc, c.f1.length ≤ 9223372036854775807
theorem view_l0 (lc : List Cel) (lr : List Int) (hG : VG lc) : ∀ (m j : Nat) (b : Bool), j + m = lc.length →
    Ev (fun k => mark_CheckView.l0 k b (j : Int) lc lr) (if b = true ∧ ((lc.drop j).all fun c => cellB c && c.f1.all (ptrB lc)) = true ∧ lr.all (isThere lc) = true then 0 else 190)
  | m, j, false, hj => by
    rw [if_neg (by simp)]
    refine Ev.step (fun k => ?_) (view_end lc lr false (j : Int))
    rw [mark_CheckView.l0, if_neg (by decide)]
  | 0, j, true, hj => by
    rw [List.drop_eq_nil_of_le (by omega)]
    have := view_end lc lr true (j : Int)
    simp only [true_and] at this
    rw [show (if true = true ∧ (([] : List Cel).all fun c => cellB c && c.f1.all (ptrB lc)) = true ∧ lr.all (isThere lc) = true then (0 : Int) else 190) = (if lr.all (isThere lc) = true then 0 else 190) from by simp]
    refine Ev.step (fun k => ?_) this
    rw [mark_CheckView.l0, if_pos rfl, decide_eq_false (by omega)]
  | m + 1, j, true, hj => by
    have hlt : j < lc.length := by omega
    have hc := hG.2 _ (List.getElem_mem hlt)
    have ih := view_l0 lc lr hG m (j + 1) (cellB lc[j]) (by omega)
    rw [← wnat hlt (by have := hG.1; omega)] at ih
    have h1 := view_l1 lc lr (cellB lc[j]) (j : Int) lc[j].f1 hc _ ih lc[j].f1.length 0 (by omega)
    rw [List.drop_zero] at h1
    have h2 : Ev (fun k => mark_CheckView.l0 k true (j : Int) lc lr) (if lc[j].f1.all (ptrB lc) = true then (if cellB lc[j] = true ∧ ((lc.drop (j + 1)).all fun c => cellB c && c.f1.all (ptrB lc)) = true ∧ lr.all (isThere lc) = true then 0 else 190) else 190) := by
      refine Ev.step (f := fun k => mark_CheckView.j1 k true (j : Int) true lc lr) (fun k => ?_) (Ev.step (fun k => ?_) h1)
      · rw [mark_CheckView.l0, if_pos rfl, decide_eq_true (by omega)]
      · rw [mark_CheckView.j1, if_pos rfl, if_pos (by omega), if_pos (by omega), rdT_in lc j hlt, cell_f, Option.bind_some]
        rfl
    rw [List.drop_eq_getElem_cons hlt, List.all_cons]
    refine Ev.eq h2 ?_
    cases lc[j].f1.all (ptrB lc) <;> cases cellB lc[j] <;> simp
theorem view_f (lc : List Cel) (lr : List Int) (hG : VG lc) : Ev (fun k => mark_CheckView.f k lc lr) (if viewB lc lr = true then 0 else 190) := by
  have := view_l0 lc lr hG lc.length 0 (decide ((lc.length : Int) ≤ 8192)) (by omega)
  unfold mark_CheckView.f
  refine Ev.eq this ?_
  unfold viewB
  rw [List.drop_zero]
  simp only [Bool.and_eq_true, decide_eq_true_eq]
  have : ((lc.length : Int) ≤ 8192) ↔ lc.length ≤ 8192 := by omega
  simp only [this, and_assoc]
/-! ### what counts -/
theorem there_in {lc : List Cel} {p : Int} (h : isThere lc p = true) : 0 ≤ p ∧ p < (lc.length : Int) ∧ (rd_T56 lc p).f0 ≠ 0 := of_decide_eq_true h
end Go.Proofs.Ytnmpmjbkelogaaa.Pure
