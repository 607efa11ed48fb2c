/- Views: which may be; what counts. -/
import Derived.Test.YtnmpmjbkelogaaaPrint
import Derived.Test.YtnmpmjbkelogaaaPureBase
namespace Go.Proofs.Ytnmpmjbkelogaaa.Pure
open Go.RowKit Go.Proofs.Ytnmpmjbkelogaaa.Print Go.Proofs.YtnmpmjbkelogaaaW.PrintWords Go.Proofs.YtnmpmjbkelogaaaW.PrintMore
set_option linter.unusedSimpArgs false
set_option linter.unusedVariables false

abbrev Cel := S56
theorem rdT_in (lc : List Cel) (i : Nat) (h : i < lc.length) : rd_T56 lc (i : Int) = lc[i] := by simp [rd_T56, h]
theorem rd_in (l : List Int) (i : Nat) (h : i < l.length) : rd l (i : Int) = l[i] := by simp [rd, h]
theorem wnat {i n : Nat} (h : i < n) (hn : n ≤ 9223372036854775807) : wrap64 ((i : Int) + 1) = ((i + 1 : Nat) : Int) := by rw [w64 (by omega) (by omega)]; rfl
theorem Ev.eq {α : Type} {g : Nat → Option α} {r r' : α} (h : Ev g r) (e : r = r') : Ev g r' := e ▸ h
def cellB (c : Cel) : Bool := if c.f0 = 0 then c.f1.length == 0 else if c.f0 = 3 then decide (0 < c.f1.length) else if c.f0 = 1 then true else c.f0 == 2
theorem cell_f (c : Cel) : mark_cell.f c.f0 c.f1 = some (cellB c) := by
  unfold mark_cell.f cellB
  by_cases h0 : c.f0 = 0
  · rw [if_pos h0, if_pos h0]; congr 1; rw [Bool.eq_iff_iff]; simp
  · rw [if_neg h0, if_neg h0]
    by_cases h3 : c.f0 = 3
    · rw [if_pos h3, if_pos h3]; congr 1; rw [Bool.eq_iff_iff]; simp
    · rw [if_neg h3, if_neg h3]
      split <;> rfl
def ptrB (lc : List Cel) (p : Int) : Bool := p == -1 || isThere lc p
def viewB (lc : List Cel) (lr : List Int) : Bool := decide (lc.length ≤ 8192) && (lc.all fun c => cellB c && c.f1.all (ptrB lc)) && lr.all (isThere lc)
theorem any_f (lc : List Cel) (lr : List Int) : ∀ l : List Int, any_view.f l lc lr = some (!l.all (isThere lc))
  | [] => rfl
  | x :: l => by
    rw [any_view.f, there_at, Option.bind_some, List.all_cons, any_f lc lr l]
    cases isThere lc x <;> simp
theorem view_end (lc : List Cel) (lr : List Int) (b : Bool) (x4 : Int) : Ev (fun k => mark_CheckView.j1 k b x4 false lc lr) (if b = true ∧ lr.all (isThere lc) = true then 0 else 190) := by
  refine Ev.step (f := fun _ => some (if b = true ∧ lr.all (isThere lc) = true then 0 else 190)) (fun k => ?_) (Ev.now _)
  rw [mark_CheckView.j1, if_neg (by decide), any_f, Option.bind_some]
  cases b <;> cases lr.all (isThere lc) <;> simp
theorem view_l1 (lc : List Cel) (lr : List Int) (b : Bool) (x4 : Int) (l : List Int) (hl : l.length ≤ 9223372036854775807) (r : Int) (hr : Ev (fun k => mark_CheckView.l0 k b (wrap64 (x4 + 1)) lc lr) r) :
    ∀ (m j : Nat), j + m = l.length → Ev (fun k => mark_CheckView.l1 k b x4 l (l.length : Int) (j : Int) lc lr) (if (l.drop j).all (ptrB lc) = true then r else 190)
  | 0, j, hj => by
    rw [List.drop_eq_nil_of_le (by omega), List.all_nil, if_pos rfl]
    refine Ev.step (fun k => ?_) hr
    rw [mark_CheckView.l1, if_neg (by omega)]
  | m + 1, j, hj => by
    have hlt : j < l.length := by omega
    have ih := view_l1 lc lr b x4 l hl r hr m (j + 1) (by omega)
    rw [List.drop_eq_getElem_cons hlt, List.all_cons]
    have e : ∀ k, mark_CheckView.l1 (k + 1) b x4 l (l.length : Int) (j : Int) lc lr = (if ptrB lc l[j] = true then mark_CheckView.l1 k b x4 l (l.length : Int) ((j + 1 : Nat) : Int) lc lr else some 190) := by
      intro k
      rw [mark_CheckView.l1, if_pos (by omega), if_pos (by omega), if_pos (by omega), rd_in l j hlt, wnat hlt hl, there_at, Option.bind_some, ptrB]
      by_cases h : l[j] = -1
      · rw [if_pos h, if_pos (by rw [h]; rfl)]
      · rw [if_neg h, beq_eq_false_iff_ne.2 h, Bool.false_or]
    cases hp : ptrB lc l[j] with
    | true =>
      rw [Bool.true_and]
      exact Ev.step (fun k => by rw [e, hp, if_pos rfl]) ih
    | false =>
      rw [Bool.false_and, if_neg Bool.false_ne_true]
      exact Ev.step (fun k => by rw [e, hp, if_neg Bool.false_ne_true]) (Ev.now _)
def VG (lc : List Cel) : Prop := lc.length ≤ 9223372036854775806 ∧ ∀ c ∈ lc, c.f1.length ≤ 9223372036854775807
theorem view_l0 (lc : List Cel) (lr : List Int) (hG : VG lc) : ∀ (m j : Nat) (b : Bool), j + m = lc.length →
    Ev (fun k => mark_CheckView.l0 k b (j : Int) lc lr) (if b = true ∧ ((lc.drop j).all fun c => cellB c && c.f1.all (ptrB lc)) = true ∧ lr.all (isThere lc) = true then 0 else 190)
  | m, j, false, hj => by
    rw [if_neg (by simp)]
    refine Ev.step (fun k => ?_) (view_end lc lr false (j : Int))
    rw [mark_CheckView.l0, if_neg (by decide)]
  | 0, j, true, hj => by
    rw [List.drop_eq_nil_of_le (by omega)]
    have := view_end lc lr true (j : Int)
    simp only [true_and] at this
    rw [show (if true = true ∧ (([] : List Cel).all fun c => cellB c && c.f1.all (ptrB lc)) = true ∧ lr.all (isThere lc) = true then (0 : Int) else 190) = (if lr.all (isThere lc) = true then 0 else 190) from by simp]
    refine Ev.step (fun k => ?_) this
    rw [mark_CheckView.l0, if_pos rfl, decide_eq_false (by omega)]
  | m + 1, j, true, hj => by
    have hlt : j < lc.length := by omega
    have hc := hG.2 _ (List.getElem_mem hlt)
    have ih := view_l0 lc lr hG m (j + 1) (cellB lc[j]) (by omega)
    rw [← wnat hlt (by have := hG.1; omega)] at ih
    have h1 := view_l1 lc lr (cellB lc[j]) (j : Int) lc[j].f1 hc _ ih lc[j].f1.length 0 (by omega)
    rw [List.drop_zero] at h1
    have h2 : Ev (fun k => mark_CheckView.l0 k true (j : Int) lc lr) (if lc[j].f1.all (ptrB lc) = true then (if cellB lc[j] = true ∧ ((lc.drop (j + 1)).all fun c => cellB c && c.f1.all (ptrB lc)) = true ∧ lr.all (isThere lc) = true then 0 else 190) else 190) := by
      refine Ev.step (f := fun k => mark_CheckView.j1 k true (j : Int) true lc lr) (fun k => ?_) (Ev.step (fun k => ?_) h1)
      · rw [mark_CheckView.l0, if_pos rfl, decide_eq_true (by omega)]
      · rw [mark_CheckView.j1, if_pos rfl, if_pos (by omega), if_pos (by omega), rdT_in lc j hlt, cell_f, Option.bind_some]
        rfl
    rw [List.drop_eq_getElem_cons hlt, List.all_cons]
    refine Ev.eq h2 ?_
    cases lc[j].f1.all (ptrB lc) <;> cases cellB lc[j] <;> simp
theorem view_f (lc : List Cel) (lr : List Int) (hG : VG lc) : Ev (fun k => mark_CheckView.f k lc lr) (if viewB lc lr = true then 0 else 190) := by
  have := view_l0 lc lr hG lc.length 0 (decide ((lc.length : Int) ≤ 8192)) (by omega)
  unfold mark_CheckView.f
  refine Ev.eq this ?_
  unfold viewB
  rw [List.drop_zero]
  simp only [Bool.and_eq_true, decide_eq_true_eq]
  have : ((lc.length : Int) ≤ 8192) ↔ lc.length ≤ 8192 := by omega
  simp only [this, and_assoc]
/-! ### what counts -/
def cnt (lc : List Cel) (m : List Bool) (i : Nat) : List Int :=
  let c := lc.getD i ⟨0, []⟩
  if c.f0 = 2 then [] else if c.f0 = 3 then (match c.f1 with | [] => [] | key :: r => if key = -1 ∨ m.getD key.toNat false = false then [] else r.filter (· ≠ -1)) else c.f1.filter (· ≠ -1)
theorem counts_l0 (x : List Int) (hx : x.length ≤ 9223372036854775807) : ∀ (m j k : Nat) (a : List Int), j + m = x.length → a.length + m < 17592186044416 → m < k → mark_counts.l0 k a x (x.length : Int) (j : Int) = some (a ++ (x.drop j).filter (· ≠ -1))
  | 0, j, k, a, hj, ha, hk => by
    obtain ⟨k, rfl⟩ : ∃ k', k = k' + 1 := ⟨k - 1, by omega⟩
    rw [List.drop_eq_nil_of_le (by omega), mark_counts.l0, if_neg (by omega)]
    simp
  | m + 1, j, k, a, hj, ha, hk => by
    obtain ⟨k, rfl⟩ : ∃ k', k = k' + 1 := ⟨k - 1, by omega⟩
    have hlt : j < x.length := by omega
    rw [List.drop_eq_getElem_cons hlt, List.filter_cons, mark_counts.l0, if_pos (by omega), if_pos (by omega), if_pos (by omega), rd_in x j hlt, wnat hlt hx]
    by_cases h : x[j] = -1
    · rw [if_pos h, if_neg (by simp [h]), counts_l0 x hx m (j + 1) k a (by omega) (by omega) (by omega)]
    · rw [if_neg h, if_pos (by omega), if_pos (by simp [h]), counts_l0 x hx m (j + 1) k (a ++ [x[j]]) (by omega) (by rw [List.length_append, List.length_singleton]; omega) (by omega)]
      simp
theorem counts_l1 (x : List Int) (hx : x.length ≤ 9223372036854775807) : ∀ (m j k : Nat) (a : List Int), j + m = x.length → a.length + m < 17592186044416 → m < k → mark_counts.l1 k a x (x.length : Int) (j : Int) = some (a ++ (x.drop j).filter (· ≠ -1))
  | 0, j, k, a, hj, ha, hk => by
    obtain ⟨k, rfl⟩ : ∃ k', k = k' + 1 := ⟨k - 1, by omega⟩
    rw [List.drop_eq_nil_of_le (by omega), mark_counts.l1, if_neg (by omega)]
    simp
  | m + 1, j, k, a, hj, ha, hk => by
    obtain ⟨k, rfl⟩ : ∃ k', k = k' + 1 := ⟨k - 1, by omega⟩
    have hlt : j < x.length := by omega
    rw [List.drop_eq_getElem_cons hlt, List.filter_cons, mark_counts.l1, if_pos (by omega), if_pos (by omega), if_pos (by omega), rd_in x j hlt, wnat hlt hx]
    by_cases h : x[j] = -1
    · rw [if_pos h, if_neg (by simp [h]), counts_l1 x hx m (j + 1) k a (by omega) (by omega) (by omega)]
    · rw [if_neg h, if_pos (by omega), if_pos (by simp [h]), counts_l1 x hx m (j + 1) k (a ++ [x[j]]) (by omega) (by rw [List.length_append, List.length_singleton]; omega) (by omega)]
      simp
theorem cnt_in (lc : List Cel) (m : List Bool) (i : Nat) (hi : i < lc.length) : cnt lc m i = (if lc[i].f0 = 2 then [] else if lc[i].f0 = 3 then (match lc[i].f1 with | [] => [] | key :: r => if key = -1 ∨ m.getD key.toNat false = false then [] else r.filter (· ≠ -1)) else lc[i].f1.filter (· ≠ -1)) := by
  unfold cnt
  rw [show lc.getD i ⟨0, []⟩ = lc[i] from by simp [hi]]
theorem there_in {lc : List Cel} {p : Int} (h : isThere lc p = true) : 0 ≤ p ∧ p < (lc.length : Int) ∧ (rd_T56 lc p).f0 ≠ 0 := of_decide_eq_true h
theorem view_in {lc : List Cel} {lr : List Int} (h : viewB lc lr = true) : lc.length ≤ 8192 ∧ (∀ c ∈ lc, cellB c = true ∧ ∀ p ∈ c.f1, ptrB lc p = true) ∧ ∀ r ∈ lr, isThere lc r = true := by
  unfold viewB at h
  simp only [Bool.and_eq_true, decide_eq_true_eq, List.all_eq_true] at h
  exact ⟨h.1.1, h.1.2, h.2⟩
theorem counts_f (lc : List Cel) (lr : List Int) (m : List Bool) (i k : Nat) (hi : i < lc.length) (hml : m.length = lc.length) (hv : viewB lc lr = true) (hlen : lc[i].f1.length < 17592186044416) (hk : lc[i].f1.length < k) : mark_counts.f k lc lr m (i : Int) = some (cnt lc m i) := by
  obtain ⟨v1, v2, v3⟩ := view_in hv
  obtain ⟨w1, w2⟩ := v2 _ (List.getElem_mem hi)
  rw [cnt_in lc m i hi, mark_counts.f, if_pos (by omega), if_pos (by omega), rdT_in lc i hi]
  generalize lc[i] = c at *
  by_cases h3 : c.f0 = 3
  · simp only [if_pos h3, if_neg (show ¬ c.f0 = 2 by omega)]
    have hne : 0 < c.f1.length := by unfold cellB at w1; rw [if_neg (by omega), if_pos h3] at w1; exact of_decide_eq_true w1
    rw [if_pos (show (0 : Int) < (c.f1.length : Int) by omega)]
    match hc : c.f1, hne with
    | key :: r, _ =>
      rw [hc] at hlen hk w2
      have hkey := w2 key List.mem_cons_self
      rw [show rd (key :: r) 0 = key from rfl]
      by_cases h1 : key = -1
      · rw [if_pos h1]; simp [h1]
      · have ht : isThere lc key = true := by unfold ptrB at hkey; rw [beq_eq_false_iff_ne.2 h1, Bool.false_or] at hkey; exact hkey
        obtain ⟨t1, t2, _⟩ := there_in ht
        rw [if_neg h1, if_pos t1, if_pos (by omega)]
        have e : rdOf false m key = m.getD key.toNat false := rfl
        rw [e]
        cases hb : m.getD key.toNat false with
        | false =>
          rw [if_neg Bool.false_ne_true]
          show some [] = some (if key = -1 ∨ m.getD key.toNat false = false then [] else r.filter (· ≠ -1))
          rw [hb, if_pos (Or.inr rfl)]
        | true =>
          have h0 := counts_l0 r (by simp at hlen; omega) r.length 0 k [] (by omega) (by simp at hlen ⊢; omega) (by simp at hk; omega)
          rw [show ((0 : Nat) : Int) = 0 from rfl, List.drop_zero, List.nil_append] at h0
          rw [if_pos rfl, if_pos (by simp; omega), List.drop_one, List.tail_cons, h0]
          show some (r.filter (· ≠ -1)) = some (if key = -1 ∨ m.getD key.toNat false = false then [] else r.filter (· ≠ -1))
          rw [hb, if_neg (by simp [h1])]
  · rw [if_neg h3]
    by_cases h2 : c.f0 = 2
    · rw [if_pos h2, if_pos h2]
    · have h0 := counts_l1 c.f1 (by omega) c.f1.length 0 k [] (by omega) (by simp; omega) hk
      rw [show ((0 : Nat) : Int) = 0 from rfl, List.drop_zero, List.nil_append] at h0
      rw [if_neg h2, if_neg h2, if_neg h3, h0]
theorem cnt_there {lc : List Cel} {lr : List Int} (hv : viewB lc lr = true) (m : List Bool) (i : Nat) : ∀ p ∈ cnt lc m i, isThere lc p = true := by
  intro p hp
  obtain ⟨v1, v2, v3⟩ := view_in hv
  by_cases hi : i < lc.length
  · obtain ⟨w1, w2⟩ := v2 _ (List.getElem_mem hi)
    have key : ∀ q ∈ lc[i].f1, q ≠ -1 → isThere lc q = true := fun q hq hne => by
      have := w2 q hq
      unfold ptrB at this
      rw [beq_eq_false_iff_ne.2 hne, Bool.false_or] at this
      exact this
    rw [cnt_in lc m i hi] at hp
    split at hp
    · cases hp
    · split at hp
      · split at hp
        · cases hp
        · rename_i k r hc
          split at hp
          · cases hp
          · have := List.mem_filter.1 hp
            exact key p (by rw [hc]; exact List.mem_cons_of_mem _ this.1) (by simpa using this.2)
      · have := List.mem_filter.1 hp
        exact key p this.1 (by simpa using this.2)
  · unfold cnt at hp
    rw [show lc.getD i ⟨0, []⟩ = (⟨0, []⟩ : Cel) from by simp [hi]] at hp
    simp at hp
end Go.Proofs.Ytnmpmjbkelogaaa.Pure
