/- Each unit of work, from any state, and runs of some: the law's pure part. -/
import Derived.Test.YtnmpmjbkelogaaaPrint
import Derived.Laws.BitsAllLaws
namespace Go.Proofs.Ytnmpmjbkelogaaa.Pure
open Go.RowKit Go.Proofs.Ytnmpmjbkelogaaa.Print Go.Proofs.YtnmpmjbkelogaaaW.PrintWords Go.Proofs.YtnmpmjbkelogaaaW.PrintMore
set_option linter.unusedSimpArgs false
set_option linter.unusedVariables false
theorem up {α : Type} {f : Nat → Option α} (h : ∀ k, LeO (f k) (f (k + 1))) {m n : Nat} (hmn : m ≤ n) {r : α} (hr : f m = some r) : f n = some r := by
 obtain ⟨d, rfl⟩ := Nat.exists_eq_add_of_le hmn
 induction d with
 | zero => exact hr
 | succ d ih => exact h _ _ (ih (by omega))
theorem w64 {n : Int} (h0 : -9223372036854775808 ≤ n) (h1 : n ≤ 9223372036854775807) : wrap64 n = n := by unfold wrap64; omega
theorem wsucc {i : Nat} (h : i < 1000000000) : wrap64 ((i : Int) + 1) = ((i + 1 : Nat) : Int) := by rw [w64 (by omega) (by omega)]; rfl
abbrev Cel := S56
theorem rdT_in (lc : List Cel) (i : Nat) (h : i < lc.length) : rd_T56 lc (i : Int) = lc[i] := by simp [rd_T56, h]
theorem rd_in (l : List Int) (i : Nat) (h : i < l.length) : rd l (i : Int) = l[i] := by simp [rd, h]
theorem rdB_in (l : List Bool) (i : Nat) (h : i < l.length) : rdOf false l (i : Int) = l[i] := by simp [rdOf, h]
theorem wnat {i n : Nat} (h : i < n) (hn : n ≤ 9223372036854775807) : wrap64 ((i : Int) + 1) = ((i + 1 : Nat) : Int) := by rw [w64 (by omega) (by omega)]; rfl
theorem Ev.eq {α : Type} {g : Nat → Option α} {r r' : α} (h : Ev g r) (e : r = r') : Ev g r' := e ▸ h
def cellB (c : Cel) : Bool := if c.f0 = 0 then c.f1.length == 0 else if c.f0 = 3 then decide (0 < c.f1.length) else if c.f0 = 1 then true else c.f0 == 2
theorem cell_f (c : Cel) : mark_cell.f c.f0 c.f1 = some (cellB c) := by
 unfold mark_cell.f cellB
 by_cases h0 : c.f0 = 0
 ·rw [if_pos h0, if_pos h0]; congr 1; rw [Bool.eq_iff_iff]; simp
 ·rw [if_neg h0, if_neg h0]
  by_cases h3 : c.f0 = 3
  ·rw [if_pos h3, if_pos h3]; congr 1; rw [Bool.eq_iff_iff]; simp
  ·rw [if_neg h3, if_neg h3]
   split <;> rfl
def ptrB (lc : List Cel) (p : Int) : Bool := p == -1 || isThere lc p
def viewB (lc : List Cel) (lr : List Int) : Bool := decide (lc.length ≤ 8192) && (lc.all fun c => cellB c && c.f1.all (ptrB lc)) && lr.all (isThere lc)
theorem any_f (lc : List Cel) (lr : List Int) : ∀ l : List Int, any_view.f l lc lr = some (!l.all (isThere lc))
 | [] => rfl
 | x :: l => by
  rw [any_view.f, there_at, Option.bind_some, List.all_cons, any_f lc lr l]
  cases isThere lc x <;> simp
theorem view_end (lc : List Cel) (lr : List Int) (b : Bool) (x4 : Int) : Ev (fun k => mark_CheckView.j1 k b x4 false lc lr) (if b = true ∧ lr.all (isThere lc) = true then 0 else 190) := by
 refine Ev.step (f := fun _ => some (if b = true ∧ lr.all (isThere lc) = true then 0 else 190)) (fun k => ?_) (Ev.now _)
 rw [mark_CheckView.j1, if_neg (by decide), any_f, Option.bind_some]
 cases b <;> cases lr.all (isThere lc) <;> simp
theorem view_l1 (lc : List Cel) (lr : List Int) (b : Bool) (x4 : Int) (l : List Int) (hl : l.length ≤ 9223372036854775807) (r : Int) (hr : Ev (fun k => mark_CheckView.l0 k b (wrap64 (x4 + 1)) lc lr) r) :
  ∀ (m j : Nat), j + m = l.length → Ev (fun k => mark_CheckView.l1 k b x4 l (l.length : Int) (j : Int) lc lr) (if (l.drop j).all (ptrB lc) = true then r else 190)
 | 0, j, hj => by
  rw [List.drop_eq_nil_of_le (by omega), List.all_nil, if_pos rfl]
  refine Ev.step (fun k => ?_) hr
  rw [mark_CheckView.l1, if_neg (by omega)]
 | m + 1, j, hj => by
  have hlt : j < l.length := by omega
  have ih := view_l1 lc lr b x4 l hl r hr m (j + 1) (by omega)
  rw [List.drop_eq_getElem_cons hlt, List.all_cons]
  have e : ∀ k, mark_CheckView.l1 (k + 1) b x4 l (l.length : Int) (j : Int) lc lr = (if ptrB lc l[j] = true then mark_CheckView.l1 k b x4 l (l.length : Int) ((j + 1 : Nat) : Int) lc lr else some 190) := by
   intro k
   rw [mark_CheckView.l1, if_pos (by omega), if_pos (by omega), if_pos (by omega), rd_in l j hlt, wnat hlt hl, there_at, Option.bind_some, ptrB]
   by_cases h : l[j] = -1
   ·rw [if_pos h, if_pos (by rw [h]; rfl)]
   ·rw [if_neg h, beq_eq_false_iff_ne.2 h, Bool.false_or]
  cases hp : ptrB lc l[j] with
  | true =>
   rw [Bool.true_and]
   exact Ev.step (fun k => by rw [e, hp, if_pos rfl]) ih
  | false =>
   rw [Bool.false_and, if_neg Bool.false_ne_true]
   exact Ev.step (fun k => by rw [e, hp, if_neg Bool.false_ne_true]) (Ev.now _)
def VG (lc : List Cel) : Prop := lc.length ≤ 9223372036854775806 ∧ ∀ c ∈ lc, c.f1.length ≤ 9223372036854775807
theorem view_l0 (lc : List Cel) (lr : List Int) (hG : VG lc) : ∀ (m j : Nat) (b : Bool), j + m = lc.length →
  Ev (fun k => mark_CheckView.l0 k b (j : Int) lc lr) (if b = true ∧ ((lc.drop j).all fun c => cellB c && c.f1.all (ptrB lc)) = true ∧ lr.all (isThere lc) = true then 0 else 190)
 | m, j, false, hj => by
  rw [if_neg (by simp)]
  refine Ev.step (fun k => ?_) (view_end lc lr false (j : Int))
  rw [mark_CheckView.l0, if_neg (by decide)]
 | 0, j, true, hj => by
  rw [List.drop_eq_nil_of_le (by omega)]
  have := view_end lc lr true (j : Int)
  simp only [true_and] at this
  rw [show (if true = true ∧ (([] : List Cel).all fun c => cellB c && c.f1.all (ptrB lc)) = true ∧ lr.all (isThere lc) = true then (0 : Int) else 190) = (if lr.all (isThere lc) = true then 0 else 190) from by simp]
  refine Ev.step (fun k => ?_) this
  rw [mark_CheckView.l0, if_pos rfl, decide_eq_false (by omega)]
 | m + 1, j, true, hj => by
  have hlt : j < lc.length := by omega
  have hc := hG.2 _ (List.getElem_mem hlt)
  have ih := view_l0 lc lr hG m (j + 1) (cellB lc[j]) (by omega)
  rw [← wnat hlt (by have := hG.1; omega)] at ih
  have h1 := view_l1 lc lr (cellB lc[j]) (j : Int) lc[j].f1 hc _ ih lc[j].f1.length 0 (by omega)
  rw [List.drop_zero] at h1
  have h2 : Ev (fun k => mark_CheckView.l0 k true (j : Int) lc lr) (if lc[j].f1.all (ptrB lc) = true then (if cellB lc[j] = true ∧ ((lc.drop (j + 1)).all fun c => cellB c && c.f1.all (ptrB lc)) = true ∧ lr.all (isThere lc) = true then 0 else 190) else 190) := by
   refine Ev.step (f := fun k => mark_CheckView.j1 k true (j : Int) true lc lr) (fun k => ?_) (Ev.step (fun k => ?_) h1)
   ·rw [mark_CheckView.l0, if_pos rfl, decide_eq_true (by omega)]
   ·rw [mark_CheckView.j1, if_pos rfl, if_pos (by omega), if_pos (by omega), rdT_in lc j hlt, cell_f, Option.bind_some]
    rfl
  rw [List.drop_eq_getElem_cons hlt, List.all_cons]
  refine Ev.eq h2 ?_
  cases lc[j].f1.all (ptrB lc) <;> cases cellB lc[j] <;> simp
theorem view_f (lc : List Cel) (lr : List Int) (hG : VG lc) : Ev (fun k => mark_CheckView.f k lc lr) (if viewB lc lr = true then 0 else 190) := by
 have := view_l0 lc lr hG lc.length 0 (decide ((lc.length : Int) ≤ 8192)) (by omega)
 unfold mark_CheckView.f
 refine Ev.eq this ?_
 unfold viewB
 rw [List.drop_zero]
 simp only [Bool.and_eq_true, decide_eq_true_eq]
 have : ((lc.length : Int) ≤ 8192) ↔ lc.length ≤ 8192 := by omega
 simp only [this, and_assoc]
def cnt (lc : List Cel) (m : List Bool) (i : Nat) : List Int :=
 let c := lc.getD i ⟨0, []⟩
 if c.f0 = 2 then [] else if c.f0 = 3 then (match c.f1 with | [] => [] | key :: r => if key = -1 ∨ m.getD key.toNat false = false then [] else r.filter (· ≠ -1)) else c.f1.filter (· ≠ -1)
theorem counts_l0 (x : List Int) (hx : x.length ≤ 9223372036854775807) : ∀ (m j k : Nat) (a : List Int), j + m = x.length → a.length + m < 17592186044416 → m < k → mark_counts.l0 k a x (x.length : Int) (j : Int) = some (a ++ (x.drop j).filter (· ≠ -1))
 | 0, j, k, a, hj, ha, hk => by
  obtain ⟨k, rfl⟩ : ∃ k', k = k' + 1 := ⟨k - 1, by omega⟩
  rw [List.drop_eq_nil_of_le (by omega), mark_counts.l0, if_neg (by omega)]
  simp
 | m + 1, j, k, a, hj, ha, hk => by
  obtain ⟨k, rfl⟩ : ∃ k', k = k' + 1 := ⟨k - 1, by omega⟩
  have hlt : j < x.length := by omega
  rw [List.drop_eq_getElem_cons hlt, List.filter_cons, mark_counts.l0, if_pos (by omega), if_pos (by omega), if_pos (by omega), rd_in x j hlt, wnat hlt hx]
  by_cases h : x[j] = -1
  ·rw [if_pos h, if_neg (by simp [h]), counts_l0 x hx m (j + 1) k a (by omega) (by omega) (by omega)]
  ·rw [if_neg h, if_pos (by omega), if_pos (by simp [h]), counts_l0 x hx m (j + 1) k (a ++ [x[j]]) (by omega) (by rw [List.length_append, List.length_singleton]; omega) (by omega)]
   simp
theorem counts_l1 (x : List Int) (hx : x.length ≤ 9223372036854775807) : ∀ (m j k : Nat) (a : List Int), j + m = x.length → a.length + m < 17592186044416 → m < k → mark_counts.l1 k a x (x.length : Int) (j : Int) = some (a ++ (x.drop j).filter (· ≠ -1))
 | 0, j, k, a, hj, ha, hk => by
  obtain ⟨k, rfl⟩ : ∃ k', k = k' + 1 := ⟨k - 1, by omega⟩
  rw [List.drop_eq_nil_of_le (by omega), mark_counts.l1, if_neg (by omega)]
  simp
 | m + 1, j, k, a, hj, ha, hk => by
  obtain ⟨k, rfl⟩ : ∃ k', k = k' + 1 := ⟨k - 1, by omega⟩
  have hlt : j < x.length := by omega
  rw [List.drop_eq_getElem_cons hlt, List.filter_cons, mark_counts.l1, if_pos (by omega), if_pos (by omega), if_pos (by omega), rd_in x j hlt, wnat hlt hx]
  by_cases h : x[j] = -1
  ·rw [if_pos h, if_neg (by simp [h]), counts_l1 x hx m (j + 1) k a (by omega) (by omega) (by omega)]
  ·rw [if_neg h, if_pos (by omega), if_pos (by simp [h]), counts_l1 x hx m (j + 1) k (a ++ [x[j]]) (by omega) (by rw [List.length_append, List.length_singleton]; omega) (by omega)]
   simp
theorem cnt_in (lc : List Cel) (m : List Bool) (i : Nat) (hi : i < lc.length) : cnt lc m i = (if lc[i].f0 = 2 then [] else if lc[i].f0 = 3 then (match lc[i].f1 with | [] => [] | key :: r => if key = -1 ∨ m.getD key.toNat false = false then [] else r.filter (· ≠ -1)) else lc[i].f1.filter (· ≠ -1)) := by
 unfold cnt
 rw [show lc.getD i ⟨0, []⟩ = lc[i] from by simp [hi]]
theorem there_in {lc : List Cel} {p : Int} (h : isThere lc p = true) : 0 ≤ p ∧ p < (lc.length : Int) ∧ (rd_T56 lc p).f0 ≠ 0 := of_decide_eq_true h
theorem view_in {lc : List Cel} {lr : List Int} (h : viewB lc lr = true) : lc.length ≤ 8192 ∧ (∀ c ∈ lc, cellB c = true ∧ ∀ p ∈ c.f1, ptrB lc p = true) ∧ ∀ r ∈ lr, isThere lc r = true := by
 unfold viewB at h
 simp only [Bool.and_eq_true, decide_eq_true_eq, List.all_eq_true] at h
 exact ⟨h.1.1, h.1.2, h.2⟩
theorem counts_f (lc : List Cel) (lr : List Int) (m : List Bool) (i k : Nat) (hi : i < lc.length) (hml : m.length = lc.length) (hv : viewB lc lr = true) (hlen : lc[i].f1.length < 17592186044416) (hk : lc[i].f1.length < k) : mark_counts.f k lc lr m (i : Int) = some (cnt lc m i) := by
 obtain ⟨v1, v2, v3⟩ := view_in hv
 obtain ⟨w1, w2⟩ := v2 _ (List.getElem_mem hi)
 rw [cnt_in lc m i hi, mark_counts.f, if_pos (by omega), if_pos (by omega), rdT_in lc i hi]
 generalize lc[i] = c at *
 by_cases h3 : c.f0 = 3
 ·simp only [if_pos h3, if_neg (show ¬ c.f0 = 2 by omega)]
  have hne : 0 < c.f1.length := by unfold cellB at w1; rw [if_neg (by omega), if_pos h3] at w1; exact of_decide_eq_true w1
  rw [if_pos (show (0 : Int) < (c.f1.length : Int) by omega)]
  match hc : c.f1, hne with
  | key :: r, _ =>
   rw [hc] at hlen hk w2
   have hkey := w2 key List.mem_cons_self
   rw [show rd (key :: r) 0 = key from rfl]
   by_cases h1 : key = -1
   ·rw [if_pos h1]; simp [h1]
   ·have ht : isThere lc key = true := by unfold ptrB at hkey; rw [beq_eq_false_iff_ne.2 h1, Bool.false_or] at hkey; exact hkey
    obtain ⟨t1, t2, _⟩ := there_in ht
    rw [if_neg h1, if_pos t1, if_pos (by omega)]
    have e : rdOf false m key = m.getD key.toNat false := rfl
    rw [e]
    cases hb : m.getD key.toNat false with
    | false =>
     rw [if_neg Bool.false_ne_true]
     show some [] = some (if key = -1 ∨ m.getD key.toNat false = false then [] else r.filter (· ≠ -1))
     rw [hb, if_pos (Or.inr rfl)]
    | true =>
     have h0 := counts_l0 r (by simp at hlen; omega) r.length 0 k [] (by omega) (by simp at hlen ⊢; omega) (by simp at hk; omega)
     rw [show ((0 : Nat) : Int) = 0 from rfl, List.drop_zero, List.nil_append] at h0
     rw [if_pos rfl, if_pos (by simp; omega), List.drop_one, List.tail_cons, h0]
     show some (r.filter (· ≠ -1)) = some (if key = -1 ∨ m.getD key.toNat false = false then [] else r.filter (· ≠ -1))
     rw [hb, if_neg (by simp [h1])]
 ·rw [if_neg h3]
  by_cases h2 : c.f0 = 2
  ·rw [if_pos h2, if_pos h2]
  ·have h0 := counts_l1 c.f1 (by omega) c.f1.length 0 k [] (by omega) (by simp; omega) hk
   rw [show ((0 : Nat) : Int) = 0 from rfl, List.drop_zero, List.nil_append] at h0
   rw [if_neg h2, if_neg h2, if_neg h3, h0]
theorem cnt_there {lc : List Cel} {lr : List Int} (hv : viewB lc lr = true) (m : List Bool) (i : Nat) : ∀ p ∈ cnt lc m i, isThere lc p = true := by
 intro p hp
 obtain ⟨v1, v2, v3⟩ := view_in hv
 by_cases hi : i < lc.length
 ·obtain ⟨w1, w2⟩ := v2 _ (List.getElem_mem hi)
  have key : ∀ q ∈ lc[i].f1, q ≠ -1 → isThere lc q = true := fun q hq hne => by
   have := w2 q hq
   unfold ptrB at this
   rw [beq_eq_false_iff_ne.2 hne, Bool.false_or] at this
   exact this
  rw [cnt_in lc m i hi] at hp
  split at hp
  ·cases hp
  ·split at hp
   ·split at hp
    ·cases hp
    ·rename_i k r hc
     split at hp
     ·cases hp
     ·have := List.mem_filter.1 hp
      exact key p (by rw [hc]; exact List.mem_cons_of_mem _ this.1) (by simpa using this.2)
   ·have := List.mem_filter.1 hp
    exact key p this.1 (by simpa using this.2)
 ·unfold cnt at hp
  rw [show lc.getD i ⟨0, []⟩ = (⟨0, []⟩ : Cel) from by simp [hi]] at hp
  simp at hp
structure Bs (lc : List Cel) (room : Int) (x : MS) : Prop where
 ml : x.marks.length = lc.length
 sl : (x.stack.length : Int) ≤ room
 kd : ∀ i : Nat, x.marks.getD i false = true → (lc.getD i ⟨0, []⟩).f0 ≠ 0
 stk : ∀ i ∈ x.stack, isThere lc i = true ∧ rdOf false x.marks i = true
 nd : x.stack.Nodup
structure Like (x y : MS) : Prop where
 ph : y.ph = x.ph
 at_ : y.at_ = x.at_
 again : y.again = x.again
 scan : y.scan = x.scan
 up : ∀ i : Nat, x.marks.getD i false = true → y.marks.getD i false = true
theorem Like.refl (x : MS) : Like x x := ⟨rfl, rfl, rfl, rfl, fun _ h => h⟩
theorem Like.trans {x y z : MS} (h : Like x y) (k : Like y z) : Like x z := ⟨k.ph.trans h.ph, k.at_.trans h.at_, k.again.trans h.again, k.scan.trans h.scan, fun i hi => k.up i (h.up i hi)⟩
theorem set_getD (m : List Bool) (i j : Nat) (hi : i < m.length) : (m.set i true).getD j false = true ↔ (j = i ∨ m.getD j false = true) := by
 rw [List.getD_eq_getElem?_getD, List.getElem?_set, List.getD_eq_getElem?_getD]
 by_cases h : i = j
 ·subst h; simp [hi]
 ·rw [if_neg h]; simp [Ne.symm h]
theorem there_kind {lc : List Cel} {p : Int} (h : isThere lc p = true) : (lc.getD p.toNat ⟨0, []⟩).f0 ≠ 0 := (there_in h).2.2
theorem touch_ok {lc : List Cel} {room : Int} {x : MS} (hB : Bs lc room x) (hr : room ≤ 256) {i : Int} (hi : isThere lc i = true) : ∃ y r, MS.touch room x i = some (y, r) ∧ Bs lc room y ∧ Like x y ∧ y.marks.getD i.toNat false = true := by
 obtain ⟨i0, i1, i2⟩ := there_in hi
 have hlt : i.toNat < x.marks.length := by rw [hB.ml]; omega
 have hsl := hB.sl
 unfold MS.touch
 rw [if_pos ⟨i0, by rw [hB.ml]; exact i1, by omega⟩]
 have hup : ∀ j : Nat, x.marks.getD j false = true → (x.marks.set i.toNat true).getD j false = true := fun j hj => (set_getD _ _ _ hlt).2 (.inr hj)
 have hmk : ∀ j : Nat, (x.marks.set i.toNat true).getD j false = true → (lc.getD j ⟨0, []⟩).f0 ≠ 0 := fun j hj => by
  rcases (set_getD _ _ _ hlt).1 hj with rfl | h
  ·exact there_kind hi
  ·exact hB.kd j h
 have hst : ∀ j ∈ x.stack, isThere lc j = true ∧ rdOf false (x.marks.set i.toNat true) j = true := fun j hj => ⟨(hB.stk j hj).1, hup _ (hB.stk j hj).2⟩
 have hself : (x.marks.set i.toNat true).getD i.toNat false = true := (set_getD _ _ _ hlt).2 (.inl rfl)
 by_cases hm : rdOf false x.marks i = true
 ·rw [if_pos hm]
  exact ⟨x, false, rfl, hB, Like.refl x, hm⟩
 ·rw [if_neg hm]
  by_cases hs : (x.stack.length : Int) < room
  ·rw [if_pos hs]
   refine ⟨_, true, rfl, ⟨by simpa using hB.ml, by rw [List.length_append, List.length_singleton]; omega, hmk, fun j hj => ?_, ?_⟩, ⟨rfl, rfl, rfl, rfl, hup⟩, hself⟩
   ·rcases List.mem_append.1 hj with h | h
    ·exact hst j h
    ·rw [List.mem_singleton.1 h]; exact ⟨hi, hself⟩
   ·rw [List.nodup_append]
    refine ⟨hB.nd, by simp, fun a ha b hb e => ?_⟩
    rw [List.mem_singleton.1 hb] at e
    rw [e] at ha
    exact hm (hB.stk i ha).2
  ·rw [if_neg hs]
   exact ⟨_, true, rfl, ⟨by simpa using hB.ml, hB.sl, hmk, hst, hB.nd⟩, ⟨rfl, rfl, rfl, rfl, hup⟩, hself⟩
theorem touches_ok {lc : List Cel} {room : Int} (hr : room ≤ 256) : ∀ (l : List Int) (x : MS) (b : Bool), Bs lc room x → (∀ p ∈ l, isThere lc p = true) → ∃ y r, MS.touches room l x b = some (y, r) ∧ Bs lc room y ∧ Like x y ∧ (∀ p ∈ l, y.marks.getD p.toNat false = true)
 | [], x, b, hB, hl => ⟨x, b, rfl, hB, Like.refl x, fun p hp => by cases hp⟩
 | p :: l, x, b, hB, hl => by
  obtain ⟨y, r, h1, h2, h3, h4⟩ := touch_ok hB hr (hl p List.mem_cons_self)
  obtain ⟨z, r2, g1, g2, g3, g4⟩ := touches_ok hr l y (b || r) h2 (fun q hq => hl q (List.mem_cons_of_mem _ hq))
  refine ⟨z, r2, ?_, g2, h3.trans g3, fun q hq => ?_⟩
  ·rw [MS.touches, h1, Option.bind_some]; exact g1
  ·rcases List.mem_cons.1 hq with rfl | hq
   ·exact g3.up _ h4
   ·exact g4 q hq
theorem touch_same {room : Int} {x y : MS} {i : Int} (h : MS.touch room x i = some (y, false)) : y = x := by
 unfold MS.touch at h
 split at h
 ·split at h
  ·cases h; rfl
  ·split at h <;> cases h
 ·cases h
theorem touches_same {room : Int} : ∀ {l : List Int} {x y : MS} {b : Bool}, MS.touches room l x b = some (y, false) → y = x ∧ b = false
 | [], x, y, b, h => by cases h; exact ⟨rfl, rfl⟩
 | p :: l, x, y, b, h => by
  obtain ⟨⟨z, r⟩, h1, h2⟩ := Option.bind_eq_some_iff.1 h
  obtain ⟨e1, e2⟩ := touches_same h2
  simp only [Bool.or_eq_false_iff] at e2
  rw [e2.2] at h1
  exact ⟨e1.trans (touch_same h1), e2.1⟩
def Kc (lc : List Cel) (k : Nat) : Prop := ∀ c ∈ lc, c.f1.length < k ∧ c.f1.length < 17592186044416
theorem from_ok {lc : List Cel} {lr : List Int} {room : Int} {k : Nat} (hv : viewB lc lr = true) (hk : Kc lc k) (hr : room ≤ 256) {x : MS} (hB : Bs lc room x) (i : Nat) (hi : i < lc.length) :
  ∃ y r, MS.from_ (fun m j => mark_counts.f k lc lr m j) room x (i : Int) = some (y, r) ∧ MS.touches room (cnt lc x.marks i) x false = some (y, r) ∧ Bs lc room y ∧ Like x y ∧ ∀ p ∈ cnt lc x.marks i, y.marks.getD p.toNat false = true := by
 obtain ⟨k1, k2⟩ := hk _ (List.getElem_mem hi)
 obtain ⟨y, r, h1, h2, h3, h4⟩ := touches_ok hr (cnt lc x.marks i) x false hB (cnt_there hv x.marks i)
 refine ⟨y, r, ?_, h1, h2, h3, h4⟩
 unfold MS.from_
 show (mark_counts.f k lc lr x.marks (i : Int)).bind _ = _
 rw [counts_f lc lr x.marks i k hi hB.ml hv k2 k1, Option.bind_some]
 exact h1
structure Ok (lc : List Cel) (lr : List Int) (room : Int) (x : MS) : Prop where
 bs : Bs lc room x
 r0 : 1 ≤ room
 r1 : room ≤ 256
 a0 : 0 ≤ x.at_
 a1 : x.at_ ≤ furth lc lr x.ph x.scan
 idle : x.ph = 2 ∨ x.ph = 3 → x.stack = []
 sc : x.scan = true → x.ph = 1
theorem Bs.take {lc : List Cel} {room : Int} {x : MS} (h : Bs lc room x) (n : Nat) : Bs lc room { x with stack := x.stack.take n } :=
 ⟨h.ml, by have := h.sl; have : (x.stack.take n).length ≤ x.stack.length := List.length_take_le' n x.stack; show ((x.stack.take n).length : Int) ≤ room; omega, h.kd, fun i hi => h.stk i (List.mem_of_mem_take hi), h.nd.sublist (List.take_sublist _ _)⟩
theorem unit_ok {lc : List Cel} {lr : List Int} {room : Int} {k : Nat} (hv : viewB lc lr = true) (hk : Kc lc k) {x : MS} (hO : Ok lc lr room x) :
  ∃ y, MS.unit (fun m j => mark_counts.f k lc lr m j) (fun m => pairedL lc m) lc.length lr room x = some y ∧ Ok lc lr room y := by
 obtain ⟨hB, r0, r1, a0, a1, idle, sc⟩ := hO
 obtain ⟨v1, v2, v3⟩ := view_in hv
 unfold MS.unit
 by_cases h0 : x.ph = 0
 ·rw [if_pos h0]
  have hsc : x.scan = false := by cases h : x.scan with | false => rfl | true => have := sc h; omega
  have a1' : x.at_ ≤ (lr.length : Int) := by unfold furth at a1; rw [if_pos h0] at a1; exact a1
  unfold MS.roots
  by_cases h1 : x.at_ = (lr.length : Int)
  ·rw [if_pos h1]
   refine ⟨_, rfl, ⟨hB.ml, hB.sl, hB.kd, hB.stk, hB.nd⟩, r0, r1, by simp, ?_, by simp, by simp⟩
   show (0 : Int) ≤ furth lc lr 1 x.scan
   rw [hsc]; simp [furth]
  ·rw [if_neg h1, if_pos ⟨a0, by omega⟩]
   have hlt : x.at_.toNat < lr.length := by omega
   have ht : isThere lc (rd lr x.at_) = true := v3 _ (by
    rw [show rd lr x.at_ = lr[x.at_.toNat] from by simp [rd, hlt]]; exact List.getElem_mem hlt)
   obtain ⟨y, r, g1, g2, g3, g4⟩ := touch_ok hB r1 ht
   rw [g1, Option.bind_some]
   refine ⟨_, rfl, ⟨g2.ml, g2.sl, g2.kd, g2.stk, g2.nd⟩, r0, r1, ?_, ?_, ?_, ?_⟩
   ·show 0 ≤ y.at_ + 1; rw [g3.at_]; omega
   ·show y.at_ + 1 ≤ furth lc lr y.ph y.scan; rw [g3.at_, g3.ph, furth, if_pos h0]; omega
   ·show y.ph = 2 ∨ y.ph = 3 → _; rw [g3.ph, h0]; intro h; omega
   ·show y.scan = true → y.ph = 1; rw [g3.scan, hsc]; intro h; cases h
 ·rw [if_neg h0]
  by_cases h1 : x.ph = 1
  ·rw [if_pos h1]
   unfold MS.drain
   by_cases hs : 0 < x.stack.length
   ·rw [if_pos hs]
    have hlt : x.stack.length - 1 < x.stack.length := by omega
    have hmem : rd x.stack ((x.stack.length : Int) - 1) ∈ x.stack := by
     rw [show ((x.stack.length : Int) - 1) = ((x.stack.length - 1 : Nat) : Int) from by omega, rd_in _ _ hlt]; exact List.getElem_mem hlt
    obtain ⟨t1, t2, _⟩ := there_in (hB.stk _ hmem).1
    obtain ⟨i, hi⟩ : ∃ i : Nat, rd x.stack ((x.stack.length : Int) - 1) = (i : Int) := ⟨(rd x.stack ((x.stack.length : Int) - 1)).toNat, by omega⟩
    obtain ⟨y, r, g1, _, g2, g3, g4⟩ := from_ok hv hk r1 (hB.take (x.stack.length - 1)) i (by omega)
    rw [hi, g1, Option.bind_some]
    refine ⟨y, rfl, g2, r0, r1, ?_, ?_, ?_, ?_⟩
    ·rw [g3.at_]; exact a0
    ·rw [g3.at_, g3.ph, g3.scan]; exact a1
    ·rw [g3.ph]; intro h; have : x.ph = 2 ∨ x.ph = 3 := h; omega
    ·rw [g3.scan, g3.ph]; exact sc
   ·rw [if_neg hs]
    have hnil : x.stack = [] := List.eq_nil_of_length_eq_zero (by omega)
    by_cases hc : x.scan = true
    ·rw [if_pos hc]
     refine ⟨_, rfl, ⟨hB.ml, hB.sl, hB.kd, hB.stk, hB.nd⟩, r0, r1, a0, ?_, fun _ => hnil, by simp⟩
     show x.at_ ≤ furth lc lr 2 false
     rw [furth, if_neg h0, if_pos h1, if_pos hc] at a1
     simpa [furth] using a1
    ·rw [if_neg hc]
     have done2 : ∀ (o a : Bool), Ok lc lr room { x with ph := 2, at_ := 0, over := o, again := a } := fun o a => ⟨⟨hB.ml, hB.sl, hB.kd, hB.stk, hB.nd⟩, r0, r1, Int.le_refl _, by show (0 : Int) ≤ furth lc lr 2 x.scan; simp [furth], fun _ => hnil, fun h => absurd h hc⟩
     by_cases ho : x.over = true
     ·rw [if_pos ho]; exact ⟨_, rfl, done2 _ _⟩
     ·rw [if_neg ho]
      have hp : pairedL lc x.marks = some (pairedL.go lc x.marks 0) := by rw [pairedL, if_pos (by rw [hB.ml]; exact Nat.le_refl _)]
      simp only [hp, Option.bind_some]
      split
      ·exact ⟨_, rfl, done2 _ _⟩
      ·refine ⟨_, rfl, ⟨hB.ml, hB.sl, hB.kd, hB.stk, hB.nd⟩, r0, r1, a0, ?_, fun _ => hnil, fun h => absurd h hc⟩
       show x.at_ ≤ furth lc lr 3 x.scan
       rw [furth, if_neg h0, if_pos h1, if_neg hc] at a1
       simpa [furth] using a1
  ·rw [if_neg h1]
   by_cases h2 : x.ph = 2
   ·rw [if_pos h2]
    have hsc : x.scan = false := by cases h : x.scan with | false => rfl | true => have := sc h; omega
    have hnil := idle (.inl h2)
    rw [furth, if_neg h0, if_neg h1, if_pos h2] at a1
    unfold MS.scan_
    by_cases hn : x.at_ < (lc.length : Int)
    ·rw [if_pos hn, if_pos ⟨a0, by rw [hB.ml]; exact hn⟩]
     obtain ⟨i, hi⟩ : ∃ i : Nat, x.at_ = (i : Int) := ⟨x.at_.toNat, by omega⟩
     split
     ·obtain ⟨y, r, g1, g0, g2, g3, g4⟩ := from_ok (x := { x with at_ := x.at_ + 1 }) hv hk r1 ⟨hB.ml, hB.sl, hB.kd, hB.stk, hB.nd⟩ i (by omega)
      rw [hi] at g1 ⊢
      rw [g1, Option.bind_some]
      have e1 : y.at_ = (i : Int) + 1 := by rw [g3.at_]; show x.at_ + 1 = _; rw [hi]
      split
      ·refine ⟨_, rfl, ⟨g2.ml, g2.sl, g2.kd, g2.stk, g2.nd⟩, r0, r1, ?_, ?_, by simp, by simp⟩
       ·show 0 ≤ y.at_; omega
       ·show y.at_ ≤ furth lc lr 1 true; rw [e1]; simp [furth]; omega
      ·rename_i hr
       have hr' : r = false := by cases r with | false => rfl | true => exact absurd rfl hr
       rw [hr'] at g0
       have e := (touches_same g0).1
       refine ⟨_, rfl, g2, r0, r1, ?_, ?_, ?_, ?_⟩
       ·show 0 ≤ y.at_; omega
       ·show y.at_ ≤ furth lc lr y.ph y.scan; rw [e1, e]; show (i : Int) + 1 ≤ furth lc lr x.ph x.scan; rw [furth, if_neg h0, if_neg h1, if_pos h2]; omega
       ·rw [e]; exact fun _ => hnil
       ·rw [e]; exact sc
     ·refine ⟨_, rfl, ⟨hB.ml, hB.sl, hB.kd, hB.stk, hB.nd⟩, r0, r1, ?_, ?_, fun _ => hnil, sc⟩
      ·show 0 ≤ x.at_ + 1; omega
      ·show x.at_ + 1 ≤ furth lc lr x.ph x.scan; rw [furth, if_neg h0, if_neg h1, if_pos h2]; omega
    ·rw [if_neg hn]
     split
     ·exact ⟨_, rfl, ⟨hB.ml, hB.sl, hB.kd, hB.stk, hB.nd⟩, r0, r1, Int.le_refl _, by show (0 : Int) ≤ furth lc lr 3 x.scan; simp [furth], fun _ => hnil, fun h => by rw [hsc] at h; cases h⟩
     ·exact ⟨_, rfl, ⟨hB.ml, hB.sl, hB.kd, hB.stk, hB.nd⟩, r0, r1, Int.le_refl _, by show (0 : Int) ≤ furth lc lr x.ph x.scan; rw [furth, if_neg h0, if_neg h1, if_pos h2]; omega, fun _ => hnil, fun h => by rw [hsc] at h; cases h⟩
   ·rw [if_neg h2]
    exact ⟨x, rfl, hB, r0, r1, a0, a1, idle, sc⟩
theorem chkMarks_false (lc : List Cel) : ∀ (m : List Bool) (j : Nat), chkMarks lc m j = false ↔ ∀ i, m.getD i false = true → (lc.getD (j + i) ⟨0, []⟩).f0 ≠ 0
 | [], j => ⟨fun _ i h => by simp at h, fun _ => rfl⟩
 | b :: m, j => by
  rw [chkMarks, Bool.or_eq_false_iff, chkMarks_false lc m (j + 1)]
  have e : (rd_T56 lc (j : Int)).f0 = (lc.getD j ⟨0, []⟩).f0 := rfl
  rw [e]
  constructor
  ·rintro ⟨h1, h2⟩ i hi
   cases i with
   | zero =>
    rw [List.getD_cons_zero] at hi
    rw [hi, Bool.true_and] at h1
    exact of_decide_eq_false h1
   | succ i =>
    rw [List.getD_cons_succ] at hi
    have := h2 i hi
    rwa [show j + 1 + i = j + (i + 1) from by omega] at this
  ·intro h
   refine ⟨?_, fun i hi => ?_⟩
   ·cases b with
    | false => rfl
    | true => rw [Bool.true_and]; exact decide_eq_false (h 0 rfl)
   ·have := h (i + 1) (by rw [List.getD_cons_succ]; exact hi)
    rwa [show j + (i + 1) = j + 1 + i from by omega] at this
theorem chkStack_false (lc : List Cel) (m : List Bool) (st : List Int) : ∀ (l : List Int) (j : Nat), chkStack lc m st l j = false ↔ ∀ i (h : i < l.length), isThere lc l[i] = true ∧ rdOf false m l[i] = true ∧ l[i] ∉ st.take (j + i)
 | [], j => ⟨fun _ i h => absurd h (Nat.not_lt_zero _), fun _ => rfl⟩
 | p :: l, j => by
  rw [chkStack, Bool.or_eq_false_iff, chkStack_false lc m st l (j + 1)]
  have e : (!isThere lc p || !rdOf false m p || (st.take j).contains p) = false ↔ isThere lc p = true ∧ rdOf false m p = true ∧ p ∉ st.take j := by
   cases isThere lc p <;> cases rdOf false m p <;> simp
  rw [e]
  constructor
  ·rintro ⟨h1, h2⟩ i hi
   cases i with
   | zero => exact h1
   | succ i =>
    have := h2 i (by simpa using hi)
    rwa [show j + 1 + i = j + (i + 1) from by omega] at this
  ·intro h
   refine ⟨h 0 (by simp), fun i hi => ?_⟩
   have := h (i + 1) (by simpa using hi)
   rwa [show j + (i + 1) = j + 1 + i from by omega] at this
theorem nodup_take (st : List Int) : (∀ i (h : i < st.length), st[i] ∉ st.take i) ↔ st.Nodup := by
 unfold List.Nodup
 rw [List.pairwise_iff_getElem]
 constructor
 ·intro h i j hi hj hij e
  exact h j hj (List.mem_take_iff_getElem.2 ⟨i, by omega, e⟩)
 ·intro h i hi hm
  obtain ⟨j, hj, e⟩ := List.mem_take_iff_getElem.1 hm
  exact h j i (by omega) hi (by omega) e
theorem chkBad_false {lc : List Cel} {lr : List Int} {room ph at_ : Int} {m : List Bool} {st : List Int} {sc : Bool} : chkBad lc lr room ph at_ m st sc = false ↔
  0 ≤ at_ ∧ at_ ≤ furth lc lr ph sc ∧ m.length = lc.length ∧ (st.length : Int) ≤ room ∧ ((ph = 2 ∨ ph = 3) → st = []) ∧ (sc = true → ph = 1) := by
 unfold chkBad
 simp only [Bool.or_eq_false_iff, decide_eq_false_iff_not, Decidable.not_not]
 constructor
 ·rintro ⟨⟨⟨⟨⟨h1, h2⟩, h3⟩, h4⟩, h5⟩, h6⟩
  refine ⟨by omega, by omega, h3, by omega, fun h => ?_, fun h => ?_⟩
  ·rw [decide_eq_true h, Bool.true_and] at h5
   have := of_decide_eq_false h5
   exact List.eq_nil_of_length_eq_zero (by omega)
  ·rw [h, Bool.true_and] at h6
   have := of_decide_eq_false h6
   omega
 ·rintro ⟨h1, h2, h3, h4, h5, h6⟩
  refine ⟨⟨⟨⟨⟨by omega, by omega⟩, h3⟩, by omega⟩, ?_⟩, ?_⟩
  ·by_cases h : ph = 2 ∨ ph = 3
   ·rw [h5 h]; simp
   ·rw [decide_eq_false h]; rfl
  ·cases sc with
   | false => rfl
   | true => rw [h6 rfl]; rfl
theorem rest_ok {lc : List Cel} {lr : List Int} {room ph at_ : Int} {m : List Bool} {st : List Int} {ov ag sc : Bool} (r0 : 1 ≤ room) (r1 : room ≤ 256) : chkRest lc lr room ph at_ m st sc = 0 ↔ Ok lc lr room ⟨ph, at_, m, st, ov, ag, sc⟩ := by
 unfold chkRest
 constructor
 ·intro h
  have h1 : chkBad lc lr room ph at_ m st sc = false := by cases hb : chkBad lc lr room ph at_ m st sc with | false => rfl | true => rw [hb, if_pos rfl] at h; cases h
  rw [h1, if_neg Bool.false_ne_true] at h
  have h2 : chkMarks lc m 0 = false := by cases hb : chkMarks lc m 0 with | false => rfl | true => rw [hb, if_pos rfl] at h; cases h
  rw [h2, if_neg Bool.false_ne_true] at h
  have h3 : chkStack lc m st st 0 = false := by cases hb : chkStack lc m st st 0 with | false => rfl | true => rw [hb, if_pos rfl] at h; cases h
  obtain ⟨b1, b2, b3, b4, b5, b6⟩ := chkBad_false.1 h1
  have s := (chkStack_false lc m st st 0).1 h3
  refine ⟨⟨b3, b4, fun i hi => ?_, fun p hp => ?_, ?_⟩, r0, r1, b1, b2, b5, b6⟩
  ·have := (chkMarks_false lc m 0).1 h2 i hi
   rwa [Nat.zero_add] at this
  ·obtain ⟨i, hi, rfl⟩ := List.getElem_of_mem hp
   exact ⟨(s i hi).1, (s i hi).2.1⟩
  ·refine (nodup_take st).1 fun i hi => ?_
   have := (s i hi).2.2
   rwa [Nat.zero_add] at this
 ·rintro ⟨hB, _, _, b1, b2, b5, b6⟩
  rw [chkBad_false.2 ⟨b1, b2, hB.ml, hB.sl, b5, b6⟩, if_neg Bool.false_ne_true]
  rw [(chkMarks_false lc m 0).2 (fun i hi => by rw [Nat.zero_add]; exact hB.kd i hi), if_neg Bool.false_ne_true]
  rw [(chkStack_false lc m st st 0).2 (fun i hi => ⟨(hB.stk _ (List.getElem_mem hi)).1, (hB.stk _ (List.getElem_mem hi)).2, by rw [Nat.zero_add]; exact (nodup_take st).2 hB.nd i hi⟩), if_neg Bool.false_ne_true]
def Kv (lc : List Cel) (lr : List Int) (k : Nat) : Prop := mark_CheckView.f k lc lr = some (if viewB lc lr = true then 0 else 190)
theorem check_f {lc : List Cel} {lr : List Int} {k : Nat} (hk : Kv lc lr k) (hl : lc.length ≤ 281474976710656) (room : Int) (x : MS) :
  ∃ e, mark_Check.f k lc lr room x.ph x.at_ x.marks x.stack x.over x.again x.scan = some e ∧ (e = 0 ↔ viewB lc lr = true ∧ Ok lc lr room x) := by
 unfold mark_Check.f mark_New.f
 rw [hk, Option.bind_some]
 cases hv : viewB lc lr with
 | false => exact ⟨190, rfl, by simp⟩
 | true =>
  rw [if_pos rfl, if_pos rfl]
  by_cases h1 : room < 1
  ·rw [if_pos h1]; exact ⟨1, rfl, ⟨fun h => absurd h (by decide), fun h => absurd h.2.r0 (by omega)⟩⟩
  ·rw [if_neg h1]
   by_cases h2 : room > 256
   ·rw [if_pos h2]; exact ⟨1, rfl, ⟨fun h => absurd h (by decide), fun h => absurd h.2.r1 (by omega)⟩⟩
   ·rw [if_neg h2, if_pos (by omega), if_pos (by omega)]
    refine ⟨_, rfl, ?_⟩
    simp only [true_and]
    exact rest_ok (ov := x.over) (ag := x.again) (by omega) (by omega)
theorem kv_ev (lc : List Cel) (lr : List Int) (hG : VG lc) : ∃ K, ∀ k, K ≤ k → Kv lc lr k := view_f lc lr hG
theorem kc_ev (lc : List Cel) (h : ∀ c ∈ lc, c.f1.length < 17592186044416) : ∃ K, ∀ k, K ≤ k → Kc lc k := by
 induction lc with
 | nil => exact ⟨0, fun k _ c hc => by cases hc⟩
 | cons c lc ih =>
  obtain ⟨K, hK⟩ := ih (fun c hc => h c (List.mem_cons_of_mem _ hc))
  refine ⟨K + c.f1.length + 1, fun k hk d hd => ?_⟩
  rcases List.mem_cons.1 hd with rfl | hd
  ·exact ⟨by omega, h _ List.mem_cons_self⟩
  ·exact hK k (by omega) d hd
section
variable (lc : List Cel) (lr : List Int) (room : Int) (k : Nat)
def un (x : MS) : MS := (MS.unit (fun m j => mark_counts.f k lc lr m j) (fun m => pairedL lc m) lc.length lr room x).getD x
def it : Nat → MS → MS × Nat
 | 0, x => (x, 0)
 | d + 1, x => if x.ph = 3 then (x, 0) else let q := it d (un lc lr room k x); (q.1, q.2 + 1)
end
variable {lc : List Cel} {lr : List Int} {room : Int} {k : Nat}
theorem un_ok (hv : viewB lc lr = true) (hk : Kc lc k) {x : MS} (hO : Ok lc lr room x) : MS.unit (fun m j => mark_counts.f k lc lr m j) (fun m => pairedL lc m) lc.length lr room x = some (un lc lr room k x) ∧ Ok lc lr room (un lc lr room k x) := by
 obtain ⟨y, h1, h2⟩ := unit_ok hv hk hO
 unfold un
 rw [h1]
 exact ⟨rfl, h2⟩
theorem it_done {x : MS} (h : x.ph = 3) : ∀ d, it lc lr room k d x = (x, 0)
 | 0 => rfl
 | d + 1 => by rw [it, if_pos h]
theorem run_f (hv : viewB lc lr = true) (hk : Kc lc k) : ∀ (d f : Nat) (x : MS) (c : Nat), Ok lc lr room x → d < f → c + d < 1000000 → MS.run (fun m j => mark_counts.f k lc lr m j) (fun m => pairedL lc m) lc.length lr room f x ((c + d : Nat) : Int) (c : Int) = some ((it lc lr room k d x).1, ((c + (it lc lr room k d x).2 : Nat) : Int))
 | 0, f, x, c, hO, hf, hc => by
  obtain ⟨f, rfl⟩ : ∃ f', f = f' + 1 := ⟨f - 1, by omega⟩
  rw [MS.run, if_neg (by omega)]; rfl
 | d + 1, f, x, c, hO, hf, hc => by
  obtain ⟨f, rfl⟩ : ∃ f', f = f' + 1 := ⟨f - 1, by omega⟩
  rw [MS.run, if_pos (by omega)]
  by_cases h : x.ph = 3
  ·rw [if_pos h, it_done h]; rfl
  ·obtain ⟨h1, h2⟩ := un_ok hv hk hO
   rw [if_neg h, h1, Option.bind_some, wsucc (by omega), show c + (d + 1) = (c + 1) + d from by omega, run_f hv hk d f _ (c + 1) h2 (by omega) (by omega), it, if_neg h]
   simp only [Option.some.injEq, Prod.mk.injEq, true_and]
   omega
theorem run_neg (f : Nat) (x : MS) (u : Int) (hu : u ≤ 0) : MS.run (fun m j => mark_counts.f k lc lr m j) (fun m => pairedL lc m) lc.length lr room (f + 1) x u 0 = some (x, 0) := by rw [MS.run, if_neg (by omega)]
theorem rcell_at (lc : List Cel) (lr : List Int) (i : Int) : atticref19_cell.f lc lr i = some (isThere lc i) := by
 have := there_at lc lr i
 unfold mark_there.f at this
 unfold atticref19_cell.f
 exact this
theorem cellB_iff (c : Cel) : cellB c = true ↔ 0 ≤ c.f0 ∧ c.f0 ≤ 3 ∧ (c.f0 = 0 → c.f1.length = 0) ∧ (c.f0 = 3 → 0 < c.f1.length) := by
 unfold cellB
 by_cases h0 : c.f0 = 0
 ·rw [if_pos h0]; simp [h0]
 ·rw [if_neg h0]
  by_cases h3 : c.f0 = 3
  ·rw [if_pos h3]; simp [h3]
  ·rw [if_neg h3]
   by_cases h1 : c.f0 = 1
   ·rw [if_pos h1]; simp [h1]
   ·rw [if_neg h1]
    constructor
    ·intro h
     have h2 : c.f0 = 2 := by simpa using h
     omega
    ·rintro ⟨a, b, _⟩
     have h2 : c.f0 = 2 := by omega
     simp [h2]
theorem rview_l2 (lc : List Cel) (lr : List Int) (hl : lr.length ≤ 9223372036854775807) : ∀ (m j : Nat), j + m = lr.length → Ev (fun k => atticref19_CheckView.l2 k (j : Int) lc lr) (if (lr.drop j).all (isThere lc) = true then 0 else 190)
 | 0, j, hj => by
  rw [List.drop_eq_nil_of_le (by omega), List.all_nil, if_pos rfl]
  refine Ev.step (f := fun _ => some 0) (fun k => ?_) (Ev.now _)
  rw [atticref19_CheckView.l2, if_neg (by omega)]
 | m + 1, j, hj => by
  have hlt : j < lr.length := by omega
  rw [List.drop_eq_getElem_cons hlt, List.all_cons]
  have e : ∀ k, atticref19_CheckView.l2 (k + 1) (j : Int) lc lr = (if isThere lc lr[j] = true then atticref19_CheckView.l2 k ((j + 1 : Nat) : Int) lc lr else some 190) := fun k => by
   rw [atticref19_CheckView.l2, if_pos (by omega), if_pos (by omega), rcell_at, Option.bind_some, rd_in lr j hlt, wnat hlt hl]
  cases ht : isThere lc lr[j] with
  | true => rw [Bool.true_and]; exact Ev.step (fun k => by rw [e, ht, if_pos rfl]) (rview_l2 lc lr hl m (j + 1) (by omega))
  | false => rw [Bool.false_and, if_neg Bool.false_ne_true]; exact Ev.step (fun k => by rw [e, ht, if_neg Bool.false_ne_true]) (Ev.now _)
theorem rview_l1 (lc : List Cel) (lr : List Int) (x3 f0 : Int) (l : List Int) (hl : l.length ≤ 9223372036854775807) (r : Int) (hr : Ev (fun k => atticref19_CheckView.l0 k (wrap64 (x3 + 1)) lc lr) r) :
  ∀ (m j : Nat), j + m = l.length → Ev (fun k => atticref19_CheckView.l1 k x3 (j : Int) lc lr f0 l) (if (l.drop j).all (ptrB lc) = true then r else 190)
 | 0, j, hj => by
  rw [List.drop_eq_nil_of_le (by omega), List.all_nil, if_pos rfl]
  exact Ev.step (fun k => by rw [atticref19_CheckView.l1, if_neg (by omega)]) hr
 | m + 1, j, hj => by
  have hlt : j < l.length := by omega
  rw [List.drop_eq_getElem_cons hlt, List.all_cons]
  have e : ∀ k, atticref19_CheckView.l1 (k + 1) x3 (j : Int) lc lr f0 l = (if ptrB lc l[j] = true then atticref19_CheckView.l1 k x3 ((j + 1 : Nat) : Int) lc lr f0 l else some 190) := fun k => by
   rw [atticref19_CheckView.l1, if_pos (by omega), if_pos (by omega), rd_in l j hlt, wnat hlt hl, rcell_at, Option.bind_some, ptrB]
   by_cases h : l[j] = -1
   ·rw [if_pos h, if_pos (by rw [h]; rfl)]
   ·rw [if_neg h, beq_eq_false_iff_ne.2 h, Bool.false_or]
  cases hp : ptrB lc l[j] with
  | true => rw [Bool.true_and]; exact Ev.step (fun k => by rw [e, hp, if_pos rfl]) (rview_l1 lc lr x3 f0 l hl r hr m (j + 1) (by omega))
  | false => rw [Bool.false_and, if_neg Bool.false_ne_true]; exact Ev.step (fun k => by rw [e, hp, if_neg Bool.false_ne_true]) (Ev.now _)
theorem rview_l0 (lc : List Cel) (lr : List Int) (hG : VG lc) (hl : lr.length ≤ 9223372036854775807) : ∀ (m j : Nat), j + m = lc.length →
  Ev (fun k => atticref19_CheckView.l0 k (j : Int) lc lr) (if ((lc.drop j).all fun c => cellB c && c.f1.all (ptrB lc)) = true ∧ lr.all (isThere lc) = true then 0 else 190)
 | 0, j, hj => by
  rw [List.drop_eq_nil_of_le (by omega)]
  have := rview_l2 lc lr hl lr.length 0 (by omega)
  rw [List.drop_zero] at this
  refine Ev.eq (Ev.step (fun k => ?_) this) (by simp)
  rw [atticref19_CheckView.l0, if_neg (by omega)]; rfl
 | m + 1, j, hj => by
  have hlt : j < lc.length := by omega
  have hc := hG.2 _ (List.getElem_mem hlt)
  have ih := rview_l0 lc lr hG hl m (j + 1) (by omega)
  rw [← wnat hlt (by have := hG.1; omega)] at ih
  have h1 := rview_l1 lc lr (j : Int) lc[j].f0 lc[j].f1 hc _ ih lc[j].f1.length 0 (by omega)
  rw [List.drop_zero] at h1
  have hj1 : ∀ b : Bool, Ev (fun k => atticref19_CheckView.j1 k (j : Int) b lc lr lc[j].f0 lc[j].f1) (if b = true then 190 else (if lc[j].f1.all (ptrB lc) = true then (if ((lc.drop (j + 1)).all fun c => cellB c && c.f1.all (ptrB lc)) = true ∧ lr.all (isThere lc) = true then 0 else 190) else 190)) := fun b => by
   cases b with
   | true => exact Ev.step (f := fun _ => some 190) (fun k => by rw [atticref19_CheckView.j1, if_pos rfl]) (Ev.now _)
   | false => rw [if_neg Bool.false_ne_true]; exact Ev.step (fun k => by rw [atticref19_CheckView.j1, if_neg Bool.false_ne_true]; rfl) h1
  have e : ∀ k, atticref19_CheckView.l0 (k + 1) (j : Int) lc lr = atticref19_CheckView.j1 k (j : Int) (!cellB lc[j]) lc lr lc[j].f0 lc[j].f1 := fun k => by
   rw [atticref19_CheckView.l0, if_pos (by omega), if_pos (by omega), rdT_in lc j hlt]
   generalize lc[j] = c
   have hcb := cellB_iff c
   by_cases a1 : c.f0 < 0
   ·rw [if_pos a1, show cellB c = false from by rw [Bool.eq_false_iff]; intro h; have := hcb.1 h; omega]; rfl
   ·rw [if_neg a1]
    by_cases a2 : c.f0 > 3
    ·rw [if_pos a2, show cellB c = false from by rw [Bool.eq_false_iff]; intro h; have := hcb.1 h; omega]; rfl
    ·rw [if_neg a2]
     by_cases a0 : c.f0 = 0
     ·rw [if_pos a0]
      by_cases al : (c.f1.length : Int) > 0
      ·rw [if_pos al, show cellB c = false from by rw [Bool.eq_false_iff]; intro h; have := hcb.1 h; omega]; rfl
      ·rw [if_neg al, if_neg (by omega), show cellB c = true from hcb.2 ⟨by omega, by omega, fun _ => by omega, fun h => by omega⟩]; rfl
     ·rw [if_neg a0]
      by_cases a3 : c.f0 = 3
      ·rw [if_pos a3]
       by_cases al : c.f1.length = 0
       ·rw [show cellB c = false from by rw [Bool.eq_false_iff]; intro h; have := (hcb.1 h).2.2.2 a3; omega, show ((c.f1.length : Int) == 0) = true from beq_iff_eq.2 (by omega)]; rfl
       ·rw [show cellB c = true from hcb.2 ⟨by omega, by omega, fun h => absurd h a0, fun _ => by omega⟩, show ((c.f1.length : Int) == 0) = false from beq_eq_false_iff_ne.2 (by omega)]; rfl
      ·rw [if_neg a3, show cellB c = true from hcb.2 ⟨by omega, by omega, fun h => absurd h a0, fun h => absurd h a3⟩]; rfl
  rw [List.drop_eq_getElem_cons hlt, List.all_cons]
  refine Ev.eq (Ev.step e (hj1 (!cellB lc[j]))) ?_
  cases lc[j].f1.all (ptrB lc) <;> cases cellB lc[j] <;> simp
theorem rview_f (lc : List Cel) (lr : List Int) (hG : VG lc) (hl : lr.length ≤ 9223372036854775807) : Ev (fun k => atticref19_CheckView.f k lc lr) (if viewB lc lr = true then 0 else 190) := by
 unfold atticref19_CheckView.f
 by_cases h : (lc.length : Int) > 8192
 ·refine Ev.eq (r := 190) ⟨0, fun k _ => if_pos h⟩ ?_
  rw [if_neg]
  unfold viewB
  simp only [Bool.and_eq_true, decide_eq_true_eq]
  omega
 ·have := rview_l0 lc lr hG hl lc.length 0 (by omega)
  rw [List.drop_zero] at this
  refine Ev.eq (Ev.congr (fun k => by rw [if_neg h]; rfl) this) ?_
  unfold viewB
  simp only [Bool.and_eq_true, decide_eq_true_eq]
  have h2 : lc.length ≤ 8192 := by omega
  simp only [h2, true_and]
theorem rcounts_l0 (x : List Int) (hx : x.length ≤ 9223372036854775807) : ∀ (m j k : Nat) (a : List Int), j + m = x.length → a.length + m < 17592186044416 → m < k → atticref19_counted.l0 k x a (j : Int) = some (a ++ (x.drop j).filter (· ≠ -1))
 | 0, j, k, a, hj, ha, hk => by
  obtain ⟨k, rfl⟩ : ∃ k', k = k' + 1 := ⟨k - 1, by omega⟩
  rw [List.drop_eq_nil_of_le (by omega), atticref19_counted.l0, if_neg (by omega)]
  simp
 | m + 1, j, k, a, hj, ha, hk => by
  obtain ⟨k, rfl⟩ : ∃ k', k = k' + 1 := ⟨k - 1, by omega⟩
  have hlt : j < x.length := by omega
  rw [List.drop_eq_getElem_cons hlt, List.filter_cons, atticref19_counted.l0, if_pos (by omega), if_pos (by omega), rd_in x j hlt, wnat hlt hx]
  by_cases h : x[j] = -1
  ·rw [if_pos h, if_neg (by simp [h]), rcounts_l0 x hx m (j + 1) k a (by omega) (by omega) (by omega)]
  ·rw [if_neg h, if_pos (by omega), if_pos (by simp [h]), rcounts_l0 x hx m (j + 1) k (a ++ [x[j]]) (by omega) (by rw [List.length_append, List.length_singleton]; omega) (by omega)]
   simp
theorem rcounts_l1 (x : List Int) (hx : x.length ≤ 9223372036854775807) : ∀ (m j k : Nat) (a : List Int), j + m = x.length → a.length + m < 17592186044416 → m < k → atticref19_counted.l1 k x a (j : Int) = some (a ++ (x.drop j).filter (· ≠ -1))
 | 0, j, k, a, hj, ha, hk => by
  obtain ⟨k, rfl⟩ : ∃ k', k = k' + 1 := ⟨k - 1, by omega⟩
  rw [List.drop_eq_nil_of_le (by omega), atticref19_counted.l1, if_neg (by omega)]
  simp
 | m + 1, j, k, a, hj, ha, hk => by
  obtain ⟨k, rfl⟩ : ∃ k', k = k' + 1 := ⟨k - 1, by omega⟩
  have hlt : j < x.length := by omega
  rw [List.drop_eq_getElem_cons hlt, List.filter_cons, atticref19_counted.l1, if_pos (by omega), if_pos (by omega), rd_in x j hlt, wnat hlt hx]
  by_cases h : x[j] = -1
  ·rw [if_pos h, if_neg (by simp [h]), rcounts_l1 x hx m (j + 1) k a (by omega) (by omega) (by omega)]
  ·rw [if_neg h, if_pos (by omega), if_pos (by simp [h]), rcounts_l1 x hx m (j + 1) k (a ++ [x[j]]) (by omega) (by rw [List.length_append, List.length_singleton]; omega) (by omega)]
   simp
theorem rcounts_f (lc : List Cel) (lr : List Int) (m : List Bool) (i k : Nat) (hi : i < lc.length) (hml : m.length = lc.length) (hv : viewB lc lr = true) (hlen : lc[i].f1.length < 17592186044416) (hk : lc[i].f1.length < k) : atticref19_counted.f k lc lr m (i : Int) = some (cnt lc m i) := by
 obtain ⟨v1, v2, v3⟩ := view_in hv
 obtain ⟨w1, w2⟩ := v2 _ (List.getElem_mem hi)
 rw [cnt_in lc m i hi, atticref19_counted.f, if_pos (by omega), if_pos (by omega), rdT_in lc i hi]
 generalize lc[i] = c at *
 by_cases h3 : c.f0 = 3
 ·simp only [if_pos h3, if_neg (show ¬ c.f0 = 2 by omega)]
  have hne : 0 < c.f1.length := by unfold cellB at w1; rw [if_neg (by omega), if_pos h3] at w1; exact of_decide_eq_true w1
  rw [if_pos (show (0 : Int) < (c.f1.length : Int) by omega)]
  match hc : c.f1, hne with
  | key :: r, _ =>
   rw [hc] at hlen hk w2
   have hkey := w2 key List.mem_cons_self
   rw [show rd (key :: r) 0 = key from rfl]
   by_cases h1 : key = -1
   ·rw [if_pos h1]; simp [h1]
   ·have ht : isThere lc key = true := by unfold ptrB at hkey; rw [beq_eq_false_iff_ne.2 h1, Bool.false_or] at hkey; exact hkey
    obtain ⟨t1, t2, _⟩ := there_in ht
    rw [if_neg h1, if_pos t1, if_pos (by omega)]
    have e : rdOf false m key = m.getD key.toNat false := rfl
    rw [e]
    cases hb : m.getD key.toNat false with
    | false =>
     rw [if_neg Bool.false_ne_true]
     show some [] = some (if key = -1 ∨ m.getD key.toNat false = false then [] else r.filter (· ≠ -1))
     rw [hb, if_pos (Or.inr rfl)]
    | true =>
     have h0 := rcounts_l0 r (by simp at hlen; omega) r.length 0 k [] (by omega) (by simp at hlen ⊢; omega) (by simp at hk; omega)
     rw [show ((0 : Nat) : Int) = 0 from rfl, List.drop_zero, List.nil_append] at h0
     rw [if_pos rfl, if_pos (by simp; omega), List.drop_one, List.tail_cons, h0]
     show some (r.filter (· ≠ -1)) = some (if key = -1 ∨ m.getD key.toNat false = false then [] else r.filter (· ≠ -1))
     rw [hb, if_neg (by simp [h1])]
 ·by_cases h2 : c.f0 = 2
  ·rw [if_pos h2, if_pos h2]
  ·have h0 := rcounts_l1 c.f1 (by omega) c.f1.length 0 k [] (by omega) (by simp; omega) hk
   rw [show ((0 : Nat) : Int) = 0 from rfl, List.drop_zero, List.nil_append] at h0
   rw [if_neg h2, if_neg h3, if_neg h2, if_neg h3, h0]
theorem rhas_l0 (v : Int) (l : List Int) (hl : l.length ≤ 9223372036854775806) : ∀ (m j k : Nat), j + m = l.length → m < k → atticref19_has.l0 k l v (j : Int) = some (decide (v ∈ l.drop j))
 | 0, j, k, hj, hk => by
  obtain ⟨k, rfl⟩ : ∃ k', k = k' + 1 := ⟨k - 1, by omega⟩
  rw [atticref19_has.l0, if_neg (by omega), List.drop_eq_nil_of_le (by omega)]; rfl
 | m + 1, j, k, hj, hk => by
  obtain ⟨k, rfl⟩ : ∃ k', k = k' + 1 := ⟨k - 1, by omega⟩
  have hlt : j < l.length := by omega
  rw [atticref19_has.l0, if_pos (by omega), if_pos (by omega), rd_in l j hlt, List.drop_eq_getElem_cons hlt, wnat hlt (by omega)]
  by_cases h : l[j] = v
  ·rw [if_pos h, decide_eq_true]; rw [← h]; exact List.mem_cons_self
  ·rw [if_neg h, rhas_l0 v l hl m (j + 1) k (by omega) (by omega)]
   congr 1
   rw [decide_eq_decide]
   exact ⟨fun h' => List.mem_cons_of_mem _ h', fun h' => (List.mem_cons.1 h').resolve_left fun e => h e.symm⟩
theorem rhas_f (v : Int) (l : List Int) (hl : l.length ≤ 9223372036854775806) {k : Nat} (hk : l.length < k) : atticref19_has.f k l v = some (l.contains v) := by
 unfold atticref19_has.f
 have := rhas_l0 v l hl l.length 0 k (by omega) hk
 rw [show (0 : Int) = ((0 : Nat) : Int) from rfl, this, List.drop_zero]
 congr 1
 rw [Bool.eq_iff_iff]
 simp
def most (lc : List Cel) (lr : List Int) (ph : Int) (sc : Bool) : Int := if ph = 0 then (lr.length : Int) else if ph = 2 then (lc.length : Int) else if ph = 1 then (if sc = true then (lc.length : Int) else 0) else 0
theorem furth_most (lc : List Cel) (lr : List Int) {ph : Int} (sc : Bool) (h0 : 0 ≤ ph) (h3 : ph ≤ 3) : furth lc lr ph sc = most lc lr ph sc := by
 unfold furth most
 by_cases a : ph = 0
 ·rw [if_pos a, if_pos a]
 ·by_cases b : ph = 1
  ·subst b; cases sc <;> rfl
  ·by_cases c : ph = 2
   ·rw [if_neg a, if_neg b, if_pos c, if_neg a, if_pos c]
   ·rw [if_neg a, if_neg b, if_neg c, if_pos (by omega), if_neg a, if_neg c, if_neg b]
theorem furth_not (lc : List Cel) (lr : List Int) {ph : Int} (sc : Bool) (h : ph < 0 ∨ 3 < ph) : furth lc lr ph sc = -1 := by
 unfold furth
 rw [if_neg (by omega), if_neg (by omega), if_neg (by omega), if_neg (by omega)]
section
variable {lc : List Cel} {lr : List Int} {room ph at_ : Int} {m : List Bool} {st : List Int} {ov ag sc : Bool} {k : Nat}
theorem bad_true (h : at_ < 0 ∨ furth lc lr ph sc < at_ ∨ m.length ≠ lc.length ∨ room < (st.length : Int) ∨ ((ph = 2 ∨ ph = 3) ∧ 0 < st.length) ∨ (sc = true ∧ ph ≠ 1)) : chkBad lc lr room ph at_ m st sc = true := by
 unfold chkBad
 simp only [Bool.or_eq_true, Bool.and_eq_true, decide_eq_true_eq]
 rcases h with h | h | h | h | h | h
 ·exact .inl (.inl (.inl (.inl (.inl h))))
 ·exact .inl (.inl (.inl (.inl (.inr h))))
 ·exact .inl (.inl (.inl (.inr h)))
 ·exact .inl (.inl (.inr h))
 ·exact .inl (.inr h)
 ·exact .inr h
theorem j0_bad : atticref19_Check.j0 (k + 1) room (most lc lr ph sc) lc lr ph at_ m st ov ag sc = atticref19_Check.j1 k (chkBad lc lr room ph at_ m st sc) lc lr ph at_ m st ov ag sc := by
 rw [atticref19_Check.j0]
 by_cases h1 : ph < 0
 ·rw [if_pos h1, bad_true (by rw [furth_not lc lr sc (.inl h1)]; omega)]
 by_cases h2 : ph > 3
 ·rw [if_neg h1, if_pos h2, bad_true (by rw [furth_not lc lr sc (.inr h2)]; omega)]
 have hf : furth lc lr ph sc = most lc lr ph sc := furth_most lc lr sc (by omega) (by omega)
 rw [if_neg h1, if_neg h2]
 by_cases h3 : at_ < 0
 ·rw [if_pos h3, bad_true (.inl h3)]
 by_cases h4 : at_ > most lc lr ph sc
 ·rw [if_neg h3, if_pos h4, bad_true (.inr (.inl (by rw [hf]; exact h4)))]
 rw [if_neg h3, if_neg h4]
 by_cases h5 : (m.length : Int) = (lc.length : Int)
 ·rw [if_pos h5]
  by_cases h6 : (st.length : Int) > room
  ·rw [if_pos h6, bad_true (.inr (.inr (.inr (.inl h6))))]
  ·rw [if_neg h6]
   have fin : (sc = true → ph = 1) → (if ph ≥ 2 then (atticref19_Check.j1 k (decide ((st.length : Int) > 0)) lc lr ph at_ m st ov ag sc) else (atticref19_Check.j1 k false lc lr ph at_ m st ov ag sc)) = atticref19_Check.j1 k (chkBad lc lr room ph at_ m st sc) lc lr ph at_ m st ov ag sc := fun hs => by
    by_cases h8 : ph ≥ 2
    ·rw [if_pos h8]
     by_cases h9 : (st.length : Int) > 0
     ·rw [decide_eq_true h9, bad_true (.inr (.inr (.inr (.inr (.inl ⟨by omega, by omega⟩)))))]
     ·rw [decide_eq_false h9, chkBad_false.2 ⟨by omega, by omega, by omega, by omega, fun _ => List.eq_nil_of_length_eq_zero (by omega), hs⟩]
    ·rw [if_neg h8, chkBad_false.2 ⟨by omega, by omega, by omega, by omega, fun h => absurd h (by omega), hs⟩]
   by_cases hs : sc = true
   ·rw [if_pos hs]
    by_cases h7 : ph = 1
    ·rw [if_pos h7]; exact fin fun _ => h7
    ·rw [if_neg h7, bad_true (.inr (.inr (.inr (.inr (.inr ⟨hs, h7⟩)))))]
   ·rw [if_neg hs]; exact fin fun h => absurd h hs
 ·rw [if_neg h5, bad_true (.inr (.inr (.inl (by omega))))]
theorem rstack (hml : m.length = lc.length) (hb : st.length ≤ 9223372036854775806) : ∀ (d j k : Nat), j + d = st.length → d + st.length < k → atticref19_Check.l1 k (j : Int) lc lr ph at_ m st ov ag sc = some (if chkStack lc m st (st.drop j) j = true then 191 else 0)
 | 0, j, k, hj, hk => by
  obtain ⟨k, rfl⟩ : ∃ k', k = k' + 1 := ⟨k - 1, by omega⟩
  rw [atticref19_Check.l1, if_neg (by omega), List.drop_eq_nil_of_le (by omega)]; rfl
 | d + 1, j, k, hj, hk => by
  obtain ⟨k, rfl⟩ : ∃ k', k = k' + 1 := ⟨k - 1, by omega⟩
  have hlt : j < st.length := by omega
  rw [atticref19_Check.l1, if_pos (by omega), if_pos (by omega), rd_in st j hlt, rcell_at, Option.bind_some, List.drop_eq_getElem_cons hlt, chkStack, wnat hlt (by omega), rstack hml hb d (j + 1) k (by omega) (by omega)]
  cases ht : isThere lc st[j] with
  | false => rw [if_neg Bool.false_ne_true]; rfl
  | true =>
   obtain ⟨t0, t1, _⟩ := there_in ht
   rw [if_pos rfl, if_pos t0, if_pos (by omega)]
   cases hm : rdOf false m st[j] with
   | false => rw [if_neg Bool.false_ne_true]; rfl
   | true =>
    rw [if_pos rfl, if_pos (by omega), Int.toNat_natCast, rhas_f _ _ (by rw [List.length_take]; omega) (by rw [List.length_take]; omega), Option.bind_some]
    cases hc : (st.take j).contains st[j] with
    | true => rw [if_pos rfl]; rfl
    | false => rw [if_neg Bool.false_ne_true]; rfl
theorem rmarks (hml : m.length = lc.length) (hb : st.length ≤ 9223372036854775806) (hb2 : m.length ≤ 9223372036854775806) : ∀ (d j k : Nat), j + d = m.length → d + st.length + st.length + 1 < k → atticref19_Check.l0 k (j : Int) lc lr ph at_ m st ov ag sc = some (if chkMarks lc (m.drop j) j = true then 191 else if chkStack lc m st st 0 = true then 191 else 0)
 | 0, j, k, hj, hk => by
  obtain ⟨k, rfl⟩ : ∃ k', k = k' + 1 := ⟨k - 1, by omega⟩
  have := rstack (lr := lr) (ph := ph) (at_ := at_) (ov := ov) (ag := ag) (sc := sc) hml hb st.length 0 k (by omega) (by omega)
  rw [List.drop_zero] at this
  rw [atticref19_Check.l0, if_neg (by omega), List.drop_eq_nil_of_le (by omega)]
  exact this
 | d + 1, j, k, hj, hk => by
  obtain ⟨k, rfl⟩ : ∃ k', k = k' + 1 := ⟨k - 1, by omega⟩
  have hlt : j < m.length := by omega
  rw [atticref19_Check.l0, if_pos (by omega), if_pos (by omega), rdB_in m j hlt, List.drop_eq_getElem_cons hlt, chkMarks, wnat hlt (by omega), rmarks hml hb hb2 d (j + 1) k (by omega) (by omega)]
  cases hm : m[j] with
  | false => rw [if_neg Bool.false_ne_true]; rfl
  | true =>
   rw [if_pos rfl, if_pos (by omega)]
   by_cases h0 : (rd_T56 lc (j : Int)).f0 = 0
   ·rw [if_pos h0, decide_eq_true h0]; rfl
   ·rw [if_neg h0, decide_eq_false h0]; rfl
theorem rrest (hb : st.length ≤ 1000000000000000) (hb2 : m.length ≤ 1000000000000000) (hk : m.length + st.length + st.length + 4 < k) : atticref19_Check.j0 k room (most lc lr ph sc) lc lr ph at_ m st ov ag sc = some (chkRest lc lr room ph at_ m st sc) := by
 obtain ⟨k, rfl⟩ : ∃ k', k = k' + 2 := ⟨k - 2, by omega⟩
 rw [j0_bad, atticref19_Check.j1, chkRest]
 cases hbad : chkBad lc lr room ph at_ m st sc with
 | true => rw [if_pos rfl, if_pos rfl]
 | false =>
  have hml := (chkBad_false.1 hbad).2.2.1
  rw [if_neg Bool.false_ne_true, if_neg Bool.false_ne_true]
  have := rmarks (lr := lr) (ph := ph) (at_ := at_) (ov := ov) (ag := ag) (sc := sc) hml (st := st) (by omega) (by omega) m.length 0 k (by omega) (by omega)
  rw [List.drop_zero] at this
  exact this
end
theorem rpaired_l0 (lc : List Cel) (lr : List Int) (ph at_ : Int) (m : List Bool) (st : List Int) (ov ag sc : Bool) (hm : m.length ≤ lc.length) (hl : lc.length ≤ 9223372036854775806) : ∀ (d j k : Nat), j + d = m.length → d < k →
  atticref19_paired.l0 k (j : Int) lc lr ph at_ m st ov ag sc = some (pairedL.go lc (m.drop j) j)
 | 0, j, k, hj, hk => by
  obtain ⟨k, rfl⟩ : ∃ k', k = k' + 1 := ⟨k - 1, by omega⟩
  rw [atticref19_paired.l0, if_neg (by omega), List.drop_eq_nil_of_le (by omega)]; rfl
 | d + 1, j, k, hj, hk => by
  obtain ⟨k, rfl⟩ : ∃ k', k = k' + 1 := ⟨k - 1, by omega⟩
  have hlt : j < m.length := by omega
  rw [atticref19_paired.l0, if_pos (by omega), if_pos (by omega), rdB_in m j hlt, List.drop_eq_getElem_cons hlt, pairedL.go, wnat hlt (by omega), rpaired_l0 lc lr ph at_ m st ov ag sc hm hl d (j + 1) k (by omega) (by omega)]
  cases m[j] with
  | false => rw [if_neg Bool.false_ne_true]; rfl
  | true =>
   rw [if_pos rfl, if_pos (by omega)]
   by_cases h3 : (rd_T56 lc (j : Int)).f0 = 3
   ·rw [if_pos h3, decide_eq_true h3]; rfl
   ·rw [if_neg h3, decide_eq_false h3]; rfl
section
variable {lc : List Cel} {lr : List Int} {room : Int} {k : Nat}
abbrev cR (lc : List Cel) (lr : List Int) (k : Nat) : List Bool → Int → Option (List Int) := fun m j => atticref19_counted.f k lc lr m j
abbrev cM (lc : List Cel) (lr : List Int) (k : Nat) : List Bool → Int → Option (List Int) := fun m j => mark_counts.f k lc lr m j
abbrev pR (lc : List Cel) (lr : List Int) (k : Nat) : MS → Option Bool := fun s => atticref19_paired.f k lc lr s.ph s.at_ s.marks s.stack s.over s.again s.scan
theorem cf_eq (hv : viewB lc lr = true) (hk : Kc lc k) {m : List Bool} (hm : m.length = lc.length) {j : Int} (h0 : 0 ≤ j) (h1 : j < (lc.length : Int)) : cR lc lr k m j = cM lc lr k m j := by
 obtain ⟨i, rfl⟩ : ∃ i : Nat, j = (i : Int) := ⟨j.toNat, by omega⟩
 have hi : i < lc.length := by omega
 obtain ⟨c1, c2⟩ := hk _ (List.getElem_mem hi)
 show atticref19_counted.f k lc lr m (i : Int) = mark_counts.f k lc lr m (i : Int)
 rw [rcounts_f lc lr m i k hi hm hv (by omega) (by omega), counts_f lc lr m i k hi hm hv (by omega) (by omega)]
theorem rs_eq (hv : viewB lc lr = true) (hk : Kc lc k) (hkl : lc.length < k) {x : MS} (hO : Ok lc lr room x) :
  RS.unit (cR lc lr k) (pR lc lr k) lc.length lr room x = MS.unit (cM lc lr k) (fun m => pairedL lc m) lc.length lr room x := by
 obtain ⟨v1, v2, v3⟩ := view_in hv
 have hml := hO.bs.ml
 unfold RS.unit MS.unit
 by_cases h0 : x.ph = 0
 ·rw [if_pos h0, if_pos h0]
 ·rw [if_neg h0, if_neg h0]
  by_cases h1 : x.ph = 1
  ·rw [if_pos h1, if_pos h1]
   unfold RS.drain MS.drain
   by_cases hs : 0 < x.stack.length
   ·rw [if_pos hs, if_pos hs]
    have hlt : x.stack.length - 1 < x.stack.length := by omega
    have hmem : rd x.stack ((x.stack.length : Int) - 1) ∈ x.stack := by
     rw [show ((x.stack.length : Int) - 1) = ((x.stack.length - 1 : Nat) : Int) from by omega, rd_in _ _ hlt]; exact List.getElem_mem hlt
    obtain ⟨t1, t2, _⟩ := there_in (hO.bs.stk _ hmem).1
    unfold MS.from_
    rw [cf_eq hv hk (m := x.marks) hml t1 t2]
   ·rw [if_neg hs, if_neg hs]
    have hp : pR lc lr k x = (fun m => pairedL lc m) x.marks := by
     show atticref19_paired.f k lc lr x.ph x.at_ x.marks x.stack x.over x.again x.scan = pairedL lc x.marks
     have := rpaired_l0 lc lr x.ph x.at_ x.marks x.stack x.over x.again x.scan (by omega) (by omega) x.marks.length 0 k (by omega) (by omega)
     rw [List.drop_zero] at this
     unfold atticref19_paired.f pairedL
     rw [if_pos (by omega)]
     exact this
    rw [hp]
  ·rw [if_neg h1, if_neg h1]
   by_cases h2 : x.ph = 2
   ·rw [if_pos h2, if_pos h2]
    unfold MS.scan_
    by_cases hn : x.at_ < (lc.length : Int)
    ·rw [if_pos hn, if_pos hn]
     by_cases hb : 0 ≤ x.at_ ∧ x.at_ < (x.marks.length : Int)
     ·rw [if_pos hb, if_pos hb]
      unfold MS.from_
      rw [cf_eq hv hk (m := x.marks) hml hb.1 hn]
     ·rw [if_neg hb, if_neg hb]
    ·rw [if_neg hn, if_neg hn]
   ·rw [if_neg h2, if_neg h2]
theorem rcheck_eq (e : mark_CheckView.f k lc lr = atticref19_CheckView.f k lc lr) {ph at_ : Int} {m : List Bool} {st : List Int} {ov ag sc : Bool} (hb : st.length ≤ 1000000000000000) (hb2 : m.length ≤ 1000000000000000) (hk : m.length + st.length + st.length + 4 < k) :
  atticref19_Check.f k lc lr room ph at_ m st ov ag sc = mark_Check.f k lc lr room ph at_ m st ov ag sc := by
 have hnew : mark_New.f k lc lr room = atticref19_New.f k lc lr room := by
  unfold mark_New.f atticref19_New.f
  rw [e]
 unfold mark_Check.f atticref19_Check.f
 rw [hnew]
 congr 1
 funext q
 by_cases hq : q.2.2.2.2.2.2.2 = 0
 ·rw [if_pos hq, if_pos hq]
  have hr := rrest (lc := lc) (lr := lr) (room := room) (ph := ph) (at_ := at_) (m := m) (st := st) (ov := ov) (ag := ag) (sc := sc) (k := k) hb hb2 hk
  rw [← hr]
  unfold most
  by_cases a : ph = 0
  ·rw [if_pos a, if_pos a]
  ·by_cases b : ph = 2
   ·rw [if_neg a, if_pos b, if_neg a, if_pos b]
   ·by_cases c : ph = 1
    ·rw [if_neg a, if_neg b, if_pos c, if_neg a, if_neg b, if_pos c]
     cases sc with
     | true => rw [if_pos rfl, if_pos rfl]
     | false => rw [if_neg Bool.false_ne_true, if_neg Bool.false_ne_true]
    ·rw [if_neg a, if_neg b, if_neg c, if_neg a, if_neg b, if_neg c]
 ·rw [if_neg hq, if_neg hq]
structure Kr (lc : List Cel) (lr : List Int) (k : Nat) : Prop where
 v : Kv lc lr k
 r : mark_CheckView.f k lc lr = atticref19_CheckView.f k lc lr
 c : Kc lc k
 n : lc.length < k
theorem kr_ev (hG : VG lc) (hl : lr.length ≤ 9223372036854775807) (h : ∀ c ∈ lc, c.f1.length < 17592186044416) : ∃ K, ∀ k, K ≤ k → Kr lc lr k := by
 obtain ⟨K1, h1⟩ := kv_ev lc lr hG
 obtain ⟨K2, h2⟩ := kc_ev lc h
 obtain ⟨K3, h3⟩ := rview_f lc lr hG hl
 refine ⟨K1 + K2 + K3 + lc.length + 1, fun k hk => ⟨h1 k (by omega), ?_, h2 k (by omega), by omega⟩⟩
 have a := h1 k (by omega)
 have b := h3 k (by omega)
 unfold Kv at a
 rw [a]
 exact b.symm
theorem rstep_f (hv : viewB lc lr = true) (hk : Kr lc lr k) (hl : lc.length ≤ 40) {x : MS} (hO : Ok lc lr room x) (hk2 : 1000 ≤ k) :
  atticref19_Step.f k lc lr room x.ph x.at_ x.marks x.stack x.over x.again x.scan = some ((un lc lr room k x).tup ((un lc lr room k x).ph == 3)) := by
 obtain ⟨e, h1, h2⟩ := check_f hk.v (by omega) room x
 have hm := hO.bs.ml
 have hs : x.stack.length ≤ 256 := by have := hO.bs.sl; have := hO.r1; omega
 unfold atticref19_Step.f
 rw [if_pos ⟨by omega, by omega⟩, rcheck_eq hk.r (by omega) (by omega) (by omega), h1, Option.bind_some, if_pos (h2.2 ⟨hv, hO⟩)]
 have := rs_eq hv hk.c hk.n hO
 unfold cR pR cM at this
 rw [this, (un_ok hv hk.c hO).1]
 rfl
theorem mstep_f (hv : viewB lc lr = true) (hk : Kr lc lr k) (hl : lc.length ≤ 40) {x : MS} (hO : Ok lc lr room x) :
  mark_Step.f k lc lr room x.ph x.at_ x.marks x.stack x.over x.again x.scan = some ((un lc lr room k x).tup ((un lc lr room k x).ph == 3)) := by
 obtain ⟨e, h1, h2⟩ := check_f hk.v (by omega) room x
 have hm := hO.bs.ml
 have hs : x.stack.length ≤ 256 := by have := hO.bs.sl; have := hO.r1; omega
 unfold mark_Step.f
 rw [if_pos ⟨by omega, by omega⟩, h1, Option.bind_some, if_pos (h2.2 ⟨hv, hO⟩), (un_ok hv hk.c hO).1]
 rfl
end
theorem live_k {k : Nat} (hk : 20 ≤ k) : atticlaw19_live.f k = some true := at_rounds (g := fun k => atticlaw19_live.f k) atticlaw19_live.mono hk (show atticlaw19_live.f 20 = some true from by kernel_rfl)
section
variable {lc : List Cel} {lr : List Int} {room : Int}
theorem un_eq (hv : viewB lc lr = true) (hl : lc.length ≤ 40) {K k : Nat} (hK : Kr lc lr K) (hk : Kr lc lr k) (hle : K ≤ k) {x : MS} (hO : Ok lc lr room x) : un lc lr room k x = un lc lr room K x := by
 have m1 := mstep_f hv hK hl hO
 have m2 := mstep_f hv hk hl hO
 have m3 := up (f := fun k => mark_Step.f k lc lr room x.ph x.at_ x.marks x.stack x.over x.again x.scan) (fun k => mark_Step.mono _ _ _ _ _ _ _ _ _ _ k) hle m1
 have m4 := m2.symm.trans m3
 unfold MS.tup at m4
 simp only [Option.some.injEq, Prod.mk.injEq] at m4
 obtain ⟨a1, a2, a3, a4, a5, a6, a7, _⟩ := m4
 generalize un lc lr room k x = u at *
 generalize un lc lr room K x = v at *
 cases u; cases v
 simp_all
theorem it_eq (hv : viewB lc lr = true) (hl : lc.length ≤ 40) {K k : Nat} (hK : Kr lc lr K) (hk : Kr lc lr k) (hle : K ≤ k) : ∀ (d : Nat) {x : MS}, Ok lc lr room x → it lc lr room k d x = it lc lr room K d x
 | 0, x, hO => rfl
 | d + 1, x, hO => by
  unfold it
  rw [un_eq hv hl hK hk hle hO, it_eq hv hl hK hk hle d (un_ok hv hK.c hO).2]
theorem rrun (hv : viewB lc lr = true) (hl : lc.length ≤ 40) {K : Nat} (hK : ∀ k, K ≤ k → Kr lc lr k) : ∀ (d k : Nat) (x : MS) (c : Nat), Ok lc lr room x → K + d + 1001 ≤ k → c + d < 1000000 →
  atticref19_Run.l0 k room ((c + d : Nat) : Int) (c : Int) lc lr x.ph x.at_ x.marks x.stack x.over x.again x.scan = some ((it lc lr room K d x).1.tup ((c + (it lc lr room K d x).2 : Nat) : Int))
 | 0, k, x, c, hO, hk, hc => by
  obtain ⟨k, rfl⟩ : ∃ k', k = k' + 1 := ⟨k - 1, by omega⟩
  rw [atticref19_Run.l0, if_neg (by omega)]; rfl
 | d + 1, k, x, c, hO, hk, hc => by
  obtain ⟨k, rfl⟩ : ∃ k', k = k' + 1 := ⟨k - 1, by omega⟩
  rw [atticref19_Run.l0, if_pos (by omega)]
  by_cases h : x.ph = 3
  ·rw [if_pos h, it_done h]; rfl
  ·have hk0 := hK k (by omega)
   have hKK := hK K (Nat.le_refl _)
   rw [if_neg h, rstep_f hv hk0 hl hO (by omega), un_eq hv hl hKK hk0 (by omega) hO, Option.bind_some, wsucc (by omega), show c + (d + 1) = (c + 1) + d from by omega]
   have := rrun hv hl hK d k (un lc lr room K x) (c + 1) (un_ok hv hKK.c hO).2 (by omega) (by omega)
   rw [it, if_neg h]
   refine this.trans ?_
   simp only [Option.some.injEq]
   congr 1
   omega
theorem both (hG : VG lc) (hl : lc.length ≤ 40) {K : Nat} (hK : ∀ k, K ≤ k → Kr lc lr k) (x : MS) (h1 : x.marks.length ≤ 140737488351232) (h2 : x.stack.length * 8 ≤ 140737488351232) (u : Int) (hu : u ≤ 300) {k : Nat} (hk : K + 3000 + x.marks.length + x.stack.length + x.stack.length ≤ k) :
  (∃ (y : MS) (b : Bool), mark_Step.f k lc lr room x.ph x.at_ x.marks x.stack x.over x.again x.scan = some (y.tup b) ∧ atticref19_Step.f k lc lr room x.ph x.at_ x.marks x.stack x.over x.again x.scan = some (y.tup b)) ∧
  (∃ (y : MS) (c : Int), mark_Run.f k lc lr room x.ph x.at_ x.marks x.stack x.over x.again x.scan u = some (y.tup c) ∧ atticref19_Run.f k lc lr room x.ph x.at_ x.marks x.stack x.over x.again x.scan u = some (y.tup c)) := by
 have hk0 := hK k (by omega)
 obtain ⟨e, c1, c2⟩ := check_f hk0.v (by omega) room x
 have hr := rcheck_eq (lc := lc) (lr := lr) (room := room) hk0.r (ph := x.ph) (at_ := x.at_) (m := x.marks) (st := x.stack) (ov := x.over) (ag := x.again) (sc := x.scan) (by omega) (by omega) (by omega)
 rw [c1] at hr
 have hcl : atticref19_Clone.f x.ph x.at_ x.marks x.stack x.over x.again x.scan = some (x.ph, x.at_, x.marks, x.stack, x.over, x.again, x.scan) := by
  unfold atticref19_Clone.f
  rw [if_pos (by simp; omega), if_pos (by simp; omega)]; rfl
 by_cases hO : viewB lc lr = true ∧ Ok lc lr room x
 ·obtain ⟨hv, hO⟩ := hO
  have he := c2.2 ⟨hv, hO⟩
  refine ⟨⟨_, _, mstep_f hv hk0 hl hO, rstep_f hv hk0 hl hO (by omega)⟩, ?_⟩
  unfold mark_Run.f atticref19_Run.f
  rw [if_pos ⟨by omega, by omega⟩, c1, Option.bind_some, if_pos he, hcl, Option.bind_some, hr, Option.bind_some, if_pos he]
  by_cases h0 : u ≤ 0
  ·obtain ⟨k, rfl⟩ : ∃ k', k = k' + 1 := ⟨k - 1, by omega⟩
   refine ⟨x, 0, ?_, ?_⟩
   ·rw [run_neg k x u h0, Option.bind_some]
   ·rw [atticref19_Run.l0, if_neg (by omega)]; rfl
  ·obtain ⟨d, rfl⟩ : ∃ d : Nat, u = (d : Int) := ⟨u.toNat, by omega⟩
   have a := run_f (lc := lc) (lr := lr) (room := room) hv hk0.c d k x 0 hO (by omega) (by omega)
   have b := rrun (room := room) hv hl hK d k x 0 hO (by omega) (by omega)
   rw [Nat.zero_add, Nat.zero_add, show ((0 : Nat) : Int) = 0 from rfl] at a b
   rw [a, Option.bind_some, it_eq hv hl (hK K (Nat.le_refl _)) hk0 (by omega) d hO]
   exact ⟨_, _, rfl, b⟩
 ·have he : ¬ e = 0 := fun h => hO (c2.1 h)
  refine ⟨⟨x, true, ?_, ?_⟩, ⟨x, 0, ?_, ?_⟩⟩
  ·unfold mark_Step.f
   rw [if_pos ⟨by omega, by omega⟩, c1, Option.bind_some, if_neg he]
  ·unfold atticref19_Step.f
   rw [if_pos ⟨by omega, by omega⟩, hr, Option.bind_some, if_neg he]
  ·unfold mark_Run.f
   rw [if_pos ⟨by omega, by omega⟩, c1, Option.bind_some, if_neg he]
  ·unfold atticref19_Run.f
   rw [hcl, Option.bind_some, hr, Option.bind_some, if_neg he]
   rfl
end
theorem MarkSteps : atticlaw19_MarkSteps.Pure := by
 rintro ⟨lc, lr⟩ ⟨room, ⟨ph, at_, m, st, ov, ag, sc⟩, units⟩ ⟨⟨g1, g2⟩, g3, g4⟩ ⟨h1, ⟨h2, h3, ⟨h4, _⟩, ⟨h5, _⟩, _⟩, _⟩
 have hG : VG lc := ⟨by have : lc.length * 32 ≤ _ := g1; omega, fun c hc => by have := (g2 c hc).2.1; omega⟩
 have g3' : lr.length * 8 ≤ 140737488351232 := g3
 have h4' : m.length * 1 ≤ 140737488351232 := h4
 have h5' : st.length * 8 ≤ 140737488351232 := h5
 obtain ⟨K, hK⟩ := kr_ev (lr := lr) hG (by omega) (fun c hc => by have := (g2 c hc).2.1; omega)
 obtain ⟨k, hk⟩ : ∃ k, k = K + 3000 + m.length + st.length + st.length := ⟨_, rfl⟩
 refine ⟨k + 1, ?_⟩
 show atticlaw19_MarkSteps.f (k + 1) lc lr room ph at_ m st ov ag sc units = some true
 unfold atticlaw19_MarkSteps.f
 rw [live_k (by omega), Option.bind_some, if_pos rfl, atticlaw19_few.f]
 have small : ∀ b : Bool, b = true → atticlaw19_MarkSteps.j0 (k + 1) b lc lr room ph at_ m st ov ag sc units = some true := fun b hb => by
  rw [atticlaw19_MarkSteps.j0, if_pos hb, live_k (by omega), Option.bind_some]
 by_cases hl : (lc.length : Int) ≤ 40
 ·rw [if_pos hl, Option.bind_some]
  by_cases hr : (lr.length : Int) ≤ 40
  ·rw [decide_eq_true hr, Bool.not_true, atticlaw19_MarkSteps.j0, if_neg Bool.false_ne_true]
   obtain ⟨⟨y, b, e1, e2⟩, ⟨z, c, e3, e4⟩⟩ := both (room := room) hG (by omega) hK ⟨ph, at_, m, st, ov, ag, sc⟩ (by show m.length ≤ _; omega) h5' (mn units 300) (by unfold mn; split <;> omega) (k := k) (by show K + 3000 + m.length + st.length + st.length ≤ k; omega)
   have e1 : mark_Step.f k lc lr room ph at_ m st ov ag sc = _ := e1
   have e2 : atticref19_Step.f k lc lr room ph at_ m st ov ag sc = _ := e2
   have e3 : mark_Run.f k lc lr room ph at_ m st ov ag sc (mn units 300) = _ := e3
   have e4 : atticref19_Run.f k lc lr room ph at_ m st ov ag sc (mn units 300) = _ := e4
   rw [e1, Option.bind_some, e2, Option.bind_some, e3, Option.bind_some, e4, Option.bind_some]
   simp [MS.tup, atticref19_Same.f, mark_Same.f]
  ·rw [decide_eq_false hr]; exact small _ rfl
 ·rw [if_neg hl, Option.bind_some]; exact small _ rfl
end Go.Proofs.Ytnmpmjbkelogaaa.Pure
