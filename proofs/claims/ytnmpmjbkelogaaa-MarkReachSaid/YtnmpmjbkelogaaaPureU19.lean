/- Units of marking: what a state is, and that a unit keeps it. -/
import Derived.Test.YtnmpmjbkelogaaaPrint
import Derived.Test.YtnmpmjbkelogaaaPureV19
namespace Go.Proofs.Ytnmpmjbkelogaaa.Pure
open Go.RowKit Go.Proofs.Ytnmpmjbkelogaaa.Print Go.Proofs.YtnmpmjbkelogaaaW.PrintWords Go.Proofs.YtnmpmjbkelogaaaW.PrintMore
set_option linter.unusedSimpArgs false
set_option linter.unusedVariables false

/-- Marks and a stack that may be. -/
structure Bs (lc : List Cel) (room : Int) (x : MS) : Prop where
  ml : x.marks.length = lc.length
  sl : (x.stack.length : Int) ≤ room
  kd : ∀ i : Nat, x.marks.getD i false = true → (lc.getD i ⟨0, []⟩).f0 ≠ 0
  stk : ∀ i ∈ x.stack, isThere lc i = true ∧ rdOf false x.marks i = true
  nd : x.stack.Nodup
/-- What a touch leaves as it was. -/
structure Like (x y : MS) : Prop where
  ph : y.ph = x.ph
  at_ : y.at_ = x.at_
  again : y.again = x.again
  scan : y.scan = x.scan
  up : ∀ i : Nat, x.marks.getD i false = true → y.marks.getD i false = true
theorem Like.refl (x : MS) : Like x x := ⟨rfl, rfl, rfl, rfl, fun _ h => h⟩
theorem Like.trans {x y z : MS} (h : Like x y) (k : Like y z) : Like x z := ⟨k.ph.trans h.ph, k.at_.trans h.at_, k.again.trans h.again, k.scan.trans h.scan, fun i hi => k.up i (h.up i hi)⟩
theorem set_getD (m : List Bool) (i j : Nat) (hi : i < m.length) : (m.set i true).getD j false = true ↔ (j = i ∨ m.getD j false = true) := by
  rw [List.getD_eq_getElem?_getD, List.getElem?_set, List.getD_eq_getElem?_getD]
  by_cases h : i = j
  · subst h; simp [hi]
  · rw [if_neg h]; simp [Ne.symm h]
theorem there_kind {lc : List Cel} {p : Int} (h : isThere lc p = true) : (lc.getD p.toNat ⟨0, []⟩).f0 ≠ 0 := (there_in h).2.2
theorem touch_ok {lc : List Cel} {room : Int} {x : MS} (hB : Bs lc room x) (hr : room ≤ 256) {i : Int} (hi : isThere lc i = true) : ∃ y r, MS.touch room x i = some (y, r) ∧ Bs lc room y ∧ Like x y ∧ y.marks.getD i.toNat false = true := by
  obtain ⟨i0, i1, i2⟩ := there_in hi
  have hlt : i.toNat < x.marks.length := by rw [hB.ml]; omega
  have hsl := hB.sl
  unfold MS.touch
  rw [if_pos ⟨i0, by rw [hB.ml]; exact i1, by omega⟩]
  have hup : ∀ j : Nat, x.marks.getD j false = true → (x.marks.set i.toNat true).getD j false = true := fun j hj => (set_getD _ _ _ hlt).2 (.inr hj)
  have hmk : ∀ j : Nat, (x.marks.set i.toNat true).getD j false = true → (lc.getD j ⟨0, []⟩).f0 ≠ 0 := fun j hj => by
    rcases (set_getD _ _ _ hlt).1 hj with rfl | h
    · exact there_kind hi
    · exact hB.kd j h
  have hst : ∀ j ∈ x.stack, isThere lc j = true ∧ rdOf false (x.marks.set i.toNat true) j = true := fun j hj => ⟨(hB.stk j hj).1, hup _ (hB.stk j hj).2⟩
  have hself : (x.marks.set i.toNat true).getD i.toNat false = true := (set_getD _ _ _ hlt).2 (.inl rfl)
  by_cases hm : rdOf false x.marks i = true
  · rw [if_pos hm]
    exact ⟨x, false, rfl, hB, Like.refl x, hm⟩
  · rw [if_neg hm]
    by_cases hs : (x.stack.length : Int) < room
    · rw [if_pos hs]
      refine ⟨_, true, rfl, ⟨by simpa using hB.ml, by rw [List.length_append, List.length_singleton]; omega, hmk, fun j hj => ?_, ?_⟩, ⟨rfl, rfl, rfl, rfl, hup⟩, hself⟩
      · rcases List.mem_append.1 hj with h | h
        · exact hst j h
        · rw [List.mem_singleton.1 h]; exact ⟨hi, hself⟩
      · rw [List.nodup_append]
        refine ⟨hB.nd, by simp, fun a ha b hb e => ?_⟩
        rw [List.mem_singleton.1 hb] at e
        rw [e] at ha
        exact hm (hB.stk i ha).2
    · rw [if_neg hs]
      exact ⟨_, true, rfl, ⟨by simpa using hB.ml, hB.sl, hmk, hst, hB.nd⟩, ⟨rfl, rfl, rfl, rfl, hup⟩, hself⟩
theorem touches_ok {lc : List Cel} {room : Int} (hr : room ≤ 256) : ∀ (l : List Int) (x : MS) (b : Bool), Bs lc room x → (∀ p ∈ l, isThere lc p = true) → ∃ y r, MS.touches room l x b = some (y, r) ∧ Bs lc room y ∧ Like x y ∧ (∀ p ∈ l, y.marks.getD p.toNat false = true)
  | [], x, b, hB, hl => ⟨x, b, rfl, hB, Like.refl x, fun p hp => by cases hp⟩
  | p :: l, x, b, hB, hl => by
    obtain ⟨y, r, h1, h2, h3, h4⟩ := touch_ok hB hr (hl p List.mem_cons_self)
    obtain ⟨z, r2, g1, g2, g3, g4⟩ := touches_ok hr l y (b || r) h2 (fun q hq => hl q (List.mem_cons_of_mem _ hq))
    refine ⟨z, r2, ?_, g2, h3.trans g3, fun q hq => ?_⟩
    · rw [MS.touches, h1, Option.bind_some]; exact g1
    · rcases List.mem_cons.1 hq with rfl | hq
      · exact g3.up _ h4
      · exact g4 q hq
theorem touch_same {room : Int} {x y : MS} {i : Int} (h : MS.touch room x i = some (y, false)) : y = x := by
  unfold MS.touch at h
  split at h
  · split at h
    · cases h; rfl
    · split at h <;> cases h
  · cases h
theorem touches_same {room : Int} : ∀ {l : List Int} {x y : MS} {b : Bool}, MS.touches room l x b = some (y, false) → y = x ∧ b = false
  | [], x, y, b, h => by cases h; exact ⟨rfl, rfl⟩
  | p :: l, x, y, b, h => by
    obtain ⟨⟨z, r⟩, h1, h2⟩ := Option.bind_eq_some_iff.1 h
    obtain ⟨e1, e2⟩ := touches_same h2
    simp only [Bool.or_eq_false_iff] at e2
    rw [e2.2] at h1
    exact ⟨e1.trans (touch_same h1), e2.1⟩
/-- Rounds enough for what counts of each cell. -/
def Kc (lc : List Cel) (k : Nat) : Prop := ∀ c ∈ lc, c.f1.length < k ∧ c.f1.length < 17592186044416
theorem from_ok {lc : List Cel} {lr : List Int} {room : Int} {k : Nat} (hv : viewB lc lr = true) (hk : Kc lc k) (hr : room ≤ 256) {x : MS} (hB : Bs lc room x) (i : Nat) (hi : i < lc.length) :
    ∃ y r, MS.from_ (fun m j => mark_counts.f k lc lr m j) room x (i : Int) = some (y, r) ∧ MS.touches room (cnt lc x.marks i) x false = some (y, r) ∧ Bs lc room y ∧ Like x y ∧ ∀ p ∈ cnt lc x.marks i, y.marks.getD p.toNat false = true := by
  obtain ⟨k1, k2⟩ := hk _ (List.getElem_mem hi)
  obtain ⟨y, r, h1, h2, h3, h4⟩ := touches_ok hr (cnt lc x.marks i) x false hB (cnt_there hv x.marks i)
  refine ⟨y, r, ?_, h1, h2, h3, h4⟩
  unfold MS.from_
  show (mark_counts.f k lc lr x.marks (i : Int)).bind _ = _
  rw [counts_f lc lr x.marks i k hi hB.ml hv k2 k1, Option.bind_some]
  exact h1
/-- A state that may be. -/
structure Ok (lc : List Cel) (lr : List Int) (room : Int) (x : MS) : Prop where
  bs : Bs lc room x
  r0 : 1 ≤ room
  r1 : room ≤ 256
  a0 : 0 ≤ x.at_
  a1 : x.at_ ≤ furth lc lr x.ph x.scan
  idle : x.ph = 2 ∨ x.ph = 3 → x.stack = []
  sc : x.scan = true → x.ph = 1
theorem Bs.take {lc : List Cel} {room : Int} {x : MS} (h : Bs lc room x) (n : Nat) : Bs lc room { x with stack := x.stack.take n } :=
  ⟨h.ml, by have := h.sl; have : (x.stack.take n).length ≤ x.stack.length := List.length_take_le' n x.stack; show ((x.stack.take n).length : Int) ≤ room; omega, h.kd, fun i hi => h.stk i (List.mem_of_mem_take hi), h.nd.sublist (List.take_sublist _ _)⟩
theorem unit_ok {lc : List Cel} {lr : List Int} {room : Int} {k : Nat} (hv : viewB lc lr = true) (hk : Kc lc k) {x : MS} (hO : Ok lc lr room x) :
    ∃ y, MS.unit (fun m j => mark_counts.f k lc lr m j) (fun m => pairedL lc m) lc.length lr room x = some y ∧ Ok lc lr room y := by
  obtain ⟨hB, r0, r1, a0, a1, idle, sc⟩ := hO
  obtain ⟨v1, v2, v3⟩ := view_in hv
  unfold MS.unit
  by_cases h0 : x.ph = 0
  · rw [if_pos h0]
    have hsc : x.scan = false := by cases h : x.scan with | false => rfl | true => have := sc h; omega
    have a1' : x.at_ ≤ (lr.length : Int) := by unfold furth at a1; rw [if_pos h0] at a1; exact a1
    unfold MS.roots
    by_cases h1 : x.at_ = (lr.length : Int)
    · rw [if_pos h1]
      refine ⟨_, rfl, ⟨hB.ml, hB.sl, hB.kd, hB.stk, hB.nd⟩, r0, r1, by simp, ?_, by simp, by simp⟩
      show (0 : Int) ≤ furth lc lr 1 x.scan
      rw [hsc]; simp [furth]
    · rw [if_neg h1, if_pos ⟨a0, by omega⟩]
      have hlt : x.at_.toNat < lr.length := by omega
      have ht : isThere lc (rd lr x.at_) = true := v3 _ (by
        rw [show rd lr x.at_ = lr[x.at_.toNat] from by simp [rd, hlt]]; exact List.getElem_mem hlt)
      obtain ⟨y, r, g1, g2, g3, g4⟩ := touch_ok hB r1 ht
      rw [g1, Option.bind_some]
      refine ⟨_, rfl, ⟨g2.ml, g2.sl, g2.kd, g2.stk, g2.nd⟩, r0, r1, ?_, ?_, ?_, ?_⟩
      · show 0 ≤ y.at_ + 1; rw [g3.at_]; omega
      · show y.at_ + 1 ≤ furth lc lr y.ph y.scan; rw [g3.at_, g3.ph, furth, if_pos h0]; omega
      · show y.ph = 2 ∨ y.ph = 3 → _; rw [g3.ph, h0]; intro h; omega
      · show y.scan = true → y.ph = 1; rw [g3.scan, hsc]; intro h; cases h
  · rw [if_neg h0]
    by_cases h1 : x.ph = 1
    · rw [if_pos h1]
      unfold MS.drain
      by_cases hs : 0 < x.stack.length
      · rw [if_pos hs]
        have hlt : x.stack.length - 1 < x.stack.length := by omega
        have hmem : rd x.stack ((x.stack.length : Int) - 1) ∈ x.stack := by
          rw [show ((x.stack.length : Int) - 1) = ((x.stack.length - 1 : Nat) : Int) from by omega, rd_in _ _ hlt]; exact List.getElem_mem hlt
        obtain ⟨t1, t2, _⟩ := there_in (hB.stk _ hmem).1
        obtain ⟨i, hi⟩ : ∃ i : Nat, rd x.stack ((x.stack.length : Int) - 1) = (i : Int) := ⟨(rd x.stack ((x.stack.length : Int) - 1)).toNat, by omega⟩
        obtain ⟨y, r, g1, _, g2, g3, g4⟩ := from_ok hv hk r1 (hB.take (x.stack.length - 1)) i (by omega)
        rw [hi, g1, Option.bind_some]
        refine ⟨y, rfl, g2, r0, r1, ?_, ?_, ?_, ?_⟩
        · rw [g3.at_]; exact a0
        · rw [g3.at_, g3.ph, g3.scan]; exact a1
        · rw [g3.ph]; intro h; have : x.ph = 2 ∨ x.ph = 3 := h; omega
        · rw [g3.scan, g3.ph]; exact sc
      · rw [if_neg hs]
        have hnil : x.stack = [] := List.eq_nil_of_length_eq_zero (by omega)
        by_cases hc : x.scan = true
        · rw [if_pos hc]
          refine ⟨_, rfl, ⟨hB.ml, hB.sl, hB.kd, hB.stk, hB.nd⟩, r0, r1, a0, ?_, fun _ => hnil, by simp⟩
          show x.at_ ≤ furth lc lr 2 false
          rw [furth, if_neg h0, if_pos h1, if_pos hc] at a1
          simpa [furth] using a1
        · rw [if_neg hc]
          have done2 : ∀ (o a : Bool), Ok lc lr room { x with ph := 2, at_ := 0, over := o, again := a } := fun o a => ⟨⟨hB.ml, hB.sl, hB.kd, hB.stk, hB.nd⟩, r0, r1, Int.le_refl _, by show (0 : Int) ≤ furth lc lr 2 x.scan; simp [furth], fun _ => hnil, fun h => absurd h hc⟩
          by_cases ho : x.over = true
          · rw [if_pos ho]; exact ⟨_, rfl, done2 _ _⟩
          · rw [if_neg ho]
            have hp : pairedL lc x.marks = some (pairedL.go lc x.marks 0) := by rw [pairedL, if_pos (by rw [hB.ml]; exact Nat.le_refl _)]
            simp only [hp, Option.bind_some]
            split
            · exact ⟨_, rfl, done2 _ _⟩
            · refine ⟨_, rfl, ⟨hB.ml, hB.sl, hB.kd, hB.stk, hB.nd⟩, r0, r1, a0, ?_, fun _ => hnil, fun h => absurd h hc⟩
              show x.at_ ≤ furth lc lr 3 x.scan
              rw [furth, if_neg h0, if_pos h1, if_neg hc] at a1
              simpa [furth] using a1
    · rw [if_neg h1]
      by_cases h2 : x.ph = 2
      · rw [if_pos h2]
        have hsc : x.scan = false := by cases h : x.scan with | false => rfl | true => have := sc h; omega
        have hnil := idle (.inl h2)
        rw [furth, if_neg h0, if_neg h1, if_pos h2] at a1
        unfold MS.scan_
        by_cases hn : x.at_ < (lc.length : Int)
        · rw [if_pos hn, if_pos ⟨a0, by rw [hB.ml]; exact hn⟩]
          obtain ⟨i, hi⟩ : ∃ i : Nat, x.at_ = (i : Int) := ⟨x.at_.toNat, by omega⟩
          split
          · obtain ⟨y, r, g1, g0, g2, g3, g4⟩ := from_ok (x := { x with at_ := x.at_ + 1 }) hv hk r1 ⟨hB.ml, hB.sl, hB.kd, hB.stk, hB.nd⟩ i (by omega)
            rw [hi] at g1 ⊢
            rw [g1, Option.bind_some]
            have e1 : y.at_ = (i : Int) + 1 := by rw [g3.at_]; show x.at_ + 1 = _; rw [hi]
            split
            · refine ⟨_, rfl, ⟨g2.ml, g2.sl, g2.kd, g2.stk, g2.nd⟩, r0, r1, ?_, ?_, by simp, by simp⟩
              · show 0 ≤ y.at_; omega
              · show y.at_ ≤ furth lc lr 1 true; rw [e1]; simp [furth]; omega
            · rename_i hr
              have hr' : r = false := by cases r with | false => rfl | true => exact absurd rfl hr
              rw [hr'] at g0
              have e := (touches_same g0).1
              refine ⟨_, rfl, g2, r0, r1, ?_, ?_, ?_, ?_⟩
              · show 0 ≤ y.at_; omega
              · show y.at_ ≤ furth lc lr y.ph y.scan; rw [e1, e]; show (i : Int) + 1 ≤ furth lc lr x.ph x.scan; rw [furth, if_neg h0, if_neg h1, if_pos h2]; omega
              · rw [e]; exact fun _ => hnil
              · rw [e]; exact sc
          · refine ⟨_, rfl, ⟨hB.ml, hB.sl, hB.kd, hB.stk, hB.nd⟩, r0, r1, ?_, ?_, fun _ => hnil, sc⟩
            · show 0 ≤ x.at_ + 1; omega
            · show x.at_ + 1 ≤ furth lc lr x.ph x.scan; rw [furth, if_neg h0, if_neg h1, if_pos h2]; omega
        · rw [if_neg hn]
          split
          · exact ⟨_, rfl, ⟨hB.ml, hB.sl, hB.kd, hB.stk, hB.nd⟩, r0, r1, Int.le_refl _, by show (0 : Int) ≤ furth lc lr 3 x.scan; simp [furth], fun _ => hnil, fun h => by rw [hsc] at h; cases h⟩
          · exact ⟨_, rfl, ⟨hB.ml, hB.sl, hB.kd, hB.stk, hB.nd⟩, r0, r1, Int.le_refl _, by show (0 : Int) ≤ furth lc lr x.ph x.scan; rw [furth, if_neg h0, if_neg h1, if_pos h2]; omega, fun _ => hnil, fun h => by rw [hsc] at h; cases h⟩
      · rw [if_neg h2]
        exact ⟨x, rfl, hB, r0, r1, a0, a1, idle, sc⟩
end Go.Proofs.Ytnmpmjbkelogaaa.Pure
