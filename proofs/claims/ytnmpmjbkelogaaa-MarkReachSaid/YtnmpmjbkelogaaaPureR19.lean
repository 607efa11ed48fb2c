/- What is reached: marks stay in what is closed; what a state has done; how many units are left. -/
import Derived.Test.YtnmpmjbkelogaaaPrint
import Derived.Test.YtnmpmjbkelogaaaPureC19
namespace Go.Proofs.Ytnmpmjbkelogaaa.Pure
open Go.RowKit Go.Proofs.Ytnmpmjbkelogaaa.Print Go.Proofs.YtnmpmjbkelogaaaW.PrintWords Go.Proofs.YtnmpmjbkelogaaaW.PrintMore
set_option linter.unusedSimpArgs false
set_option linter.unusedVariables false

abbrev on (m : List Bool) (i : Nat) : Prop := m.getD i false = true
def Sub (m M : List Bool) : Prop := ∀ i : Nat, on m i → on M i
def Fine (lc : List Cel) (m : List Bool) (i : Nat) : Prop := ∀ p ∈ cnt lc m i, on m p.toNat
def Closed (lc : List Cel) (M : List Bool) : Prop := ∀ i : Nat, i < lc.length → on M i → Fine lc M i
def Roots (lr : List Int) (M : List Bool) : Prop := ∀ r ∈ lr, on M r.toNat
theorem cnt_mono {lc : List Cel} {m M : List Bool} (h : Sub m M) {i : Nat} (hi : i < lc.length) : ∀ p ∈ cnt lc m i, p ∈ cnt lc M i := by
  intro p hp
  rw [cnt_in lc m i hi] at hp
  rw [cnt_in lc M i hi]
  by_cases h2 : lc[i].f0 = 2
  · rw [if_pos h2] at hp; cases hp
  · rw [if_neg h2] at hp ⊢
    by_cases h3 : lc[i].f0 = 3
    · rw [if_pos h3] at hp ⊢
      cases hc : lc[i].f1 with
      | nil => rw [hc] at hp; cases hp
      | cons key r =>
        rw [hc] at hp
        simp only at hp ⊢
        by_cases hk : key = -1 ∨ m.getD key.toNat false = false
        · rw [if_pos hk] at hp; cases hp
        · rw [if_neg hk] at hp
          have : ¬ (key = -1 ∨ M.getD key.toNat false = false) := fun hn => by
            rcases hn with hn | hn
            · exact hk (.inl hn)
            · have hm : on m key.toNat := by cases hb : m.getD key.toNat false with | true => exact hb | false => exact absurd (.inr hb) hk
              rw [h _ hm] at hn; cases hn
          rw [if_neg this]; exact hp
    · rw [if_neg h3] at hp ⊢; exact hp
theorem cnt_plain {lc : List Cel} {m M : List Bool} {i : Nat} (hi : i < lc.length) (h3 : lc[i].f0 ≠ 3) : cnt lc m i = cnt lc M i := by
  rw [cnt_in lc m i hi, cnt_in lc M i hi, if_neg h3, if_neg h3]
theorem touch_sub {room : Int} {x y : MS} {i : Int} {r : Bool} {M : List Bool} (h : MS.touch room x i = some (y, r)) (hM : on M i.toNat) (hs : Sub x.marks M) : Sub y.marks M := by
  unfold MS.touch at h
  by_cases h0 : 0 ≤ i ∧ i < (x.marks.length : Int) ∧ x.stack.length < 1000
  · rw [if_pos h0] at h
    have hset : Sub (x.marks.set i.toNat true) M := fun j hj => by
      rcases (set_getD x.marks i.toNat j (by omega)).1 hj with rfl | hj
      · exact hM
      · exact hs j hj
    split at h
    · cases h; exact hs
    · split at h <;> (cases h; exact hset)
  · rw [if_neg h0] at h; cases h
theorem touches_sub {room : Int} {M : List Bool} : ∀ {l : List Int} {x y : MS} {b r : Bool}, MS.touches room l x b = some (y, r) → (∀ p ∈ l, on M p.toNat) → Sub x.marks M → Sub y.marks M
  | [], x, y, b, r, h, _, hs => by cases h; exact hs
  | p :: l, x, y, b, r, h, hM, hs => by
    obtain ⟨⟨z, r1⟩, h1, h2⟩ := Option.bind_eq_some_iff.1 h
    exact touches_sub h2 (fun q hq => hM q (List.mem_cons_of_mem _ hq)) (touch_sub h1 (hM p List.mem_cons_self) hs)
theorem paired_false (lc : List Cel) : ∀ (m : List Bool) (j : Nat), pairedL.go lc m j = false ↔ ∀ i, on m i → (lc.getD (j + i) ⟨0, []⟩).f0 ≠ 3
  | [], j => ⟨fun _ i h => by simp [on] at h, fun _ => rfl⟩
  | b :: m, j => by
    rw [pairedL.go, Bool.or_eq_false_iff, paired_false lc m (j + 1)]
    have e : (rd_T56 lc (j : Int)).f0 = (lc.getD j ⟨0, []⟩).f0 := rfl
    rw [e]
    constructor
    · rintro ⟨h1, h2⟩ i hi
      cases i with
      | zero =>
        have hi : b = true := hi
        rw [hi, Bool.true_and] at h1
        exact of_decide_eq_false h1
      | succ i =>
        have := h2 i hi
        rwa [show j + 1 + i = j + (i + 1) from by omega] at this
    · intro h
      refine ⟨?_, fun i hi => ?_⟩
      · cases b with
        | false => rfl
        | true => rw [Bool.true_and]; exact decide_eq_false (h 0 rfl)
      · have := h (i + 1) hi
        rwa [show j + (i + 1) = j + 1 + i from by omega] at this
/-- A unit, way by way: what follows of a state that may be. -/
inductive Way (lc : List Cel) (lr : List Int) (room : Int) (x : MS) : MS → Prop
  | rootsEnd (h : x.ph = 0) (ha : x.at_ = (lr.length : Int)) : Way lc lr room x { x with ph := 1, at_ := 0 }
  | root (h : x.ph = 0) (ha : 0 ≤ x.at_ ∧ x.at_ < (lr.length : Int)) (y : MS) (r : Bool) (ht : MS.touch room x (rd lr x.at_) = some (y, r)) : Way lc lr room x { y with at_ := y.at_ + 1 }
  | pop (h : x.ph = 1) (hs : 0 < x.stack.length) (i : Nat) (hi : rd x.stack ((x.stack.length : Int) - 1) = (i : Int)) (hl : i < lc.length) (y : MS) (r : Bool) (ht : MS.touches room (cnt lc x.marks i) { x with stack := x.stack.take (x.stack.length - 1) } false = some (y, r)) : Way lc lr room x y
  | back (h : x.ph = 1) (hs : x.stack = []) (hc : x.scan = true) : Way lc lr room x { x with ph := 2, scan := false }
  | scans (h : x.ph = 1) (hs : x.stack = []) (hc : x.scan = false) : Way lc lr room x { x with ph := 2, at_ := 0, over := false, again := false }
  | drained (h : x.ph = 1) (hs : x.stack = []) (hc : x.scan = false) (ho : x.over = false) (hp : pairedL.go lc x.marks 0 = false) : Way lc lr room x { x with ph := 3 }
  | cellOff (h : x.ph = 2) (i : Nat) (hi : x.at_ = (i : Int)) (hl : i < lc.length) (hm : x.marks.getD i false = false) : Way lc lr room x { x with at_ := x.at_ + 1 }
  | cellSame (h : x.ph = 2) (i : Nat) (hi : x.at_ = (i : Int)) (hl : i < lc.length) (hm : on x.marks i) (ht : MS.touches room (cnt lc x.marks i) { x with at_ := x.at_ + 1 } false = some ({ x with at_ := x.at_ + 1 }, false)) : Way lc lr room x { x with at_ := x.at_ + 1 }
  | cellMore (h : x.ph = 2) (i : Nat) (hi : x.at_ = (i : Int)) (hl : i < lc.length) (hm : on x.marks i) (y : MS) (ht : MS.touches room (cnt lc x.marks i) { x with at_ := x.at_ + 1 } false = some (y, true)) : Way lc lr room x { y with again := true, scan := true, ph := 1 }
  | passDone (h : x.ph = 2) (ha : x.at_ = (lc.length : Int)) (h1 : x.again = false) (h2 : x.over = false) : Way lc lr room x { x with ph := 3, at_ := 0, again := false, over := false }
  | passMore (h : x.ph = 2) (ha : x.at_ = (lc.length : Int)) (h1 : x.again = true ∨ x.over = true) : Way lc lr room x { x with at_ := 0, again := false, over := false }
theorem way {lc : List Cel} {lr : List Int} {room : Int} {k : Nat} (hv : viewB lc lr = true) (hk : Kc lc k) {x : MS} (hO : Ok lc lr room x) (h3 : x.ph ≠ 3) : Way lc lr room x (un lc lr room k x) := by
  obtain ⟨hB, r0, r1, a0, a1, idle, sc⟩ := id hO
  obtain ⟨e, _⟩ := un_ok hv hk hO
  generalize un lc lr room k x = y at e ⊢
  unfold MS.unit at e
  by_cases p0 : x.ph = 0
  · rw [if_pos p0] at e
    unfold MS.roots at e
    by_cases q : x.at_ = (lr.length : Int)
    · rw [if_pos q] at e; cases e; exact .rootsEnd p0 q
    · rw [if_neg q] at e
      by_cases q2 : 0 ≤ x.at_ ∧ x.at_ < (lr.length : Int)
      · rw [if_pos q2] at e
        obtain ⟨⟨z, r⟩, e1, e2⟩ := Option.bind_eq_some_iff.1 e
        cases e2
        exact .root p0 q2 z r e1
      · rw [if_neg q2] at e; cases e
  · rw [if_neg p0] at e
    by_cases p1 : x.ph = 1
    · rw [if_pos p1] at e
      unfold MS.drain at e
      by_cases hs : 0 < x.stack.length
      · rw [if_pos hs] at e
        have hlt : x.stack.length - 1 < x.stack.length := by omega
        have hmem : rd x.stack ((x.stack.length : Int) - 1) ∈ x.stack := by
          rw [show ((x.stack.length : Int) - 1) = ((x.stack.length - 1 : Nat) : Int) from by omega, rd_in _ _ hlt]; exact List.getElem_mem hlt
        obtain ⟨t1, t2, _⟩ := there_in (hB.stk _ hmem).1
        obtain ⟨i, hi⟩ : ∃ i : Nat, rd x.stack ((x.stack.length : Int) - 1) = (i : Int) := ⟨(rd x.stack ((x.stack.length : Int) - 1)).toNat, by omega⟩
        obtain ⟨z, r, g1, g0, _⟩ := from_ok hv hk r1 (hB.take (x.stack.length - 1)) i (by omega)
        rw [hi, g1, Option.bind_some] at e
        cases e
        exact .pop p1 hs i hi (by omega) z r g0
      · rw [if_neg hs] at e
        have hnil : x.stack = [] := List.eq_nil_of_length_eq_zero (by omega)
        by_cases hc : x.scan = true
        · rw [if_pos hc] at e; cases e; exact .back p1 hnil hc
        · have hc' : x.scan = false := by cases h : x.scan with | false => rfl | true => exact absurd h hc
          rw [if_neg hc] at e
          by_cases ho : x.over = true
          · rw [if_pos ho] at e; cases e; exact .scans p1 hnil hc'
          · have ho' : x.over = false := by cases h : x.over with | false => rfl | true => exact absurd h ho
            have hp : pairedL lc x.marks = some (pairedL.go lc x.marks 0) := by rw [pairedL, if_pos (by rw [hB.ml]; exact Nat.le_refl _)]
            rw [if_neg ho] at e
            simp only [hp, Option.bind_some] at e
            cases hg : pairedL.go lc x.marks 0 with
            | true => rw [hg, if_pos rfl] at e; cases e; exact .scans p1 hnil hc'
            | false => rw [hg, if_neg Bool.false_ne_true] at e; cases e; exact .drained p1 hnil hc' ho' hg
    · rw [if_neg p1] at e
      by_cases p2 : x.ph = 2
      · rw [if_pos p2] at e
        unfold MS.scan_ at e
        rw [furth, if_neg p0, if_neg p1, if_pos p2] at a1
        obtain ⟨i, hi⟩ : ∃ i : Nat, x.at_ = (i : Int) := ⟨x.at_.toNat, by omega⟩
        by_cases hn : x.at_ < (lc.length : Int)
        · rw [if_pos hn, if_pos ⟨a0, by rw [hB.ml]; exact hn⟩] at e
          have hrd : rdOf false x.marks x.at_ = x.marks.getD i false := by rw [hi]; rfl
          cases hm : x.marks.getD i false with
          | false => rw [hrd, hm, if_neg Bool.false_ne_true] at e; cases e; exact .cellOff p2 i hi (by omega) hm
          | true =>
            rw [hrd, hm, if_pos rfl] at e
            obtain ⟨z, r, g1, g0, _⟩ := from_ok (x := { x with at_ := x.at_ + 1 }) hv hk r1 ⟨hB.ml, hB.sl, hB.kd, hB.stk, hB.nd⟩ i (by omega)
            have g1' : MS.from_ (fun m j => mark_counts.f k lc lr m j) room { x with at_ := x.at_ + 1 } x.at_ = some (z, r) := by rw [← g1, hi]
            rw [g1', Option.bind_some] at e
            cases r with
            | true => rw [if_pos rfl] at e; cases e; exact .cellMore p2 i hi (by omega) hm z g0
            | false =>
              rw [if_neg (show ¬ ((z, false).2 = true) from Bool.false_ne_true)] at e
              cases e
              have := (touches_same g0).1
              rw [this] at g0 ⊢
              exact .cellSame p2 i hi (by omega) hm g0
        · rw [if_neg hn] at e
          have ha : x.at_ = (lc.length : Int) := by omega
          by_cases hq : x.again = false ∧ x.over = false
          · rw [if_pos hq] at e; cases e; exact .passDone p2 ha hq.1 hq.2
          · rw [if_neg hq] at e; cases e
            refine .passMore p2 ha ?_
            cases ha2 : x.again with
            | true => exact .inl rfl
            | false => cases ho2 : x.over with | true => exact .inr rfl | false => exact absurd ⟨ha2, ho2⟩ hq
      · have : x.ph = 3 := by
          have hf : furth lc lr x.ph x.scan < 0 ∨ x.ph = 3 := by
            unfold furth
            rw [if_neg p0, if_neg p1, if_neg p2]
            by_cases p3 : x.ph = 3
            · exact .inr p3
            · rw [if_neg p3]; exact .inl (by omega)
          rcases hf with hf | hf
          · omega
          · exact hf
        exact absurd this h3
end Go.Proofs.Ytnmpmjbkelogaaa.Pure
