/- How many units are left at most. -/
import Derived.Test.YtnmpmjbkelogaaaPrint
import Derived.Test.YtnmpmjbkelogaaaPureI19
namespace Go.Proofs.Ytnmpmjbkelogaaa.Pure
open Go.RowKit Go.Proofs.Ytnmpmjbkelogaaa.Print Go.Proofs.YtnmpmjbkelogaaaW.PrintWords Go.Proofs.YtnmpmjbkelogaaaW.PrintMore
set_option linter.unusedSimpArgs false
set_option linter.unusedVariables false

def unm : List Bool → Nat
  | [] => 0
  | b :: m => (if b = true then 0 else 1) + unm m
theorem unm_le : ∀ m : List Bool, unm m ≤ m.length
  | [] => Nat.le_refl _
  | b :: m => by rw [unm, List.length_cons]; have := unm_le m; split <;> omega
theorem unm_set : ∀ (m : List Bool) (i : Nat), i < m.length → m.getD i false = false → unm (m.set i true) + 1 = unm m
  | b :: m, 0, _, h => by
    have h : b = false := h
    subst h
    rw [List.set_cons_zero, unm, unm, if_pos rfl, if_neg Bool.false_ne_true]; omega
  | b :: m, i + 1, hi, h => by
    rw [List.set_cons_succ, unm, unm]
    have := unm_set m i (by simpa using hi) h
    omega
theorem touch_unm {room : Int} {x y : MS} {p : Int} {r : Bool} (h : MS.touch room x p = some (y, r)) : ∃ d, unm x.marks = unm y.marks + d ∧ y.stack.length ≤ x.stack.length + d ∧ (r = true → d = 1) := by
  unfold MS.touch at h
  by_cases h0 : 0 ≤ p ∧ p < (x.marks.length : Int) ∧ x.stack.length < 1000
  · rw [if_pos h0] at h
    by_cases hm : rdOf false x.marks p = true
    · rw [if_pos hm] at h; cases h; exact ⟨0, rfl, Nat.le_refl _, fun h => by cases h⟩
    · rw [if_neg hm] at h
      have hf : x.marks.getD p.toNat false = false := by cases hb : x.marks.getD p.toNat false with | false => rfl | true => exact absurd hb hm
      have := unm_set x.marks p.toNat (by omega) hf
      split at h
      · cases h; exact ⟨1, this.symm, by simp, fun _ => rfl⟩
      · cases h; exact ⟨1, this.symm, by simp, fun _ => rfl⟩
  · rw [if_neg h0] at h; cases h
theorem touches_unm {room : Int} : ∀ {l : List Int} {x y : MS} {b r : Bool}, MS.touches room l x b = some (y, r) → ∃ d, unm x.marks = unm y.marks + d ∧ y.stack.length ≤ x.stack.length + d ∧ (r = true → b = true ∨ 1 ≤ d)
  | [], x, y, b, r, h => by cases h; exact ⟨0, rfl, Nat.le_refl _, fun h => .inl h⟩
  | p :: l, x, y, b, r, h => by
    obtain ⟨⟨z, r1⟩, h1, h2⟩ := Option.bind_eq_some_iff.1 h
    obtain ⟨d1, a1, a2, a3⟩ := touch_unm h1
    obtain ⟨d2, b1, b2, b3⟩ := touches_unm h2
    have b1 : unm z.marks = unm y.marks + d2 := b1
    have b2 : y.stack.length ≤ z.stack.length + d2 := b2
    refine ⟨d1 + d2, by omega, by omega, fun hr => ?_⟩
    rcases b3 hr with hb | hb
    · rcases (Bool.or_eq_true _ _).mp hb with hb | hb
      · exact .inl hb
      · have := a3 hb; exact .inr (by omega)
    · exact .inr (by omega)
/-- Units that are left at most. -/
def Phi (n R : Nat) (x : MS) : Nat :=
  if x.ph = 3 then 0
  else if x.ph = 0 then (R - x.at_.toNat) + 1 + x.stack.length + 1 + (n + 1) + unm x.marks * (n + 3)
  else if x.ph = 1 then (if x.scan = true then x.stack.length + 1 + (n + 1 - x.at_.toNat) + (n + 1) + unm x.marks * (n + 3) else x.stack.length + 1 + (n + 1) + unm x.marks * (n + 3))
  else (n + 1 - x.at_.toNat) + (if x.again = true ∨ x.over = true then n + 1 else 0) + unm x.marks * (n + 3)
theorem phi0 {n R : Nat} {x : MS} (h : x.ph = 0) : Phi n R x = (R - x.at_.toNat) + 1 + x.stack.length + 1 + (n + 1) + unm x.marks * (n + 3) := by rw [Phi, if_neg (by omega), if_pos h]
theorem phi1 {n R : Nat} {x : MS} (h : x.ph = 1) (hs : x.scan = false) : Phi n R x = x.stack.length + 1 + (n + 1) + unm x.marks * (n + 3) := by rw [Phi, if_neg (by omega), if_neg (by omega), if_pos h, if_neg (by rw [hs]; exact Bool.false_ne_true)]
theorem phi1s {n R : Nat} {x : MS} (h : x.ph = 1) (hs : x.scan = true) : Phi n R x = x.stack.length + 1 + (n + 1 - x.at_.toNat) + (n + 1) + unm x.marks * (n + 3) := by rw [Phi, if_neg (by omega), if_neg (by omega), if_pos h, if_pos hs]
theorem phi2 {n R : Nat} {x : MS} (h : x.ph = 2) : Phi n R x = (n + 1 - x.at_.toNat) + (if x.again = true ∨ x.over = true then n + 1 else 0) + unm x.marks * (n + 3) := by rw [Phi, if_neg (by omega), if_neg (by omega), if_neg (by omega)]
theorem phi3 {n R : Nat} {x : MS} (h : x.ph = 3) : Phi n R x = 0 := by rw [Phi, if_pos h]
theorem phi_way {lc : List Cel} {lr : List Int} {room : Int} (hv : viewB lc lr = true) {x y : MS} (hO : Ok lc lr room x) (hI : Inv lc lr x) (hw : Way lc lr room x y) : Phi lc.length lr.length y + 1 ≤ Phi lc.length lr.length x := by
  obtain ⟨v1, v2, v3⟩ := view_in hv
  have mulS : ∀ a d : Nat, (a + d) * (lc.length + 3) = a * (lc.length + 3) + d * (lc.length + 3) := fun a d => Nat.add_mul _ _ _
  have ge1 : ∀ d : Nat, d ≤ d * (lc.length + 3) := fun d => Nat.le_mul_of_pos_right d (by omega)
  cases hw with
  | rootsEnd h ha =>
    have hs : x.scan = false := by cases hb : x.scan with | false => rfl | true => have := hO.sc hb; omega
    rw [phi0 h, phi1 (x := { x with ph := 1, at_ := 0 }) rfl hs]
    show x.stack.length + 1 + (lc.length + 1) + unm x.marks * (lc.length + 3) + 1 ≤ _
    omega
  | root h ha z r ht =>
    have hlt : x.at_.toNat < lr.length := by omega
    obtain ⟨z', r', g1, g2, g3, g4⟩ := touch_ok hO.bs hO.r1 (i := rd lr x.at_) (v3 _ (by
      rw [show rd lr x.at_ = lr[x.at_.toNat] from by simp [rd, hlt]]; exact List.getElem_mem hlt))
    rw [ht] at g1
    cases g1
    obtain ⟨d, d1, d2, _⟩ := touch_unm ht
    rw [phi0 h, phi0 (x := { z with at_ := z.at_ + 1 }) (by show z.ph = 0; rw [g3.ph]; exact h), d1, mulS]
    show (lr.length - (z.at_ + 1).toNat) + 1 + z.stack.length + 1 + (lc.length + 1) + unm z.marks * (lc.length + 3) + 1 ≤ _
    have := ge1 d
    rw [g3.at_]
    omega
  | pop h hs i hi hl _ r ht =>
    obtain ⟨g2, g3, g4⟩ := touches_like (lr := lr) hO.r1 (hO.bs.take _) (cnt_there hv x.marks i) ht
    obtain ⟨d, d1, d2, _⟩ := touches_unm ht
    have d1 : unm x.marks = unm y.marks + d := d1
    have d2 : y.stack.length ≤ (x.stack.take (x.stack.length - 1)).length + d := d2
    have hl2 : (x.stack.take (x.stack.length - 1)).length = x.stack.length - 1 := by rw [List.length_take]; omega
    have hp : y.ph = 1 := by rw [g3.ph]; exact h
    have := ge1 d
    have ea : y.at_ = x.at_ := g3.at_
    cases hsc : x.scan with
    | true =>
      rw [phi1s h hsc, phi1s hp (by rw [g3.scan]; exact hsc), d1, mulS, ea]
      omega
    | false =>
      rw [phi1 h hsc, phi1 hp (by rw [g3.scan]; exact hsc), d1, mulS]
      omega
  | back h hs hc =>
    rw [phi1s h hc, phi2 (x := { x with ph := 2, scan := false }) rfl]
    show (lc.length + 1 - x.at_.toNat) + (if x.again = true ∨ x.over = true then lc.length + 1 else 0) + unm x.marks * (lc.length + 3) + 1 ≤ _
    split <;> omega
  | scans h hs hc =>
    rw [phi1 h hc, phi2 (x := { x with ph := 2, at_ := 0, over := false, again := false }) rfl]
    show (lc.length + 1 - (0 : Int).toNat) + (if false = true ∨ false = true then lc.length + 1 else 0) + unm x.marks * (lc.length + 3) + 1 ≤ _
    rw [if_neg (by simp)]
    simp
    omega
  | drained h hs hc ho hp =>
    rw [phi1 h hc, phi3 (x := { x with ph := 3 }) rfl]
    omega
  | cellOff h i hi hl hm =>
    rw [phi2 h, phi2 (x := { x with at_ := x.at_ + 1 }) h]
    show (lc.length + 1 - (x.at_ + 1).toNat) + (if x.again = true ∨ x.over = true then lc.length + 1 else 0) + unm x.marks * (lc.length + 3) + 1 ≤ _
    omega
  | cellSame h i hi hl hm ht =>
    rw [phi2 h, phi2 (x := { x with at_ := x.at_ + 1 }) h]
    show (lc.length + 1 - (x.at_ + 1).toNat) + (if x.again = true ∨ x.over = true then lc.length + 1 else 0) + unm x.marks * (lc.length + 3) + 1 ≤ _
    omega
  | cellMore h i hi hl hm z ht =>
    obtain ⟨g2, g3, g4⟩ := touches_like (lr := lr) hO.r1 (x := { x with at_ := x.at_ + 1 }) ⟨hO.bs.ml, hO.bs.sl, hO.bs.kd, hO.bs.stk, hO.bs.nd⟩ (cnt_there hv x.marks i) ht
    obtain ⟨d, d1, d2, d3⟩ := touches_unm ht
    have d1 : unm x.marks = unm z.marks + d := d1
    have d2 : z.stack.length ≤ x.stack.length + d := d2
    have hst : x.stack.length = 0 := by rw [hO.idle (.inl h)]; rfl
    have hd : 1 ≤ d := by
      rcases d3 rfl with h | h
      · cases h
      · exact h
    have ea : z.at_ = x.at_ + 1 := g3.at_
    have hm : (lc.length + 2) + d ≤ d * (lc.length + 3) := by
      have : d * (lc.length + 3) = d * (lc.length + 2) + d := by rw [show lc.length + 3 = (lc.length + 2) + 1 from rfl, Nat.mul_add, Nat.mul_one]
      have : 1 * (lc.length + 2) ≤ d * (lc.length + 2) := Nat.mul_le_mul_right _ hd
      omega
    rw [phi2 h, phi1s (x := { z with again := true, scan := true, ph := 1 }) rfl rfl, d1, mulS]
    show z.stack.length + 1 + (lc.length + 1 - z.at_.toNat) + (lc.length + 1) + unm z.marks * (lc.length + 3) + 1 ≤ _
    rw [ea]
    split <;> omega
  | passDone h ha h1 h2 =>
    rw [phi2 h, phi3 (x := { x with ph := 3, at_ := 0, again := false, over := false }) rfl]
    omega
  | passMore h ha h1 =>
    rw [phi2 h, phi2 (x := { x with at_ := 0, again := false, over := false }) h, if_pos h1]
    show (lc.length + 1 - (0 : Int).toNat) + (if false = true ∨ false = true then lc.length + 1 else 0) + unm x.marks * (lc.length + 3) + 1 ≤ _
    rw [if_neg (by simp)]
    have : (0 : Int).toNat = 0 := rfl
    omega
end Go.Proofs.Ytnmpmjbkelogaaa.Pure
