/- What a state has done so far; it holds from the first state on. -/
import Derived.Test.YtnmpmjbkelogaaaPrint
import Derived.Test.YtnmpmjbkelogaaaPureR19
namespace Go.Proofs.Ytnmpmjbkelogaaa.Pure
open Go.RowKit Go.Proofs.Ytnmpmjbkelogaaa.Print Go.Proofs.YtnmpmjbkelogaaaW.PrintWords Go.Proofs.YtnmpmjbkelogaaaW.PrintMore
set_option linter.unusedSimpArgs false
set_option linter.unusedVariables false

def kd (lc : List Cel) (i : Nat) : Int := (lc.getD i ⟨0, []⟩).f0
/-- No plain cell that is marked, off the stack and not e has one that counts unmarked; or something had no room. -/
def AE (lc : List Cel) (e : Nat → Prop) (x : MS) : Prop := x.over = true ∨ ∀ i : Nat, i < lc.length → ¬ e i → on x.marks i → (i : Int) ∉ x.stack → kd lc i ≠ 3 → Fine lc x.marks i
theorem kd_in {lc : List Cel} {i : Nat} (hi : i < lc.length) : kd lc i = lc[i].f0 := by unfold kd; simp [hi]
theorem fine_up {lc : List Cel} {m M : List Bool} (h : Sub m M) {i : Nat} (hi : i < lc.length) (h3 : kd lc i ≠ 3) (hf : Fine lc m i) : Fine lc M i := fun p hp => by
  rw [kd_in hi] at h3
  rw [cnt_plain (M := m) hi h3] at hp
  exact h _ (hf p hp)
theorem touch_facts {room : Int} {x y : MS} {p : Int} {r : Bool} (h : MS.touch room x p = some (y, r)) : Sub x.marks y.marks ∧ (∀ q ∈ x.stack, q ∈ y.stack) ∧ (x.over = true → y.over = true) ∧ (∀ j : Nat, on y.marks j → on x.marks j ∨ y.over = true ∨ ((j : Int) = p ∧ p ∈ y.stack)) := by
  unfold MS.touch at h
  by_cases h0 : 0 ≤ p ∧ p < (x.marks.length : Int) ∧ x.stack.length < 1000
  · rw [if_pos h0] at h
    have hup : Sub x.marks (x.marks.set p.toNat true) := fun j hj => (set_getD x.marks p.toNat j (by omega)).2 (.inr hj)
    split at h
    · cases h; exact ⟨fun _ h => h, fun _ h => h, fun h => h, fun j hj => .inl hj⟩
    · split at h
      · cases h
        refine ⟨hup, fun q hq => List.mem_append_left _ hq, fun h => h, fun j hj => ?_⟩
        rcases (set_getD x.marks p.toNat j (by omega)).1 hj with rfl | hj
        · exact .inr (.inr ⟨by omega, List.mem_append_right _ (List.mem_singleton.2 rfl)⟩)
        · exact .inl hj
      · cases h
        exact ⟨hup, fun q hq => hq, fun _ => rfl, fun j hj => .inr (.inl rfl)⟩
  · rw [if_neg h0] at h; cases h
theorem touch_A {lc : List Cel} {e : Nat → Prop} {room : Int} {x y : MS} {p : Int} {r : Bool} (h : MS.touch room x p = some (y, r)) (hA : AE lc e x) : AE lc e y := by
  obtain ⟨h1, h2, h3, h4⟩ := touch_facts h
  cases ho : y.over with
  | true => exact .inl ho
  | false =>
    refine .inr fun i hi he hm hs hk => ?_
    rcases hA with hA | hA
    · rw [h3 hA] at ho; cases ho
    · rcases h4 i hm with hm | hm | ⟨hm, hp⟩
      · exact fine_up h1 hi hk (hA i hi he hm (fun hq => hs (h2 _ hq)) hk)
      · rw [hm] at ho; cases ho
      · rw [← hm] at hp; exact absurd hp hs
theorem touches_A {lc : List Cel} {e : Nat → Prop} {room : Int} : ∀ {l : List Int} {x y : MS} {b r : Bool}, MS.touches room l x b = some (y, r) → AE lc e x → AE lc e y ∧ Sub x.marks y.marks
  | [], x, y, b, r, h, hA => by cases h; exact ⟨hA, fun _ h => h⟩
  | p :: l, x, y, b, r, h, hA => by
    obtain ⟨⟨z, r1⟩, h1, h2⟩ := Option.bind_eq_some_iff.1 h
    obtain ⟨g1, g2⟩ := touches_A h2 (touch_A h1 hA)
    exact ⟨g1, fun i hi => g2 i ((touch_facts h1).1 i hi)⟩
structure Inv (lc : List Cel) (lr : List Int) (x : MS) : Prop where
  r0 : x.ph = 0 → ∀ r ∈ lr.take x.at_.toNat, on x.marks r.toNat
  r1 : x.ph ≠ 0 → Roots lr x.marks
  A : x.ph = 0 ∨ (x.ph = 1 ∧ x.scan = false) → AE lc (fun _ => False) x
  B : x.ph = 2 → x.again = true ∨ ∀ i : Nat, i < lc.length → (i : Int) < x.at_ → on x.marks i → Fine lc x.marks i
  C : x.ph = 1 → x.scan = true → x.again = true
  D : x.ph = 3 → Closed lc x.marks
theorem touches_like {lc : List Cel} {lr : List Int} {room : Int} (hr : room ≤ 256) {l : List Int} {x y : MS} {b r : Bool} (hB : Bs lc room x) (hl : ∀ p ∈ l, isThere lc p = true) (h : MS.touches room l x b = some (y, r)) : Bs lc room y ∧ Like x y ∧ ∀ p ∈ l, on y.marks p.toNat := by
  obtain ⟨z, r2, g1, g2, g3, g4⟩ := touches_ok hr l x b hB hl
  rw [h] at g1
  cases g1
  exact ⟨g2, g3, g4⟩
theorem AE.nil {lc : List Cel} {x : MS} (hp : ∀ i : Nat, on x.marks i → kd lc i ≠ 3) (hs : x.stack = []) (ho : x.over = false) (hA : AE lc (fun _ => False) x) : Closed lc x.marks := fun i hi hm => by
  rcases hA with hA | hA
  · rw [ho] at hA; cases hA
  · exact hA i hi (fun h => h) hm (by rw [hs]; intro h; cases h) (hp i hm)
theorem inv_way {lc : List Cel} {lr : List Int} {room : Int} (hv : viewB lc lr = true) {x y : MS} (hO : Ok lc lr room x) (hI : Inv lc lr x) (hw : Way lc lr room x y) : Inv lc lr y := by
  obtain ⟨v1, v2, v3⟩ := view_in hv
  obtain ⟨i0, i1, iA, iB, iC, iD⟩ := hI
  cases hw with
  | rootsEnd h ha =>
    refine ⟨fun h => absurd h (show (1 : Int) ≠ 0 by decide), fun _ => ?_, fun _ => iA (.inl h), fun h => absurd h (show (1 : Int) ≠ 2 by decide), fun _ hs => ?_, fun h => absurd h (show (1 : Int) ≠ 3 by decide)⟩
    · have := i0 h
      rw [ha, Int.toNat_natCast, List.take_length] at this
      exact this
    · have := hO.sc hs; omega
  | root h ha z r ht =>
    have hlt : x.at_.toNat < lr.length := by omega
    have hth : isThere lc (rd lr x.at_) = true := v3 _ (by
      rw [show rd lr x.at_ = lr[x.at_.toNat] from by simp [rd, hlt]]; exact List.getElem_mem hlt)
    obtain ⟨z', r', g1, g2, g3, g4⟩ := touch_ok hO.bs hO.r1 hth
    rw [ht] at g1
    cases g1
    have hz : z.ph = 0 := by rw [g3.ph]; exact h
    refine ⟨fun _ => ?_, fun hn => absurd hz hn, fun _ => touch_A (x := x) (y := z) ht (iA (.inl h)), fun h2 => ?_, fun h1 => ?_, fun h1 => ?_⟩
    · show ∀ r ∈ lr.take (z.at_ + 1).toNat, on z.marks r.toNat
      rw [g3.at_, show (x.at_ + 1).toNat = x.at_.toNat + 1 from by omega, List.take_succ_eq_append_getElem hlt]
      intro q hq
      rcases List.mem_append.1 hq with hq | hq
      · exact g3.up _ (i0 h q hq)
      · rw [List.mem_singleton.1 hq, ← show rd lr x.at_ = lr[x.at_.toNat] from by simp [rd, hlt]]
        exact g4
    · have h2 : z.ph = 2 := h2; omega
    · have h1 : z.ph = 1 := h1; omega
    · have h1 : z.ph = 3 := h1; omega
  | pop h hs i hi hl _ r ht =>
    obtain ⟨g2, g3, g4⟩ := touches_like (lr := lr) hO.r1 (hO.bs.take _) (cnt_there hv x.marks i) ht
    have hz : y.ph = 1 := by rw [g3.ph]; exact h
    refine ⟨fun hn => by omega, fun _ q hq => g3.up _ (i1 (by omega) q hq), fun hc => ?_, fun h2 => by omega, fun _ hsc => ?_, fun h3 => by omega⟩
    · have hsc : x.scan = false := by
        rcases hc with hc | ⟨_, hc⟩
        · omega
        · rw [g3.scan] at hc; exact hc
      have hlast : x.stack = x.stack.take (x.stack.length - 1) ++ [(i : Int)] := by
        have hlt : x.stack.length - 1 < x.stack.length := by omega
        have e : x.stack[x.stack.length - 1] = (i : Int) := by
          rw [← hi, show ((x.stack.length : Int) - 1) = ((x.stack.length - 1 : Nat) : Int) from by omega, rd_in _ _ hlt]
        rw [← e, ← List.take_succ_eq_append_getElem hlt, show x.stack.length - 1 + 1 = x.stack.length from by omega, List.take_length]
      have hA : AE lc (fun j => j = i) { x with stack := x.stack.take (x.stack.length - 1) } := by
        rcases iA (.inr ⟨h, hsc⟩) with hA | hA
        · exact .inl hA
        · refine .inr fun j hj hne hm hns hk => hA j hj (fun h => h) hm (fun hq => ?_) hk
          rw [hlast] at hq
          rcases List.mem_append.1 hq with hq | hq
          · exact hns hq
          · have := List.mem_singleton.1 hq; exact hne (by omega)
      obtain ⟨q1, q2⟩ := touches_A ht hA
      rcases q1 with q1 | q1
      · exact .inl q1
      · refine .inr fun j hj _ hm hns hk => ?_
        by_cases hji : j = i
        · subst hji
          intro p hp
          rw [kd_in hj] at hk
          rw [cnt_plain (M := x.marks) hj hk] at hp
          exact g4 p hp
        · exact q1 j hj hji hm hns hk
    · rw [g3.again]; exact iC h (by rw [← g3.scan]; exact hsc)
  | back h hs hc =>
    refine ⟨fun h => absurd h (show (2 : Int) ≠ 0 by decide), fun _ => i1 (by omega), fun hh => ?_, fun _ => .inl (iC h hc), fun h => absurd h (show (2 : Int) ≠ 1 by decide), fun h => absurd h (show (2 : Int) ≠ 3 by decide)⟩
    rcases hh with hh | ⟨hh, _⟩
    · exact absurd hh (show (2 : Int) ≠ 0 by decide)
    · exact absurd hh (show (2 : Int) ≠ 1 by decide)
  | scans h hs hc =>
    refine ⟨fun h => absurd h (show (2 : Int) ≠ 0 by decide), fun _ => i1 (by omega), fun hh => ?_, fun _ => .inr fun i _ hlt => absurd hlt (show ¬ (i : Int) < 0 by omega), fun h => absurd h (show (2 : Int) ≠ 1 by decide), fun h => absurd h (show (2 : Int) ≠ 3 by decide)⟩
    rcases hh with hh | ⟨hh, _⟩
    · exact absurd hh (show (2 : Int) ≠ 0 by decide)
    · exact absurd hh (show (2 : Int) ≠ 1 by decide)
  | drained h hs hc ho hp =>
    refine ⟨fun h => absurd h (show (3 : Int) ≠ 0 by decide), fun _ => i1 (by omega), fun hh => ?_, fun h => absurd h (show (3 : Int) ≠ 2 by decide), fun h => absurd h (show (3 : Int) ≠ 1 by decide), fun _ => ?_⟩
    · rcases hh with hh | ⟨hh, _⟩
      · exact absurd hh (show (3 : Int) ≠ 0 by decide)
      · exact absurd hh (show (3 : Int) ≠ 1 by decide)
    · refine AE.nil (x := x) (fun i hm => ?_) hs ho (iA (.inr ⟨h, hc⟩))
      have := (paired_false lc x.marks 0).1 hp i hm
      rwa [Nat.zero_add] at this
  | cellOff h i hi hl hm =>
    refine ⟨fun hn => absurd hn (by show x.ph ≠ 0; omega), fun _ => i1 (by omega), fun hh => ?_, fun _ => ?_, fun h1 => absurd h1 (by show x.ph ≠ 1; omega), fun h1 => absurd h1 (by show x.ph ≠ 3; omega)⟩
    · rcases hh with hh | ⟨hh, _⟩
      · exact absurd hh (by show x.ph ≠ 0; omega)
      · exact absurd hh (by show x.ph ≠ 1; omega)
    · rcases iB h with q | q
      · exact .inl q
      · refine .inr fun j hj hlt hjm => ?_
        have hlt : (j : Int) < x.at_ + 1 := hlt
        by_cases hji : j = i
        · subst hji; have : on x.marks j := hjm; unfold on at this; rw [hm] at this; cases this
        · exact q j hj (by omega) hjm
  | cellSame h i hi hl hm ht =>
    obtain ⟨_, _, g4⟩ := touches_like (lr := lr) hO.r1 (x := { x with at_ := x.at_ + 1 }) ⟨hO.bs.ml, hO.bs.sl, hO.bs.kd, hO.bs.stk, hO.bs.nd⟩ (cnt_there hv x.marks i) ht
    refine ⟨fun hn => absurd hn (by show x.ph ≠ 0; omega), fun _ => i1 (by omega), fun hh => ?_, fun _ => ?_, fun h1 => absurd h1 (by show x.ph ≠ 1; omega), fun h1 => absurd h1 (by show x.ph ≠ 3; omega)⟩
    · rcases hh with hh | ⟨hh, _⟩
      · exact absurd hh (by show x.ph ≠ 0; omega)
      · exact absurd hh (by show x.ph ≠ 1; omega)
    · rcases iB h with q | q
      · exact .inl q
      · refine .inr fun j hj hlt hjm => ?_
        have hlt : (j : Int) < x.at_ + 1 := hlt
        by_cases hji : j = i
        · subst hji; exact g4
        · exact q j hj (by omega) hjm
  | cellMore h i hi hl hm z ht =>
    obtain ⟨_, g3, _⟩ := touches_like (lr := lr) hO.r1 (x := { x with at_ := x.at_ + 1 }) ⟨hO.bs.ml, hO.bs.sl, hO.bs.kd, hO.bs.stk, hO.bs.nd⟩ (cnt_there hv x.marks i) ht
    refine ⟨fun h => absurd h (show (1 : Int) ≠ 0 by decide), fun _ q hq => g3.up _ (i1 (by omega) q hq), fun hh => ?_, fun h => absurd h (show (1 : Int) ≠ 2 by decide), fun _ _ => rfl, fun h => absurd h (show (1 : Int) ≠ 3 by decide)⟩
    rcases hh with hh | ⟨_, hh⟩
    · exact absurd hh (show (1 : Int) ≠ 0 by decide)
    · cases hh
  | passDone h ha h1 h2 =>
    refine ⟨fun h => absurd h (show (3 : Int) ≠ 0 by decide), fun _ => i1 (by omega), fun hh => ?_, fun h => absurd h (show (3 : Int) ≠ 2 by decide), fun h => absurd h (show (3 : Int) ≠ 1 by decide), fun _ => ?_⟩
    · rcases hh with hh | ⟨hh, _⟩
      · exact absurd hh (show (3 : Int) ≠ 0 by decide)
      · exact absurd hh (show (3 : Int) ≠ 1 by decide)
    · rcases iB h with q | q
      · rw [h1] at q; cases q
      · exact fun i hi hm => q i hi (by omega) hm
  | passMore h ha h1 =>
    refine ⟨fun hn => absurd hn (by show x.ph ≠ 0; omega), fun _ => i1 (by omega), fun hh => ?_, fun _ => .inr fun i _ hlt => absurd hlt (show ¬ (i : Int) < 0 by omega), fun h1 => absurd h1 (by show x.ph ≠ 1; omega), fun h1 => absurd h1 (by show x.ph ≠ 3; omega)⟩
    rcases hh with hh | ⟨hh, _⟩
    · exact absurd hh (by show x.ph ≠ 0; omega)
    · exact absurd hh (by show x.ph ≠ 1; omega)
end Go.Proofs.Ytnmpmjbkelogaaa.Pure
