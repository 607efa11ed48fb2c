-- Written by a program of this session (wip/xprint.py, by way of the print): Lean functions and proofs that the Go functions come to them.
import Derived.Test.YtnmpmjbkelogaaaPrint0
import Derived.Test.YtnmpmjbkelogaaaPrint1
import Derived.Test.YtnmpmjbkelogaaaPrint2
namespace Go.Proofs.Ytnmpmjbkelogaaa.Print
open Go.RowKit Go.Proofs.YtnmpmjbkelogaaaW.PrintWords Go.Proofs.YtnmpmjbkelogaaaW.PrintLast Go.Proofs.YtnmpmjbkelogaaaW.PrintMore
attribute [local go_sem] max2_int min2_int max_two min_two max_three min_three max_four min_four   -- for this text's walks alone
set_option linter.unusedVariables false
set_option linter.unusedSimpArgs false
/-! ### atticref19_Same: function 20 -/
def atticref19_Same.f (a0_0 : Int) (a0_1 : Int) (l0_2 : List Bool) (l0_3 : List Int) (a0_4 : Bool) (a0_5 : Bool) (a0_6 : Bool) (a1_0 : Int) (a1_1 : Int) (l1_2 : List Bool) (l1_3 : List Int) (a1_4 : Bool) (a1_5 : Bool) (a1_6 : Bool) : Option Bool := some (decide (a0_0 = a1_0 ∧ a0_1 = a1_1 ∧ l0_2 = l1_2 ∧ l0_3 = l1_3 ∧ a0_4 = a1_4 ∧ a0_5 = a1_5 ∧ a0_6 = a1_6))
set_option maxHeartbeats 4000000 in
set_option maxRecDepth 100000 in
theorem atticref19_Same.calls (a0_0 : Int) (a0_1 : Int) (A0_2 : Option Addr) (c0_2 : Nat) (l0_2 : List Bool) (A0_3 : Option Addr) (c0_3 : Nat) (l0_3 : List Int) (a0_4 : Bool) (a0_5 : Bool) (a0_6 : Bool) (a1_0 : Int) (a1_1 : Int) (A1_2 : Option Addr) (c1_2 : Nat) (l1_2 : List Bool) (A1_3 : Option Addr) (c1_3 : Nat) (l1_3 : List Int) (a1_4 : Bool) (a1_5 : Bool) (a1_6 : Bool) (r : Bool) (w : World) (hr0_2 : Kd.C Kd.bool w A0_2 l0_2.length l0_2) (hc0_2 : l0_2.length ≤ c0_2) (hr0_3 : Kd.C (Kd.int .i64) w A0_3 l0_3.length l0_3) (hc0_3 : l0_3.length ≤ c0_3) (hr1_2 : Kd.C Kd.bool w A1_2 l1_2.length l1_2) (hc1_2 : l1_2.length ≤ c1_2) (hr1_3 : Kd.C (Kd.int .i64) w A1_3 l1_3.length l1_3) (hc1_3 : l1_3.length ≤ c1_3) (h : atticref19_Same.f a0_0 a0_1 l0_2 l0_3 a0_4 a0_5 a0_6 a1_0 a1_1 l1_2 l1_3 a1_4 a1_5 a1_6 = some r) :
  Calls Try.prog 20 #[.agg #[.int .i64 a0_0, .int .i64 a0_1, .slice A0_2 l0_2.length c0_2, .slice A0_3 l0_3.length c0_3, .bool a0_4, .bool a0_5, .bool a0_6], .agg #[.int .i64 a1_0, .int .i64 a1_1, .slice A1_2 l1_2.length c1_2, .slice A1_3 l1_3.length c1_3, .bool a1_4, .bool a1_5, .bool a1_6]] w fun e w' => e = .returned (.bool r) ∧ Below w.heap.size w w' := by
 have hu28 := Try.underlying28
 have hr := (Option.some.inj h).symm
 have HR0_2 := ak hr0_2
 have HR0_3 := ak hr0_3
 have HR1_2 := ak hr1_2
 have HR1_3 := ak hr1_3
 have HR := ak hr
 have hl0_2 : l0_2.length ≤ 9223372036854775807 := hr0_2.2.1
 have hl0_3 : l0_3.length ≤ 9223372036854775807 := hr0_3.2.1
 clear h hr hr0_2 hr0_3 hr1_2 hr1_3
 go_enter Try.func20, Try.ntmps20
 go_upto_region 1 with (first | ((with_reducible refine gate_dst (N := 2) rfl ?_); refine box_event ?hg (N := 2) ?hd (cs := #[.int .i64 a0_0, .int .i64 a0_1, .slice A0_2 l0_2.length c0_2, .slice A0_3 l0_3.length c0_3, .bool a0_4, .bool a0_5, .bool a0_6]) (t := 28) ?hr ?_; (case hd => rfl); (case hg => rfl); (case hr => first | (go_simp; done) | (go_simp; rfl)); intro ga hg w1 hb_ hx_; have HB1 := ak hx_; have BA1 := ak hb_; clear hg hb_ hx_) | ((with_reducible refine gate_dst (N := 3) rfl ?_); refine box_event ?hg (N := 3) ?hd (cs := #[.int .i64 a1_0, .int .i64 a1_1, .slice A1_2 l1_2.length c1_2, .slice A1_3 l1_3.length c1_3, .bool a1_4, .bool a1_5, .bool a1_6]) (t := 28) ?hr ?_; (case hd => rfl); (case hg => rfl); (case hr => first | (go_simp; done) | (go_simp; rfl)); intro gb hg w2 hb_ hx_; have HB := ak (HB1.out.trans (hx_.mono HB1.out.size)); have BA := ak (blk_below BA1.out hx_); have BB := ak hb_; clear hg hb_ hx_ HB1 BA1; have x0 : w2.cell? ⟨ga, 0, none⟩ = some (.int .i64 a0_0) := (blk_cell BA.out 0).trans rfl; have y0 : w2.cell? ⟨gb, 0, none⟩ = some (.int .i64 a1_0) := (blk_cell BB.out 0).trans rfl; have x1 : w2.cell? ⟨ga, 1, none⟩ = some (.int .i64 a0_1) := (blk_cell BA.out 1).trans rfl; have y1 : w2.cell? ⟨gb, 1, none⟩ = some (.int .i64 a1_1) := (blk_cell BB.out 1).trans rfl; have x2 : w2.cell? ⟨ga, 2, none⟩ = some (.slice A0_2 l0_2.length c0_2) := (blk_cell BA.out 2).trans rfl; have y2 : w2.cell? ⟨gb, 2, none⟩ = some (.slice A1_2 l1_2.length c1_2) := (blk_cell BB.out 2).trans rfl; have x3 : w2.cell? ⟨ga, 3, none⟩ = some (.slice A0_3 l0_3.length c0_3) := (blk_cell BA.out 3).trans rfl; have y3 : w2.cell? ⟨gb, 3, none⟩ = some (.slice A1_3 l1_3.length c1_3) := (blk_cell BB.out 3).trans rfl; have x4 : w2.cell? ⟨ga, 4, none⟩ = some (.bool a0_4) := (blk_cell BA.out 4).trans rfl; have y4 : w2.cell? ⟨gb, 4, none⟩ = some (.bool a1_4) := (blk_cell BB.out 4).trans rfl; have x5 : w2.cell? ⟨ga, 5, none⟩ = some (.bool a0_5) := (blk_cell BA.out 5).trans rfl; have y5 : w2.cell? ⟨gb, 5, none⟩ = some (.bool a1_5) := (blk_cell BB.out 5).trans rfl; have x6 : w2.cell? ⟨ga, 6, none⟩ = some (.bool a0_6) := (blk_cell BA.out 6).trans rfl; have y6 : w2.cell? ⟨gb, 6, none⟩ = some (.bool a1_6) := (blk_cell BB.out 6).trans rfl))
 by_cases e1 : l0_2.length = l1_2.length; rotate_left
 ·have b1 : ((l0_2.length : Int) != (l1_2.length : Int)) = true := bne_iff_ne.2 (fun h => e1 (by omega))
  have hr : r = false := HR.out.trans (decide_eq_false (fun h => e1 (by rw [h.2.2.1])))
  clear e1 HR
  subst hr
  go_wp2
  go_ret
  exact ⟨rfl, HB.out⟩
 have b1 : ((l0_2.length : Int) != (l1_2.length : Int)) = false := bne_eq_false_iff_eq.2 (by rw [e1])
 by_cases e2 : l0_3.length = l1_3.length; rotate_left
 ·have b2 : ((l0_3.length : Int) != (l1_3.length : Int)) = true := bne_iff_ne.2 (fun h => e2 (by omega))
  have hr : r = false := HR.out.trans (decide_eq_false (fun h => e2 (by rw [h.2.2.2.1])))
  clear e2 HR
  subst hr
  go_wp2
  go_ret
  exact ⟨rfl, HB.out⟩
 have b2 : ((l0_3.length : Int) != (l1_3.length : Int)) = false := bne_eq_false_iff_eq.2 (by rw [e2])
 by_cases e3 : a0_0 = a1_0; rotate_left
 ·have b3 : (a0_0 != a1_0) = true := bne_iff_ne.2 (e3)
  have hr : r = false := HR.out.trans (decide_eq_false (fun h => e3 h.1))
  clear e3 HR
  subst hr
  go_wp2
  go_ret
  exact ⟨rfl, HB.out⟩
 have b3 : (a0_0 != a1_0) = false := bne_eq_false_iff_eq.2 (e3)
 by_cases e4 : a0_1 = a1_1; rotate_left
 ·have b4 : (a0_1 != a1_1) = true := bne_iff_ne.2 (e4)
  have hr : r = false := HR.out.trans (decide_eq_false (fun h => e4 h.2.1))
  clear e4 HR
  subst hr
  go_wp2
  go_ret
  exact ⟨rfl, HB.out⟩
 have b4 : (a0_1 != a1_1) = false := bne_eq_false_iff_eq.2 (e4)
 by_cases e5 : a0_4 = a1_4; rotate_left
 ·have hr : r = false := HR.out.trans (decide_eq_false (fun h => e5 h.2.2.2.2.1))
  clear HR
  subst hr
  cases a0_4 <;> cases a1_4 <;> first | exact absurd rfl e5 | (clear e5; go_wp2; go_ret; exact ⟨rfl, HB.out⟩)
 subst e5
 by_cases e6 : a0_5 = a1_5; rotate_left
 ·have hr : r = false := HR.out.trans (decide_eq_false (fun h => e6 h.2.2.2.2.2.1))
  clear HR
  subst hr
  cases a0_5 <;> cases a1_5 <;> first | exact absurd rfl e6 | (clear e6; go_wp2; go_ret; exact ⟨rfl, HB.out⟩)
 subst e6
 by_cases e7 : a0_6 = a1_6; rotate_left
 ·have hr : r = false := HR.out.trans (decide_eq_false (fun h => e7 h.2.2.2.2.2.2))
  clear HR
  subst hr
  cases a0_6 <;> cases a1_6 <;> first | exact absurd rfl e7 | (clear e7; go_wp2; go_ret; exact ⟨rfl, HB.out⟩)
 subst e7
 have HE := ak (And.intro e3 (And.intro e4 (And.intro (rfl : a0_4 = a0_4) (And.intro (rfl : a0_5 = a0_5) (rfl : a0_6 = a0_6)))))
 have E1 := ak e1
 have E2 := ak e2
 clear e1 e2 e3 e4
 go_wp2
 go_loopw [5] (fun v5 wr => ∃ j : Nat, j ≤ l0_2.length ∧ v5 = .int .i64 j ∧ Aside0 (∀ i, i < j → l0_2[i]? = l1_2[i]?) ∧ Aside0 (wr.heap[ga]? = some (.cells #[.int .i64 a0_0, .int .i64 a0_1, .slice A0_2 l0_2.length c0_2, .slice A0_3 l0_3.length c0_3, .bool a0_4, .bool a0_5, .bool a0_6] 28 (0, 0))) ∧ Aside0 (wr.heap[gb]? = some (.cells #[.int .i64 a1_0, .int .i64 a1_1, .slice A1_2 l1_2.length c1_2, .slice A1_3 l1_3.length c1_3, .bool a0_4, .bool a0_5, .bool a0_6] 28 (0, 0))) ∧ Aside0 (Below w.heap.size w wr)) (fun v5 _ => l0_2.length - (intOf v5).toNat)
 case atStart => exact ⟨0, Nat.zero_le _, rfl, ⟨fun i hi => absurd hi (Nat.not_lt_zero _)⟩, BA, BB, HB⟩
 case round =>
  clear BA BB HB x0 y0 x1 y1 x2 y2 x3 y3 x4 y4 x5 y5 x6 y6 b1 b2 b3 b4
  obtain ⟨j, hj, rfl, HI, BA, BB, HB⟩ := hrel
  have xm : wr.cell? ⟨ga, 2, none⟩ = some (.slice A0_2 l0_2.length c0_2) := (blk_cell BA.out 2).trans rfl
  have ym : wr.cell? ⟨gb, 2, none⟩ = some (.slice A1_2 l1_2.length c1_2) := (blk_cell BB.out 2).trans rfl
  by_cases hlt : j < l0_2.length; rotate_left
  ·have hj' : j = l0_2.length := by omega
   have hltb : decide ((j : Int) < (l0_2.length : Int)) = false := decide_eq_false (by omega)
   have heq : l0_2 = l1_2 := List.ext_getElem? fun i => by
    by_cases hi : i < j; rotate_left
    ·rw [List.getElem?_eq_none (by omega), List.getElem?_eq_none (by have := E1.out; omega)]
    exact HI.out i hi
   have HQ5 := ak heq
   clear hj' heq HI hj
   go_wp2
   go_loopw [6] (fun v5 wr => ∃ j : Nat, j ≤ l0_3.length ∧ v5 = .int .i64 j ∧ Aside0 (∀ i, i < j → l0_3[i]? = l1_3[i]?) ∧ Aside0 (wr.heap[ga]? = some (.cells #[.int .i64 a0_0, .int .i64 a0_1, .slice A0_2 l0_2.length c0_2, .slice A0_3 l0_3.length c0_3, .bool a0_4, .bool a0_5, .bool a0_6] 28 (0, 0))) ∧ Aside0 (wr.heap[gb]? = some (.cells #[.int .i64 a1_0, .int .i64 a1_1, .slice A1_2 l1_2.length c1_2, .slice A1_3 l1_3.length c1_3, .bool a0_4, .bool a0_5, .bool a0_6] 28 (0, 0))) ∧ Aside0 (Below w.heap.size w wr)) (fun v5 _ => l0_3.length - (intOf v5).toNat)
   case atStart => exact ⟨0, Nat.zero_le _, rfl, ⟨fun i hi => absurd hi (Nat.not_lt_zero _)⟩, BA, BB, HB⟩
   case round =>
    clear BA BB HB xm ym
    obtain ⟨j, hj, rfl, HI, BA, BB, HB⟩ := hrel
    have xm : wr.cell? ⟨ga, 3, none⟩ = some (.slice A0_3 l0_3.length c0_3) := (blk_cell BA.out 3).trans rfl
    have ym : wr.cell? ⟨gb, 3, none⟩ = some (.slice A1_3 l1_3.length c1_3) := (blk_cell BB.out 3).trans rfl
    by_cases hlt : j < l0_3.length; rotate_left
    ·have hj' : j = l0_3.length := by omega
     have hltb : decide ((j : Int) < (l0_3.length : Int)) = false := decide_eq_false (by omega)
     have heq : l0_3 = l1_3 := List.ext_getElem? fun i => by
      by_cases hi : i < j; rotate_left
      ·rw [List.getElem?_eq_none (by omega), List.getElem?_eq_none (by have := E2.out; omega)]
      exact HI.out i hi
     have HQ6 := ak heq
     clear hj' heq HI hj
     have hr : r = true := HR.out.trans (decide_eq_true ⟨HE.out.1, HE.out.2.1, HQ5.out, HQ6.out, HE.out.2.2.1, HE.out.2.2.2.1, HE.out.2.2.2.2⟩)
     subst hr
     clear HR
     go_wp2
     go_ret
     exact ⟨rfl, HB.out⟩
    have hlt1 : j < l1_3.length := by have := E2.out; omega
    have hltb : decide ((j : Int) < (l0_3.length : Int)) = true := decide_eq_true (by omega)
    have ja : ((j : Int) < (l0_3.length : Int)) = True := eq_true (by omega)
    have jb : ((j : Int) < (l1_3.length : Int)) = True := eq_true (by omega)
    obtain ⟨ad, rfl, hc⟩ := Kd.at_int (Kd.C_below HR0_3.out HB.out) (j : Int) (by omega) (by omega)
    obtain ⟨ae, rfl, hd⟩ := Kd.at_int (Kd.C_below HR1_3.out HB.out) (j : Int) (by omega) (by omega)
    rw [show rd l0_3 (j : Int) = l0_3[j] from by simp [rd, hlt], Int.toNat_natCast] at hc
    rw [show rd l1_3 (j : Int) = l1_3[j] from by simp [rd, hlt1], Int.toNat_natCast] at hd
    by_cases he : l0_3[j] = l1_3[j]; rotate_left
    ·have hr : r = false := HR.out.trans (decide_eq_false fun h => he (by have h2 := h.2.2.2.1; subst h2; rfl))
     subst hr
     have hb : (l0_3[j] != l1_3[j]) = true := bne_iff_ne.2 he
     generalize l0_3[j] = u0 at hc hb
     generalize l1_3[j] = u1 at hd hb
     clear HI he HR
     go_wp2
     go_quiet ((fail))
     go_wp2
     go_ret
     exact ⟨rfl, pw_below_drewN HB.out _⟩
    have HI2 : Aside0 (∀ i, i < j + 1 → l0_3[i]? = l1_3[i]?) := ⟨fun i hi => by
     by_cases e : i = j
     ·subst e; rw [List.getElem?_eq_getElem hlt, List.getElem?_eq_getElem hlt1, he]
     ·exact HI.out i (by omega)⟩
    rw [← he] at hd
    generalize l0_3[j] = u0 at hc hd he
    clear HI he
    go_wp2
    go_quiet ((fail))
    go_wp2
    go_roundw
    case rel => exact ⟨j + 1, by omega, by go_num, HI2, ⟨by exact BA.out⟩, ⟨by exact BB.out⟩, ⟨pw_below_drewN HB.out _⟩⟩
    case measure => simp [intOf]; omega
  have hlt1 : j < l1_2.length := by have := E1.out; omega
  have hltb : decide ((j : Int) < (l0_2.length : Int)) = true := decide_eq_true (by omega)
  have ja : ((j : Int) < (l0_2.length : Int)) = True := eq_true (by omega)
  have jb : ((j : Int) < (l1_2.length : Int)) = True := eq_true (by omega)
  obtain ⟨ad, rfl, hc⟩ := Kd.at_bool (Kd.C_below HR0_2.out HB.out) (j : Int) (by omega) (by omega)
  obtain ⟨ae, rfl, hd⟩ := Kd.at_bool (Kd.C_below HR1_2.out HB.out) (j : Int) (by omega) (by omega)
  rw [show rdOf false l0_2 (j : Int) = l0_2[j] from by simp [rdOf, hlt], Int.toNat_natCast] at hc
  rw [show rdOf false l1_2 (j : Int) = l1_2[j] from by simp [rdOf, hlt1], Int.toNat_natCast] at hd
  by_cases he : l0_2[j] = l1_2[j]; rotate_left
  ·have hr : r = false := HR.out.trans (decide_eq_false fun h => he (by have h2 := h.2.2.1; subst h2; rfl))
   subst hr
   generalize l0_2[j] = u0 at hc he
   generalize l1_2[j] = u1 at hd he
   clear HI HR
   cases u0 <;> cases u1 <;> first | exact absurd rfl he | (clear he; go_wp2; go_quiet ((fail)); go_wp2; go_ret; exact ⟨rfl, pw_below_drewN HB.out _⟩)
  have HI2 : Aside0 (∀ i, i < j + 1 → l0_2[i]? = l1_2[i]?) := ⟨fun i hi => by
   by_cases e : i = j
   ·subst e; rw [List.getElem?_eq_getElem hlt, List.getElem?_eq_getElem hlt1, he]
   ·exact HI.out i (by omega)⟩
  rw [← he] at hd
  generalize l0_2[j] = u0 at hc hd he
  clear HI he
  go_wp2
  go_quiet ((fail))
  go_wp2
  go_roundw
  case rel => exact ⟨j + 1, by omega, by go_num, HI2, ⟨by exact BA.out⟩, ⟨by exact BB.out⟩, ⟨pw_below_drewN HB.out _⟩⟩
  case measure => simp [intOf]; omega
/-! ### mark_Step: function 26 -/
def mark_Step.f (k : Nat) (lc : List S56) (lr : List Int) (room ph at_ : Int) (m : List Bool) (st : List Int) (ov ag sc : Bool) : Option (Int × Int × List Bool × List Int × Bool × Bool × Bool × Bool) :=
 if m.length * 1 ≤ 140737488355328 ∧ st.length * 8 ≤ 140737488355328 then
  (mark_Check.f k lc lr room ph at_ m st ov ag sc).bind fun e =>
   if e = 0 then (MS.unit (fun m j => mark_counts.f k lc lr m j) (fun m => pairedL lc m) lc.length lr room ⟨ph, at_, m, st, ov, ag, sc⟩).bind fun x => some (x.tup (x.ph == 3))
   else some (MS.tup ⟨ph, at_, m, st, ov, ag, sc⟩ true)
 else none
theorem mark_Step.mono : ∀ a0 a1 a2 a3 a4 a5 a6 a7 a8 a9 k, LeO (mark_Step.f k a0 a1 a2 a3 a4 a5 a6 a7 a8 a9) (mark_Step.f (k + 1) a0 a1 a2 a3 a4 a5 a6 a7 a8 a9) :=
 fun a0 a1 a2 a3 a4 a5 a6 a7 a8 a9 k => LeO.ite (LeO.bind (mark_Check.mono _ _ _ _ _ _ _ _ _ _ k) (fun _ => LeO.ite (LeO.bind (MS.unit_mono (fun _ _ => mark_counts.mono _ _ _ _ k) _ _ _ _) (fun _ => LeO.refl _)) (LeO.refl _))) (LeO.refl _)
set_option maxHeartbeats 8000000 in
set_option maxRecDepth 100000 in
theorem mark_Step.calls (k : Nat) (A0 : Option Addr) (c0 : Nat) (lc : List S56) (A1 : Option Addr) (c1 : Nat) (lr : List Int) (room ph at_ : Int) (A2 : Option Addr) (c2 : Nat) (m : List Bool) (A3 : Option Addr) (c3 : Nat) (st : List Int) (ov ag sc : Bool) (r1 r2 : Int) (r3 : List Bool) (r4 : List Int) (r5 r6 r7 : Bool) (r8 : Bool) (w : World)
  (hr0 : Kd.C k56 w A0 lc.length lc) (hc0 : lc.length ≤ c0) (hr1 : Kd.C (Kd.int .i64) w A1 lr.length lr) (hc1 : lr.length ≤ c1) (hr2 : Kd.C Kd.bool w A2 m.length m) (hc2 : m.length ≤ c2) (hr3 : Kd.C (Kd.int .i64) w A3 st.length st) (hc3 : st.length ≤ c3)
  (h : mark_Step.f k lc lr room ph at_ m st ov ag sc = some (r1, r2, r3, r4, r5, r6, r7, r8)) :
  Calls Try.prog 26 #[.agg #[.slice A0 lc.length c0, .slice A1 lr.length c1], .int .i64 room, .agg #[.int .i64 ph, .int .i64 at_, .slice A2 m.length c2, .slice A3 st.length c3, .bool ov, .bool ag, .bool sc]] w fun e w' => ∃ v2_ v3_ : Value, e = .returned (.tuple #[.agg #[.int .i64 r1, .int .i64 r2, v2_, v3_, .bool r5, .bool r6, .bool r7], .bool r8]) ∧ Kd.R Kd.bool 4 w' w.heap.size (fun _ => True) v2_ r3 ∧ Kd.R (Kd.int .i64) 3 w' w.heap.size (fun _ => True) v3_ r4 ∧ Below w.heap.size w w' := by
 have hu25 := Try.underlying25
 have hu28 := Try.underlying28
 have hu63 := Try.underlying63
 unfold mark_Step.f at h
 by_cases hbd : m.length * 1 ≤ 140737488355328 ∧ st.length * 8 ≤ 140737488355328
 case neg => rw [if_neg hbd] at h; cases h
 rw [if_pos hbd] at h
 obtain ⟨e0, he0, h⟩ := Option.bind_eq_some_iff.1 h
 have HBG := ak (fun wd (hd : Below w.heap.size w wd) => wk_begun k A0 c0 lc A1 c1 lr room ph at_ A2 c2 m A3 c3 st ov ag sc e0 wd (Kd.C_below hr0 hd) hc0 (Kd.C_below hr1 hd) hc1 (Kd.C_below hr2 hd) hc2 (Kd.C_below hr3 hd) hc3 hbd.1 hbd.2 he0)
 have HR0 := ak hr0
 have HR1 := ak hr1
 have HC0 := ak hc0
 have HC1 := ak hc1
 have HH := ak h
 clear hr0 hr1 hr2 hr3 hc0 hc1 hc2 hc3 hbd he0 h
 by_cases hz : e0 = 0; rotate_left
 ·have hh := HH.out
  rw [if_neg hz] at hh
  have hh := Option.some.inj hh
  unfold MS.tup at hh
  simp only [Prod.mk.injEq] at hh
  obtain ⟨rfl, rfl, rfl, rfl, rfl, rfl, rfl, rfl⟩ := hh
  have hzb : (e0 == 0) = false := beq_eq_false_iff_ne.2 hz
  rw [hzb] at HBG
  clear HH hz hzb
  go_enter Try.func26, Try.ntmps26
  go_wp2_with (first | ((with_reducible refine gate_dst (N := 3) rfl ?_); refine box_event ?hg (N := 3) ?hd (cs := #[.slice A0 lc.length c0, .slice A1 lr.length c1]) (t := 25) ?hr ?_; (case hd => rfl); (case hg => rfl); (case hr => first | (go_simp; done) | (go_simp; rfl)); intro gb hg w1 hb1 hx1; have HB1 := ak hx1; have BK := ak hb1; clear hg hb1 hx1; have q0 : w1.cell? ⟨gb, 0, none⟩ = some (.slice A0 lc.length c0) := (blk_cell BK.out 0).trans rfl; have q1 : w1.cell? ⟨gb, 1, none⟩ = some (.slice A1 lr.length c1) := (blk_cell BK.out 1).trans rfl) | ((with_reducible refine gate_dst (N := 5) rfl ?_); refine box_event ?hg (N := 5) ?hd (cs := #[.int .i64 ph, .int .i64 at_, .slice A2 m.length c2, .slice A3 st.length c3, .bool ov, .bool ag, .bool sc]) (t := 28) ?hr ?_; (case hd => rfl); (case hg => rfl); (case hr => first | (go_simp; done) | (go_simp; rfl)); intro gs hg w2 hb2 hx2; have HB2 := ak (HB1.out.trans (hx2.mono HB1.out.size)); have BK2 := ak (blk_below BK.out hx2); have BS2 := ak hb2; clear hg hb2 hx2 q0 q1) | ((with_reducible refine gate_dst (N := 6) rfl ?_); refine box_event ?hg (N := 6) ?hd (cs := #[.int .i64 0, .int .i64 0, .slice none 0 0, .slice none 0 0, .bool false, .bool false, .bool false]) (t := 28) ?hr ?_; (case hd => rfl); (case hg => rfl); (case hr => first | (go_simp; done) | (go_simp; rfl)); intro gr hg w3 hb3 hx3; have HB3 := ak (HB2.out.trans (hx3.mono HB2.out.size)); have BK3 := ak (blk_below BK2.out hx3); have BS3 := ak (blk_below BS2.out hx3); have BR3 := ak hb3; have GR := ak (show w.heap.size ≤ gr from by rw [hg]; exact HB2.out.size); clear hg hb3 hx3 HB1 BK HB2 BK2 BS2; have q0 : w3.cell? ⟨gb, 0, none⟩ = some (.slice A0 lc.length c0) := (blk_cell BK3.out 0).trans rfl; have q1 : w3.cell? ⟨gb, 1, none⟩ = some (.slice A1 lr.length c1) := (blk_cell BK3.out 1).trans rfl; have s0 : w3.cell? ⟨gs, 0, none⟩ = some (.int .i64 ph) := (blk_cell BS3.out 0).trans rfl; have s1 : w3.cell? ⟨gs, 1, none⟩ = some (.int .i64 at_) := (blk_cell BS3.out 1).trans rfl; have s2 : w3.cell? ⟨gs, 2, none⟩ = some (.slice A2 m.length c2) := (blk_cell BS3.out 2).trans rfl; have s3 : w3.cell? ⟨gs, 3, none⟩ = some (.slice A3 st.length c3) := (blk_cell BS3.out 3).trans rfl; have s4 : w3.cell? ⟨gs, 4, none⟩ = some (.bool ov) := (blk_cell BS3.out 4).trans rfl; have s5 : w3.cell? ⟨gs, 5, none⟩ = some (.bool ag) := (blk_cell BS3.out 5).trans rfl; have s6 : w3.cell? ⟨gs, 6, none⟩ = some (.bool sc) := (blk_cell BS3.out 6).trans rfl) | (go_at_call 36; (with_reducible refine (HBG.out _ HB3.out).mono ?_); rintro e w4 ⟨g, vm, vs, rfl, hw4, hb4⟩; have HB4 := ak (HB3.out.trans (hb4.mono HB3.out.size)); have HV := ak hb4; have BR4 := ak (blk_below BR3.out hb4); have HW4 := ak hw4; have GL := ak (blk_lt BR3.out); clear q0 q1 s0 s1 s2 s3 s4 s5 s6 hw4 hb4))
  obtain ⟨Am, cm, rfl⟩ := Kd.R_slice HW4.out.m
  obtain ⟨As, cs, rfl⟩ := Kd.R_slice HW4.out.s
  refine sL (n := 16) (S := fun w' => w'.cell? ⟨g, 3, none⟩ = some (.int .i64 ph) ∧ w'.cell? ⟨g, 4, none⟩ = some (.int .i64 at_) ∧ w'.cell? ⟨g, 5, none⟩ = some (.slice Am m.length cm) ∧ w'.cell? ⟨g, 6, none⟩ = some (.slice As st.length cs) ∧ w'.cell? ⟨g, 7, none⟩ = some (.bool ov) ∧ w'.cell? ⟨g, 8, none⟩ = some (.bool ag) ∧ w'.cell? ⟨g, 9, none⟩ = some (.bool sc)) (ds := []) (by kernel_rfl) rfl ⟨(blk_cell HW4.out.blk 3).trans rfl, (blk_cell HW4.out.blk 4).trans rfl, (blk_cell HW4.out.blk 5).trans rfl, (blk_cell HW4.out.blk 6).trans rfl, (blk_cell HW4.out.blk 7).trans rfl, (blk_cell HW4.out.blk 8).trans rfl, (blk_cell HW4.out.blk 9).trans rfl⟩ (fun hHeld => ?_)
  have HW8 := ak HW4.out.drew
  have BR8 := ak (blk_drew BR4.out)
  have HB8 := ak (below_drew HB4.out)
  generalize w4.drew = w8 at hHeld HW8 BR8 HB8 ⊢
  iterate 3 (refine pL (N := some _) rfl rfl (by kernel_rfl) (fun _ _ _ h => h) (by rfl) (v := ?_) (a' := ?_) ?_ ?_ ?_; rotate_left; (intro w'; go_simp; with_reducible rfl); rotate_left; (simp only [Act.put, sq0, sq1, sq2, sq3, sq4]; rfl))
  (refine tL (N := some _) rfl rfl (by kernel_rfl) (fun _ _ _ h => h) hHeld (by rfl) (v := ?_) (a' := ?_) ?_ ?_ ?_; rotate_left; (rintro w' ⟨z0, z1, z2, z3, z4, z5, z6⟩; go_simp; with_reducible rfl); rotate_left; (simp only [Act.put, sq0, sq1, sq2, sq3, sq4]; rfl))
  iterate 3 (refine pL (N := some _) rfl rfl (by kernel_rfl) (fun _ _ _ h => h) (by rfl) (v := ?_) (a' := ?_) ?_ ?_ ?_; rotate_left; (intro w'; go_simp; with_reducible rfl); rotate_left; (simp only [Act.put, sq0, sq1, sq2, sq3, sq4]; rfl))
  iterate 6 (refine oL (N := some _) rfl rfl (by kernel_rfl) (fun _ _ _ h => h) (by rfl) (a' := ?_) ?_ ?_; rotate_left; (simp only [Act.put, sq0, sq1, sq2, sq3, sq4]; rfl))
  (refine pL (N := some _) rfl rfl (by kernel_rfl) (fun _ _ _ h => h) (by rfl) (v := ?_) (a' := ?_) ?_ ?_ ?_; rotate_left; (intro w'; go_simp; with_reducible rfl); rotate_left; (simp only [Act.put, sq0, sq1, sq2, sq3, sq4]; rfl))
  refine nL (N := none) rfl rfl (by kernel_rfl) (by decide) (fun K hK => ?_)
  have y0 : w8.cell? ⟨gr, 0, none⟩ = some (.int .i64 0) := (blk_cell BR8.out 0).trans rfl
  have fy0 := blk_frozen BR8.out 0
  have y1 : w8.cell? ⟨gr, 1, none⟩ = some (.int .i64 0) := (blk_cell BR8.out 1).trans rfl
  have fy1 := blk_frozen BR8.out 1
  have y2 : w8.cell? ⟨gr, 2, none⟩ = some (.slice none 0 0) := (blk_cell BR8.out 2).trans rfl
  have fy2 := blk_frozen BR8.out 2
  have y3 : w8.cell? ⟨gr, 3, none⟩ = some (.slice none 0 0) := (blk_cell BR8.out 3).trans rfl
  have fy3 := blk_frozen BR8.out 3
  have y4 : w8.cell? ⟨gr, 4, none⟩ = some (.bool false) := (blk_cell BR8.out 4).trans rfl
  have fy4 := blk_frozen BR8.out 4
  have y5 : w8.cell? ⟨gr, 5, none⟩ = some (.bool false) := (blk_cell BR8.out 5).trans rfl
  have fy5 := blk_frozen BR8.out 5
  have y6 : w8.cell? ⟨gr, 6, none⟩ = some (.bool false) := (blk_cell BR8.out 6).trans rfl
  have fy6 := blk_frozen BR8.out 6
  refine skip_ (w1 := ?_) (by rfl) rfl ?_ ?_; rotate_left; (go_simp; rfl)
  clear y0 y1 y2 y3 y4 y5 y6 fy0 fy1 fy2 fy3 fy4 fy5 fy6
  have br0 := blk_put (cs' := #[.int .i64 ph, .int .i64 0, .slice none 0 0, .slice none 0 0, .bool false, .bool false, .bool false]) BR8.out 0 (.int .i64 ph) rfl
  have hm0 := Kd.R_set HW8.out.m BR8.out (fun q hq => by rw [List.mem_singleton.1 hq]; decide) 0 (.int .i64 ph)
  have hs0 := Kd.R_set HW8.out.s BR8.out (fun q hq => by rw [List.mem_singleton.1 hq]; decide) 0 (.int .i64 ph)
  have hb0 := below_set HB8.out GR.out (j := 0) (v := .int .i64 ph)
  have br1 := blk_put (cs' := #[.int .i64 ph, .int .i64 at_, .slice none 0 0, .slice none 0 0, .bool false, .bool false, .bool false]) br0 1 (.int .i64 at_) rfl
  have hm1 := Kd.R_set hm0 br0 (fun q hq => by rw [List.mem_singleton.1 hq]; decide) 1 (.int .i64 at_)
  have hs1 := Kd.R_set hs0 br0 (fun q hq => by rw [List.mem_singleton.1 hq]; decide) 1 (.int .i64 at_)
  have hb1 := below_set hb0 GR.out (j := 1) (v := .int .i64 at_)
  have br2 := blk_put (cs' := #[.int .i64 ph, .int .i64 at_, .slice Am m.length cm, .slice none 0 0, .bool false, .bool false, .bool false]) br1 2 (.slice Am m.length cm) rfl
  have hm2 := Kd.R_set hm1 br1 (fun q hq => by rw [List.mem_singleton.1 hq]; decide) 2 (.slice Am m.length cm)
  have hs2 := Kd.R_set hs1 br1 (fun q hq => by rw [List.mem_singleton.1 hq]; decide) 2 (.slice Am m.length cm)
  have hb2 := below_set hb1 GR.out (j := 2) (v := .slice Am m.length cm)
  have br3 := blk_put (cs' := #[.int .i64 ph, .int .i64 at_, .slice Am m.length cm, .slice As st.length cs, .bool false, .bool false, .bool false]) br2 3 (.slice As st.length cs) rfl
  have hm3 := Kd.R_set hm2 br2 (fun q hq => by rw [List.mem_singleton.1 hq]; decide) 3 (.slice As st.length cs)
  have hs3 := Kd.R_set hs2 br2 (fun q hq => by rw [List.mem_singleton.1 hq]; decide) 3 (.slice As st.length cs)
  have hb3 := below_set hb2 GR.out (j := 3) (v := .slice As st.length cs)
  have br4 := blk_put (cs' := #[.int .i64 ph, .int .i64 at_, .slice Am m.length cm, .slice As st.length cs, .bool ov, .bool false, .bool false]) br3 4 (.bool ov) rfl
  have hm4 := Kd.R_set hm3 br3 (fun q hq => by rw [List.mem_singleton.1 hq]; decide) 4 (.bool ov)
  have hs4 := Kd.R_set hs3 br3 (fun q hq => by rw [List.mem_singleton.1 hq]; decide) 4 (.bool ov)
  have hb4 := below_set hb3 GR.out (j := 4) (v := .bool ov)
  have br5 := blk_put (cs' := #[.int .i64 ph, .int .i64 at_, .slice Am m.length cm, .slice As st.length cs, .bool ov, .bool ag, .bool false]) br4 5 (.bool ag) rfl
  have hm5 := Kd.R_set hm4 br4 (fun q hq => by rw [List.mem_singleton.1 hq]; decide) 5 (.bool ag)
  have hs5 := Kd.R_set hs4 br4 (fun q hq => by rw [List.mem_singleton.1 hq]; decide) 5 (.bool ag)
  have hb5 := below_set hb4 GR.out (j := 5) (v := .bool ag)
  have br6 := blk_put (cs' := #[.int .i64 ph, .int .i64 at_, .slice Am m.length cm, .slice As st.length cs, .bool ov, .bool ag, .bool sc]) br5 6 (.bool sc) rfl
  have hm6 := Kd.R_set hm5 br5 (fun q hq => by rw [List.mem_singleton.1 hq]; decide) 6 (.bool sc)
  have hs6 := Kd.R_set hs5 br5 (fun q hq => by rw [List.mem_singleton.1 hq]; decide) 6 (.bool sc)
  have hb6 := below_set hb5 GR.out (j := 6) (v := .bool sc)
  have ngr := blk_ne HW8.out.blk BR8.out (by decide)
  have bw := (blk_far (blk_far (blk_far (blk_far (blk_far (blk_far (blk_far HW8.out.blk (p := ⟨gr, 0, none⟩) ngr (.int .i64 ph)) (p := ⟨gr, 1, none⟩) ngr (.int .i64 at_)) (p := ⟨gr, 2, none⟩) ngr (.slice Am m.length cm)) (p := ⟨gr, 3, none⟩) ngr (.slice As st.length cs)) (p := ⟨gr, 4, none⟩) ngr (.bool ov)) (p := ⟨gr, 5, none⟩) ngr (.bool ag)) (p := ⟨gr, 6, none⟩) ngr (.bool sc))
  have BR9 := ak br6
  have HM9 := ak hm6
  have HS9 := ak hs6
  have HB9 := ak hb6
  clear br0 br1 br2 br3 br4 br5 br6 hm0 hm1 hm2 hm3 hm4 hm5 hm6 hs0 hs1 hs2 hs3 hs4 hs5 hs6 hb0 hb1 hb2 hb3 hb4 hb5 hb6
  refine hK.out _ _ ⟨(blk_cell bw 3).trans rfl, (blk_cell bw 4).trans rfl, (blk_cell bw 5).trans rfl, (blk_cell bw 6).trans rfl, (blk_cell bw 7).trans rfl, (blk_cell bw 8).trans rfl, (blk_cell bw 9).trans rfl⟩ (fun hHeld => ?_)
  clear hK K bw
  (refine pL (N := some _) rfl rfl (by kernel_rfl) (fun _ _ _ h => h) (by rfl) (v := ?_) (a' := ?_) ?_ ?_ ?_; rotate_left; (intro w'; go_simp; with_reducible rfl); rotate_left; (simp only [Act.put, sq0, sq1, sq2, sq3, sq4]; rfl))
  refine dL (by kernel_rfl) ?_
  go_wp2
  refine bodyPost_ret (results_ct rfl _ _ gr 28 #[.int .i64 ph, .int .i64 at_, .slice Am m.length cm, .slice As st.length cs, .bool ov, .bool ag, .bool sc] (0, 0) _ rfl BR9.out Try.underlying28 rfl (by kernel_rfl)) rfl ?_
  exact ⟨_, _, by first | rfl | (simp; done), Kd.R_lower (Kd.R_mono HM9.out (fun _ _ => trivial)) HB3.out.size, Kd.R_lower (Kd.R_mono HS9.out (fun _ _ => trivial)) HB3.out.size, HB9.out⟩
 have hh := HH.out
 rw [if_pos hz] at hh
 obtain ⟨x', hu, hh⟩ := Option.bind_eq_some_iff.1 hh
 have hh := Option.some.inj hh
 unfold MS.tup at hh
 simp only [Prod.mk.injEq] at hh
 obtain ⟨rfl, rfl, rfl, rfl, rfl, rfl, rfl, rfl⟩ := hh
 subst hz
 have HU := ak hu
 clear hu HH
 go_enter Try.func26, Try.ntmps26
 go_wp2_with (first | ((with_reducible refine gate_dst (N := 3) rfl ?_); refine box_event ?hg (N := 3) ?hd (cs := #[.slice A0 lc.length c0, .slice A1 lr.length c1]) (t := 25) ?hr ?_; (case hd => rfl); (case hg => rfl); (case hr => first | (go_simp; done) | (go_simp; rfl)); intro gb hg w1 hb1 hx1; have HB1 := ak hx1; have BK := ak hb1; clear hg hb1 hx1; have q0 : w1.cell? ⟨gb, 0, none⟩ = some (.slice A0 lc.length c0) := (blk_cell BK.out 0).trans rfl; have q1 : w1.cell? ⟨gb, 1, none⟩ = some (.slice A1 lr.length c1) := (blk_cell BK.out 1).trans rfl) | ((with_reducible refine gate_dst (N := 5) rfl ?_); refine box_event ?hg (N := 5) ?hd (cs := #[.int .i64 ph, .int .i64 at_, .slice A2 m.length c2, .slice A3 st.length c3, .bool ov, .bool ag, .bool sc]) (t := 28) ?hr ?_; (case hd => rfl); (case hg => rfl); (case hr => first | (go_simp; done) | (go_simp; rfl)); intro gs hg w2 hb2 hx2; have HB2 := ak (HB1.out.trans (hx2.mono HB1.out.size)); have BK2 := ak (blk_below BK.out hx2); have BS2 := ak hb2; clear hg hb2 hx2 q0 q1) | ((with_reducible refine gate_dst (N := 6) rfl ?_); refine box_event ?hg (N := 6) ?hd (cs := #[.int .i64 0, .int .i64 0, .slice none 0 0, .slice none 0 0, .bool false, .bool false, .bool false]) (t := 28) ?hr ?_; (case hd => rfl); (case hg => rfl); (case hr => first | (go_simp; done) | (go_simp; rfl)); intro gr hg w3 hb3 hx3; have HB3 := ak (HB2.out.trans (hx3.mono HB2.out.size)); have BK3 := ak (blk_below BK2.out hx3); have BS3 := ak (blk_below BS2.out hx3); have BR3 := ak hb3; have GR := ak (show w.heap.size ≤ gr from by rw [hg]; exact HB2.out.size); clear hg hb3 hx3 HB1 BK HB2 BK2 BS2; have q0 : w3.cell? ⟨gb, 0, none⟩ = some (.slice A0 lc.length c0) := (blk_cell BK3.out 0).trans rfl; have q1 : w3.cell? ⟨gb, 1, none⟩ = some (.slice A1 lr.length c1) := (blk_cell BK3.out 1).trans rfl; have s0 : w3.cell? ⟨gs, 0, none⟩ = some (.int .i64 ph) := (blk_cell BS3.out 0).trans rfl; have s1 : w3.cell? ⟨gs, 1, none⟩ = some (.int .i64 at_) := (blk_cell BS3.out 1).trans rfl; have s2 : w3.cell? ⟨gs, 2, none⟩ = some (.slice A2 m.length c2) := (blk_cell BS3.out 2).trans rfl; have s3 : w3.cell? ⟨gs, 3, none⟩ = some (.slice A3 st.length c3) := (blk_cell BS3.out 3).trans rfl; have s4 : w3.cell? ⟨gs, 4, none⟩ = some (.bool ov) := (blk_cell BS3.out 4).trans rfl; have s5 : w3.cell? ⟨gs, 5, none⟩ = some (.bool ag) := (blk_cell BS3.out 5).trans rfl; have s6 : w3.cell? ⟨gs, 6, none⟩ = some (.bool sc) := (blk_cell BS3.out 6).trans rfl) | (go_at_call 36; (with_reducible refine (HBG.out _ HB3.out).mono ?_); rintro e w4 ⟨g, vm, vs, rfl, hw4, hb4⟩; have HB4 := ak (HB3.out.trans (hb4.mono HB3.out.size)); have HV := ak hb4; have BR4 := ak (blk_below BR3.out hb4); have HW4 := ak hw4; have GL := ak (blk_lt BR3.out); clear q0 q1 s0 s1 s2 s3 s4 s5 s6 hw4 hb4) | (go_at_call 37; (with_reducible refine (wk_unit k w3 A0 c0 lc A1 c1 lr room (fun k => k < w3.heap.size) w4 w3.heap.size g vm vs _ _ (Kd.C_below HR0.out HB3.out) HC0.out (Kd.C_below HR1.out HB3.out) HC1.out HV.out (fun _ hk => hk) HW4.out (fun _ hk => Nat.lt_of_lt_of_le hk HV.out.size) HV.out.size HU.out).mono ?_); rintro e w5 ⟨⟨v, rfl⟩, vm5, vs5, hw5, hk5⟩; have hv5 := hk5.below (fun _ hk => hk) HV.out.size; have HV5 := ak (HV.out.trans hv5); have HB5 := ak (HB3.out.trans (HV5.out.mono HB3.out.size)); have BR5 := ak (blk_below BR3.out HV5.out); have HW5 := ak hw5; clear hw5 hk5 hv5))
 obtain ⟨Am, cm, rfl⟩ := Kd.R_slice HW5.out.m
 obtain ⟨As, cs, rfl⟩ := Kd.R_slice HW5.out.s
 refine sL (n := 16) (S := fun w' => w'.cell? ⟨g, 3, none⟩ = some (.int .i64 x'.ph) ∧ w'.cell? ⟨g, 4, none⟩ = some (.int .i64 x'.at_) ∧ w'.cell? ⟨g, 5, none⟩ = some (.slice Am x'.marks.length cm) ∧ w'.cell? ⟨g, 6, none⟩ = some (.slice As x'.stack.length cs) ∧ w'.cell? ⟨g, 7, none⟩ = some (.bool x'.over) ∧ w'.cell? ⟨g, 8, none⟩ = some (.bool x'.again) ∧ w'.cell? ⟨g, 9, none⟩ = some (.bool x'.scan)) (ds := []) (by kernel_rfl) rfl ⟨(blk_cell HW5.out.blk 3).trans rfl, (blk_cell HW5.out.blk 4).trans rfl, (blk_cell HW5.out.blk 5).trans rfl, (blk_cell HW5.out.blk 6).trans rfl, (blk_cell HW5.out.blk 7).trans rfl, (blk_cell HW5.out.blk 8).trans rfl, (blk_cell HW5.out.blk 9).trans rfl⟩ (fun hHeld => ?_)
 have HW8 := ak HW5.out.drew
 have BR8 := ak (blk_drew BR5.out)
 have HB8 := ak (below_drew HB5.out)
 generalize w5.drew = w8 at hHeld HW8 BR8 HB8 ⊢
 iterate 3 (refine pL (N := some _) rfl rfl (by kernel_rfl) (fun _ _ _ h => h) (by rfl) (v := ?_) (a' := ?_) ?_ ?_ ?_; rotate_left; (intro w'; go_simp; with_reducible rfl); rotate_left; (simp only [Act.put, sq0, sq1, sq2, sq3, sq4]; rfl))
 (refine tL (N := some _) rfl rfl (by kernel_rfl) (fun _ _ _ h => h) hHeld (by rfl) (v := ?_) (a' := ?_) ?_ ?_ ?_; rotate_left; (rintro w' ⟨z0, z1, z2, z3, z4, z5, z6⟩; go_simp; with_reducible rfl); rotate_left; (simp only [Act.put, sq0, sq1, sq2, sq3, sq4]; rfl))
 iterate 7 (refine pL (N := some _) rfl rfl (by kernel_rfl) (fun _ _ _ h => h) (by rfl) (v := ?_) (a' := ?_) ?_ ?_ ?_; rotate_left; (intro w'; go_simp; with_reducible rfl); rotate_left; (simp only [Act.put, sq0, sq1, sq2, sq3, sq4]; rfl))
 (refine tL (N := some _) rfl rfl (by kernel_rfl) (fun _ _ _ h => h) hHeld (by rfl) (v := ?_) (a' := ?_) ?_ ?_ ?_; rotate_left; (rintro w' ⟨z0, z1, z2, z3, z4, z5, z6⟩; go_simp; with_reducible rfl); rotate_left; (simp only [Act.put, sq0, sq1, sq2, sq3, sq4]; rfl))
 iterate 2 (refine pL (N := some _) rfl rfl (by kernel_rfl) (fun _ _ _ h => h) (by rfl) (v := ?_) (a' := ?_) ?_ ?_ ?_; rotate_left; (intro w'; go_simp; with_reducible rfl); rotate_left; (simp only [Act.put, sq0, sq1, sq2, sq3, sq4]; rfl))
 refine nL (N := none) rfl rfl (by kernel_rfl) (by decide) (fun K hK => ?_)
 have y0 : w8.cell? ⟨gr, 0, none⟩ = some (.int .i64 0) := (blk_cell BR8.out 0).trans rfl
 have fy0 := blk_frozen BR8.out 0
 have y1 : w8.cell? ⟨gr, 1, none⟩ = some (.int .i64 0) := (blk_cell BR8.out 1).trans rfl
 have fy1 := blk_frozen BR8.out 1
 have y2 : w8.cell? ⟨gr, 2, none⟩ = some (.slice none 0 0) := (blk_cell BR8.out 2).trans rfl
 have fy2 := blk_frozen BR8.out 2
 have y3 : w8.cell? ⟨gr, 3, none⟩ = some (.slice none 0 0) := (blk_cell BR8.out 3).trans rfl
 have fy3 := blk_frozen BR8.out 3
 have y4 : w8.cell? ⟨gr, 4, none⟩ = some (.bool false) := (blk_cell BR8.out 4).trans rfl
 have fy4 := blk_frozen BR8.out 4
 have y5 : w8.cell? ⟨gr, 5, none⟩ = some (.bool false) := (blk_cell BR8.out 5).trans rfl
 have fy5 := blk_frozen BR8.out 5
 have y6 : w8.cell? ⟨gr, 6, none⟩ = some (.bool false) := (blk_cell BR8.out 6).trans rfl
 have fy6 := blk_frozen BR8.out 6
 refine skip_ (w1 := ?_) (by rfl) rfl ?_ ?_; rotate_left; (go_simp; rfl)
 clear y0 y1 y2 y3 y4 y5 y6 fy0 fy1 fy2 fy3 fy4 fy5 fy6
 have br0 := blk_put (cs' := #[.int .i64 x'.ph, .int .i64 0, .slice none 0 0, .slice none 0 0, .bool false, .bool false, .bool false]) BR8.out 0 (.int .i64 x'.ph) rfl
 have hm0 := Kd.R_set HW8.out.m BR8.out (fun q hq => by rw [List.mem_singleton.1 hq]; decide) 0 (.int .i64 x'.ph)
 have hs0 := Kd.R_set HW8.out.s BR8.out (fun q hq => by rw [List.mem_singleton.1 hq]; decide) 0 (.int .i64 x'.ph)
 have hb0 := below_set HB8.out GR.out (j := 0) (v := .int .i64 x'.ph)
 have br1 := blk_put (cs' := #[.int .i64 x'.ph, .int .i64 x'.at_, .slice none 0 0, .slice none 0 0, .bool false, .bool false, .bool false]) br0 1 (.int .i64 x'.at_) rfl
 have hm1 := Kd.R_set hm0 br0 (fun q hq => by rw [List.mem_singleton.1 hq]; decide) 1 (.int .i64 x'.at_)
 have hs1 := Kd.R_set hs0 br0 (fun q hq => by rw [List.mem_singleton.1 hq]; decide) 1 (.int .i64 x'.at_)
 have hb1 := below_set hb0 GR.out (j := 1) (v := .int .i64 x'.at_)
 have br2 := blk_put (cs' := #[.int .i64 x'.ph, .int .i64 x'.at_, .slice Am x'.marks.length cm, .slice none 0 0, .bool false, .bool false, .bool false]) br1 2 (.slice Am x'.marks.length cm) rfl
 have hm2 := Kd.R_set hm1 br1 (fun q hq => by rw [List.mem_singleton.1 hq]; decide) 2 (.slice Am x'.marks.length cm)
 have hs2 := Kd.R_set hs1 br1 (fun q hq => by rw [List.mem_singleton.1 hq]; decide) 2 (.slice Am x'.marks.length cm)
 have hb2 := below_set hb1 GR.out (j := 2) (v := .slice Am x'.marks.length cm)
 have br3 := blk_put (cs' := #[.int .i64 x'.ph, .int .i64 x'.at_, .slice Am x'.marks.length cm, .slice As x'.stack.length cs, .bool false, .bool false, .bool false]) br2 3 (.slice As x'.stack.length cs) rfl
 have hm3 := Kd.R_set hm2 br2 (fun q hq => by rw [List.mem_singleton.1 hq]; decide) 3 (.slice As x'.stack.length cs)
 have hs3 := Kd.R_set hs2 br2 (fun q hq => by rw [List.mem_singleton.1 hq]; decide) 3 (.slice As x'.stack.length cs)
 have hb3 := below_set hb2 GR.out (j := 3) (v := .slice As x'.stack.length cs)
 have br4 := blk_put (cs' := #[.int .i64 x'.ph, .int .i64 x'.at_, .slice Am x'.marks.length cm, .slice As x'.stack.length cs, .bool x'.over, .bool false, .bool false]) br3 4 (.bool x'.over) rfl
 have hm4 := Kd.R_set hm3 br3 (fun q hq => by rw [List.mem_singleton.1 hq]; decide) 4 (.bool x'.over)
 have hs4 := Kd.R_set hs3 br3 (fun q hq => by rw [List.mem_singleton.1 hq]; decide) 4 (.bool x'.over)
 have hb4 := below_set hb3 GR.out (j := 4) (v := .bool x'.over)
 have br5 := blk_put (cs' := #[.int .i64 x'.ph, .int .i64 x'.at_, .slice Am x'.marks.length cm, .slice As x'.stack.length cs, .bool x'.over, .bool x'.again, .bool false]) br4 5 (.bool x'.again) rfl
 have hm5 := Kd.R_set hm4 br4 (fun q hq => by rw [List.mem_singleton.1 hq]; decide) 5 (.bool x'.again)
 have hs5 := Kd.R_set hs4 br4 (fun q hq => by rw [List.mem_singleton.1 hq]; decide) 5 (.bool x'.again)
 have hb5 := below_set hb4 GR.out (j := 5) (v := .bool x'.again)
 have br6 := blk_put (cs' := #[.int .i64 x'.ph, .int .i64 x'.at_, .slice Am x'.marks.length cm, .slice As x'.stack.length cs, .bool x'.over, .bool x'.again, .bool x'.scan]) br5 6 (.bool x'.scan) rfl
 have hm6 := Kd.R_set hm5 br5 (fun q hq => by rw [List.mem_singleton.1 hq]; decide) 6 (.bool x'.scan)
 have hs6 := Kd.R_set hs5 br5 (fun q hq => by rw [List.mem_singleton.1 hq]; decide) 6 (.bool x'.scan)
 have hb6 := below_set hb5 GR.out (j := 6) (v := .bool x'.scan)
 have ngr := blk_ne HW8.out.blk BR8.out (by decide)
 have bw := (blk_far (blk_far (blk_far (blk_far (blk_far (blk_far (blk_far HW8.out.blk (p := ⟨gr, 0, none⟩) ngr (.int .i64 x'.ph)) (p := ⟨gr, 1, none⟩) ngr (.int .i64 x'.at_)) (p := ⟨gr, 2, none⟩) ngr (.slice Am x'.marks.length cm)) (p := ⟨gr, 3, none⟩) ngr (.slice As x'.stack.length cs)) (p := ⟨gr, 4, none⟩) ngr (.bool x'.over)) (p := ⟨gr, 5, none⟩) ngr (.bool x'.again)) (p := ⟨gr, 6, none⟩) ngr (.bool x'.scan))
 have BR9 := ak br6
 have HM9 := ak hm6
 have HS9 := ak hs6
 have HB9 := ak hb6
 clear br0 br1 br2 br3 br4 br5 br6 hm0 hm1 hm2 hm3 hm4 hm5 hm6 hs0 hs1 hs2 hs3 hs4 hs5 hs6 hb0 hb1 hb2 hb3 hb4 hb5 hb6
 refine hK.out _ _ ⟨(blk_cell bw 3).trans rfl, (blk_cell bw 4).trans rfl, (blk_cell bw 5).trans rfl, (blk_cell bw 6).trans rfl, (blk_cell bw 7).trans rfl, (blk_cell bw 8).trans rfl, (blk_cell bw 9).trans rfl⟩ (fun hHeld => ?_)
 clear hK K bw
 (refine pL (N := some _) rfl rfl (by kernel_rfl) (fun _ _ _ h => h) (by rfl) (v := ?_) (a' := ?_) ?_ ?_ ?_; rotate_left; (intro w'; go_simp; with_reducible rfl); rotate_left; (simp only [Act.put, sq0, sq1, sq2, sq3, sq4]; rfl))
 refine dL (by kernel_rfl) ?_
 go_wp2
 refine bodyPost_ret (results_ct rfl _ _ gr 28 #[.int .i64 x'.ph, .int .i64 x'.at_, .slice Am x'.marks.length cm, .slice As x'.stack.length cs, .bool x'.over, .bool x'.again, .bool x'.scan] (0, 0) _ rfl BR9.out Try.underlying28 rfl (by kernel_rfl)) rfl ?_
 exact ⟨_, _, by first | rfl | (simp; done), Kd.R_lower (Kd.R_mono HM9.out (fun _ _ => trivial)) HB3.out.size, Kd.R_lower (Kd.R_mono HS9.out (fun _ _ => trivial)) HB3.out.size, HB9.out⟩
/-! ### atticref19_cell: function 42 -/
def atticref19_cell.f (l0_0 : List (S56)) (l0_1 : List Int) (a1 : Int) : Option (Bool) := if a1 ≥ 0 then (if a1 < (l0_0.length : Int) then (if 0 ≤ a1 then (some (((rd_T56 l0_0 a1).f0) != 0)) else (none)) else (some false)) else (some false)
set_option maxHeartbeats 8000000 in
set_option maxRecDepth 100000 in
theorem atticref19_cell.calls (A0_0 : Option Addr) (c0_0 : Nat) (l0_0 : List (S56)) (A0_1 : Option Addr) (c0_1 : Nat) (l0_1 : List Int) (a1 : Int) (r : Bool) (w : World) (hr0_0 : Kd.C k56 w A0_0 l0_0.length l0_0) (hc0_0 : l0_0.length ≤ c0_0) (hr0_1 : Kd.C (Kd.int .i64) w A0_1 l0_1.length l0_1) (hc0_1 : l0_1.length ≤ c0_1) (h : atticref19_cell.f l0_0 l0_1 a1 = some r) :
  Calls Try.prog 42 #[.agg #[.slice A0_0 l0_0.length c0_0, .slice A0_1 l0_1.length c0_1], .int .i64 a1] w fun e w' => e = .returned (.bool r) ∧ Below w.heap.size w w' := by
 have hu25 := Try.underlying25
 have HR0_0 := ak hr0_0
 have HC0_0 := ak hc0_0
 clear hr0_0 hc0_0
 have HR0_1 := ak hr0_1
 have HC0_1 := ak hc0_1
 clear hr0_1 hc0_1
 have HB := ak (Below.refl w.heap.size w)
 have H : (if a1 ≥ 0 then (if a1 < (l0_0.length : Int) then (if 0 ≤ a1 then (some (((rd_T56 l0_0 a1).f0) != 0)) else (none)) else (some false)) else (some false)) = some r := h
 clear h
 by_cases c3 : a1 ≥ 0; rotate_left
 ·rw [if_neg c3] at H
  have c3b0 : decide (0 ≤ a1) = false := decide_eq_false c3
  clear c3
  obtain rfl := Option.some.inj H
  go_enter Try.func42, Try.ntmps42
  go_wp2_with (first | ((with_reducible refine gate_dst (N := 2) rfl ?_); (try (refine gate_guard (by rfl) ?_; dsimp only)); refine box_event ?hg (N := 2) ?hd (cs := #[.slice A0_0 l0_0.length c0_0, .slice A0_1 l0_1.length c0_1]) (t := 25) ?hr ?_; (case hd => rfl); (case hg => rfl); (case hr => first | (go_simp; done) | (go_simp; rfl)); intro gb205 hg w10 hbox hb; have n0_ := ak (below_step (by repeat (first | (with_reducible first | exact HB.out | apply ba_ | apply bn_ | apply b1_) | exact HB.out)) hb); have n1_ := ak (hbox); have n2_ := ak ((by rw [hg]; exact (below_size (by repeat (first | (with_reducible first | exact HB.out | apply ba_ | apply bn_ | apply b1_) | exact HB.out))) : w.heap.size ≤ gb205)); have n3_ := n2_; clear HB; have HB := n0_; have BK205 := n1_; have GW205 := n2_; have GE205 := n3_; clear n0_ n1_ n2_ n3_ hb hbox hg))
  go_ret
  exact ⟨by first | rfl | (simp [errW_none, errW_some] <;> rfl) | (simp [*, errW_none, errW_some] <;> rfl) | (simp [Int.tdiv_eq_ediv_of_nonneg]; done), by repeat (first | (with_reducible first | exact HB.out | apply ba_ | apply bn_ | apply b1_ | refine bs_ ?_ GE205.out) | exact HB.out)⟩
 rw [if_pos c3] at H
 have c3b0 : decide (0 ≤ a1) = true := decide_eq_true c3
 clear c3
 by_cases c4 : a1 < (l0_0.length : Int); rotate_left
 ·rw [if_neg c4] at H
  have c4b0 : decide (a1 < (l0_0.length : Int)) = false := decide_eq_false c4
  clear c4
  obtain rfl := Option.some.inj H
  go_enter Try.func42, Try.ntmps42
  go_wp2_with (first | ((with_reducible refine gate_dst (N := 2) rfl ?_); (try (refine gate_guard (by rfl) ?_; dsimp only)); refine box_event ?hg (N := 2) ?hd (cs := #[.slice A0_0 l0_0.length c0_0, .slice A0_1 l0_1.length c0_1]) (t := 25) ?hr ?_; (case hd => rfl); (case hg => rfl); (case hr => first | (go_simp; done) | (go_simp; rfl)); intro gb205 hg w8 hbox hb; have n0_ := ak (below_step (by repeat (first | (with_reducible first | exact HB.out | apply ba_ | apply bn_ | apply b1_) | exact HB.out)) hb); have n1_ := ak (hbox); have n2_ := ak ((by rw [hg]; exact (below_size (by repeat (first | (with_reducible first | exact HB.out | apply ba_ | apply bn_ | apply b1_) | exact HB.out))) : w.heap.size ≤ gb205)); have n3_ := n2_; clear HB; have HB := n0_; have BK205 := n1_; have GW205 := n2_; have GE205 := n3_; clear n0_ n1_ n2_ n3_ hb hbox hg; obtain ⟨z9_0, z9_1, f9_0, f9_1⟩ := kk2 BK205.out))
  go_ret
  exact ⟨by first | rfl | (simp [errW_none, errW_some] <;> rfl) | (simp [*, errW_none, errW_some] <;> rfl) | (simp [Int.tdiv_eq_ediv_of_nonneg]; done), by repeat (first | (with_reducible first | exact HB.out | apply ba_ | apply bn_ | apply b1_ | refine bs_ ?_ GE205.out) | exact HB.out)⟩
 rw [if_pos c4] at H
 have c4b0 : decide (a1 < (l0_0.length : Int)) = true := decide_eq_true c4
 clear c4
 by_cases c5 : 0 ≤ a1; rotate_left
 ·rw [if_neg c5] at H
  exact absurd H (by simp)
 rw [if_pos c5] at H
 have c5b0 : decide (0 ≤ a1) = true := decide_eq_true c5
 clear c5
 obtain rfl := Option.some.inj H
 go_enter Try.func42, Try.ntmps42
 go_wp2_with (first | ((with_reducible refine gate_dst (N := 2) rfl ?_); (try (refine gate_guard (by rfl) ?_; dsimp only)); refine box_event ?hg (N := 2) ?hd (cs := #[.slice A0_0 l0_0.length c0_0, .slice A0_1 l0_1.length c0_1]) (t := 25) ?hr ?_; (case hd => rfl); (case hg => rfl); (case hr => first | (go_simp; done) | (go_simp; rfl)); intro gb205 hg w6 hbox hb; have n0_ := ak (below_step (by repeat (first | (with_reducible first | exact HB.out | apply ba_ | apply bn_ | apply b1_) | exact HB.out)) hb); have n1_ := ak (hbox); have n2_ := ak ((by rw [hg]; exact (below_size (by repeat (first | (with_reducible first | exact HB.out | apply ba_ | apply bn_ | apply b1_) | exact HB.out))) : w.heap.size ≤ gb205)); have n3_ := n2_; clear HB; have HB := n0_; have BK205 := n1_; have GW205 := n2_; have GE205 := n3_; clear n0_ n1_ n2_ n3_ hb hbox hg; obtain ⟨z7_0, z7_1, f7_0, f7_1⟩ := kk2 BK205.out; have p206 : 0 ≤ (a1 : Int) := of_decide_eq_true (by first | (with_reducible assumption) | assumption); have q206 : a1 < (l0_0.length : Int) := of_decide_eq_true (by first | (with_reducible assumption) | assumption); obtain ⟨ad206, A206_1, c206_1, e206, hx206_0, hx206_1, hl206_1, hi206_1⟩ := at_T56 HR0_0.out a1 p206 q206; cases e206; replace hx206_0 := (HB.out.cell (World.block_lt_of_cell? w _ hx206_0)).trans hx206_0; replace hx206_1 := (HB.out.cell (World.block_lt_of_cell? w _ hx206_1)).trans hx206_1; have HR206_1 := ak hi206_1; have HC206_1 := ak hl206_1; clear hi206_1 hl206_1; replace p206 := eq_true p206; replace q206 := eq_true q206))
 go_ret
 exact ⟨by first | rfl | (simp [errW_none, errW_some] <;> rfl) | (simp [*, errW_none, errW_some] <;> rfl) | (simp [Int.tdiv_eq_ediv_of_nonneg]; done), by repeat (first | (with_reducible first | exact HB.out | apply ba_ | apply bn_ | apply b1_ | refine bs_ ?_ GE205.out) | exact HB.out)⟩
/-! ### atticref19_CheckView: function 17 -/
mutual
def atticref19_CheckView.l0 : Nat → Int → List (S56) → List Int → Option (Int)
 | 0, _, _, _ => none
 | k + 1, x3, x208000, x208001 => if x3 < (x208000.length : Int) then (if 0 ≤ x3 then (if ((rd_T56 x208000 x3).f0) < 0 then (atticref19_CheckView.j1 k x3 true x208000 x208001 ((rd_T56 x208000 x3).f0) ((rd_T56 x208000 x3).f1)) else (if ((rd_T56 x208000 x3).f0) > 3 then (atticref19_CheckView.j1 k x3 true x208000 x208001 ((rd_T56 x208000 x3).f0) ((rd_T56 x208000 x3).f1)) else (if ((rd_T56 x208000 x3).f0) = 0 then (if (((rd_T56 x208000 x3).f1).length : Int) > 0 then (atticref19_CheckView.j1 k x3 true x208000 x208001 ((rd_T56 x208000 x3).f0) ((rd_T56 x208000 x3).f1)) else (if ((rd_T56 x208000 x3).f0) = 3 then (atticref19_CheckView.j1 k x3 ((((rd_T56 x208000 x3).f1).length : Int) == 0) x208000 x208001 ((rd_T56 x208000 x3).f0) ((rd_T56 x208000 x3).f1)) else (atticref19_CheckView.j1 k x3 false x208000 x208001 ((rd_T56 x208000 x3).f0) ((rd_T56 x208000 x3).f1)))) else (if ((rd_T56 x208000 x3).f0) = 3 then (atticref19_CheckView.j1 k x3 ((((rd_T56 x208000 x3).f1).length : Int) == 0) x208000 x208001 ((rd_T56 x208000 x3).f0) ((rd_T56 x208000 x3).f1)) else (atticref19_CheckView.j1 k x3 false x208000 x208001 ((rd_T56 x208000 x3).f0) ((rd_T56 x208000 x3).f1)))))) else (none)) else (atticref19_CheckView.l2 k 0 x208000 x208001)
def atticref19_CheckView.j1 : Nat → Int → Bool → List (S56) → List Int → Int → List Int → Option (Int)
 | 0, _, _, _, _, _, _ => none
 | k + 1, x3, x52, x208000, x208001, x210000, x210001 => if x52 = true then (some 190) else (atticref19_CheckView.l1 k x3 0 x208000 x208001 x210000 x210001)
def atticref19_CheckView.l1 : Nat → Int → Int → List (S56) → List Int → Int → List Int → Option (Int)
 | 0, _, _, _, _, _, _ => none
 | k + 1, x3, x5, x208000, x208001, x210000, x210001 => if x5 < (x210001.length : Int) then (if 0 ≤ x5 then (if (rd x210001 x5) = (-1) then (atticref19_CheckView.l1 k x3 (wrap64 (x5 + 1)) x208000 x208001 x210000 x210001) else ((atticref19_cell.f x208000 x208001 (rd x210001 x5)).bind fun t212 => (if t212 = true then (atticref19_CheckView.l1 k x3 (wrap64 (x5 + 1)) x208000 x208001 x210000 x210001) else (some 190)))) else (none)) else (atticref19_CheckView.l0 k (wrap64 (x3 + 1)) x208000 x208001)
def atticref19_CheckView.l2 : Nat → Int → List (S56) → List Int → Option (Int)
 | 0, _, _, _ => none
 | k + 1, x6, x208000, x208001 => if x6 < (x208001.length : Int) then (if 0 ≤ x6 then ((atticref19_cell.f x208000 x208001 (rd x208001 x6)).bind fun t214 => (if t214 = true then (atticref19_CheckView.l2 k (wrap64 (x6 + 1)) x208000 x208001) else (some 190))) else (none)) else (some 0)
end
def atticref19_CheckView.f (k : Nat) (l0_0 : List (S56)) (l0_1 : List Int) : Option (Int) := if (l0_0.length : Int) > 8192 then (some 190) else (atticref19_CheckView.l0 k 0 l0_0 l0_1)
theorem atticref19_CheckView.mono_l : ∀ k, (∀ y0 y1 y2, LeO (atticref19_CheckView.l0 k y0 y1 y2) (atticref19_CheckView.l0 (k + 1) y0 y1 y2)) ∧ (∀ y0 y1 y2 y3 y4 y5, LeO (atticref19_CheckView.j1 k y0 y1 y2 y3 y4 y5) (atticref19_CheckView.j1 (k + 1) y0 y1 y2 y3 y4 y5)) ∧ (∀ y0 y1 y2 y3 y4 y5, LeO (atticref19_CheckView.l1 k y0 y1 y2 y3 y4 y5) (atticref19_CheckView.l1 (k + 1) y0 y1 y2 y3 y4 y5)) ∧ (∀ y0 y1 y2, LeO (atticref19_CheckView.l2 k y0 y1 y2) (atticref19_CheckView.l2 (k + 1) y0 y1 y2))
 | 0 => ⟨fun _ _ _ r h => by simp [atticref19_CheckView.l0] at h, fun _ _ _ _ _ _ r h => by simp [atticref19_CheckView.j1] at h, fun _ _ _ _ _ _ r h => by simp [atticref19_CheckView.l1] at h, fun _ _ _ r h => by simp [atticref19_CheckView.l2] at h⟩
 | k + 1 => by
  obtain ⟨ih0, ih1, ih2, ih3⟩ := atticref19_CheckView.mono_l k
  refine ⟨?_, ?_, ?_, ?_⟩
  ·intro y0 y1 y2
   unfold atticref19_CheckView.l0
   repeat' first | (with_reducible first | exact ih0 _ _ _ | exact ih1 _ _ _ _ _ _ | exact ih2 _ _ _ _ _ _ | exact ih3 _ _ _ | exact LeO.refl _ | exact LeO.none _ | refine LeO.ite ?_ ?_ | refine LeO.bind ?_ (fun _ => ?_)) | exact ih0 _ _ _ | exact ih1 _ _ _ _ _ _ | exact ih2 _ _ _ _ _ _ | exact ih3 _ _ _ | exact LeO.none _ | refine LeO.ite ?_ ?_ | refine LeO.bind ?_ (fun _ => ?_)
  ·intro y0 y1 y2 y3 y4 y5
   unfold atticref19_CheckView.j1
   repeat' first | (with_reducible first | exact ih0 _ _ _ | exact ih1 _ _ _ _ _ _ | exact ih2 _ _ _ _ _ _ | exact ih3 _ _ _ | exact LeO.refl _ | exact LeO.none _ | refine LeO.ite ?_ ?_ | refine LeO.bind ?_ (fun _ => ?_)) | exact ih0 _ _ _ | exact ih1 _ _ _ _ _ _ | exact ih2 _ _ _ _ _ _ | exact ih3 _ _ _ | exact LeO.none _ | refine LeO.ite ?_ ?_ | refine LeO.bind ?_ (fun _ => ?_)
  ·intro y0 y1 y2 y3 y4 y5
   unfold atticref19_CheckView.l1
   repeat' first | (with_reducible first | exact ih0 _ _ _ | exact ih1 _ _ _ _ _ _ | exact ih2 _ _ _ _ _ _ | exact ih3 _ _ _ | exact LeO.refl _ | exact LeO.none _ | refine LeO.ite ?_ ?_ | refine LeO.bind ?_ (fun _ => ?_)) | exact ih0 _ _ _ | exact ih1 _ _ _ _ _ _ | exact ih2 _ _ _ _ _ _ | exact ih3 _ _ _ | exact LeO.none _ | refine LeO.ite ?_ ?_ | refine LeO.bind ?_ (fun _ => ?_)
  ·intro y0 y1 y2
   unfold atticref19_CheckView.l2
   repeat' first | (with_reducible first | exact ih0 _ _ _ | exact ih1 _ _ _ _ _ _ | exact ih2 _ _ _ _ _ _ | exact ih3 _ _ _ | exact LeO.refl _ | exact LeO.none _ | refine LeO.ite ?_ ?_ | refine LeO.bind ?_ (fun _ => ?_)) | exact ih0 _ _ _ | exact ih1 _ _ _ _ _ _ | exact ih2 _ _ _ _ _ _ | exact ih3 _ _ _ | exact LeO.none _ | refine LeO.ite ?_ ?_ | refine LeO.bind ?_ (fun _ => ?_)
theorem atticref19_CheckView.mono : ∀ a0 a1 k, LeO (atticref19_CheckView.f k a0 a1) (atticref19_CheckView.f (k + 1) a0 a1) := by
 intro a0 a1 k
 obtain ⟨ih0, ih1, ih2, ih3⟩ := atticref19_CheckView.mono_l k
 unfold atticref19_CheckView.f
 repeat' first | (with_reducible first | exact ih0 _ _ _ | exact ih1 _ _ _ _ _ _ | exact ih2 _ _ _ _ _ _ | exact ih3 _ _ _ | exact LeO.refl _ | exact LeO.none _ | refine LeO.ite ?_ ?_ | refine LeO.bind ?_ (fun _ => ?_)) | exact ih0 _ _ _ | exact ih1 _ _ _ _ _ _ | exact ih2 _ _ _ _ _ _ | exact ih3 _ _ _ | exact LeO.none _ | refine LeO.ite ?_ ?_ | refine LeO.bind ?_ (fun _ => ?_)
def atticref19_CheckView.T12 : Bool × List (List Nat × List Nat) := (true, [([], []), ([0], [0]), ([], []), ([1, 2], [1, 2]), ([3], [3]), ([4], [4]), ([5], [5]), ([6], [6]), ([6], [6]), ([8, 6], [6, 8]), ([6], [6]), ([9, 10, 6], [6, 9, 10]), ([11, 6], [6, 11]), ([7, 12, 6, 6], [6, 7, 12]), ([13, 6], [6, 13]), ([6, 14], [6, 14])])
def atticref19_CheckView.B12 : List Nat := [0, 1, 0, 7, 15, 31, 63, 127, 127, 383, 127, 1919, 3967, 8191, 16383, 32767]
theorem atticref19_CheckView.tab12 : rtab .any (opsOf Try.f17 12) = atticref19_CheckView.T12 := by kernel_rfl
theorem atticref19_CheckView.bits12 : waitsOk atticref19_CheckView.T12.2 atticref19_CheckView.B12 = true := by kernel_rfl
def atticref19_CheckView.T17 : Bool × List (List Nat × List Nat) := (true, [([], []), ([], []), ([1], [1]), ([], []), ([2, 3], [2, 3]), ([4], [4]), ([0, 5], [0, 5]), ([6], [6])])
def atticref19_CheckView.B17 : List Nat := [0, 0, 2, 0, 14, 30, 63, 127]
theorem atticref19_CheckView.tab17 : rtab .any (opsOf Try.f17 17) = atticref19_CheckView.T17 := by kernel_rfl
theorem atticref19_CheckView.bits17 : waitsOk atticref19_CheckView.T17.2 atticref19_CheckView.B17 = true := by kernel_rfl
set_option maxHeartbeats 8000000 in
set_option maxRecDepth 100000 in
theorem atticref19_CheckView.calls (k : Nat) (A0_0 : Option Addr) (c0_0 : Nat) (l0_0 : List (S56)) (A0_1 : Option Addr) (c0_1 : Nat) (l0_1 : List Int) (r : Int) (w : World) (hr0_0 : Kd.C k56 w A0_0 l0_0.length l0_0) (hc0_0 : l0_0.length ≤ c0_0) (hr0_1 : Kd.C (Kd.int .i64) w A0_1 l0_1.length l0_1) (hc0_1 : l0_1.length ≤ c0_1) (h : atticref19_CheckView.f k l0_0 l0_1 = some r) :
  Calls Try.prog 17 #[.agg #[.slice A0_0 l0_0.length c0_0, .slice A0_1 l0_1.length c0_1]] w fun e w' => e = .returned (.int .i64 r) ∧ Below w.heap.size w w' := by
 have hu25 := Try.underlying25
 have hu56 := Try.underlying56
 have HR0_0 := ak hr0_0
 have HC0_0 := ak hc0_0
 clear hr0_0 hc0_0
 have HR0_1 := ak hr0_1
 have HC0_1 := ak hc0_1
 clear hr0_1 hc0_1
 have HB := ak (Below.refl w.heap.size w)
 have H : (if (l0_0.length : Int) > 8192 then (some 190) else (atticref19_CheckView.l0 k 0 l0_0 l0_1)) = some r := h
 clear h
 by_cases c2 : (l0_0.length : Int) > 8192
 ·rw [if_pos c2] at H
  have c2b0 : decide (8192 < (l0_0.length : Int)) = true := decide_eq_true c2
  have c2b1 : decide (8192 < l0_0.length) = true := decide_eq_true (by omega)
  clear c2
  obtain rfl := Option.some.inj H
  go_enter Try.func17, Try.ntmps17
  go_wp2_with (first | ((with_reducible refine gate_dst (N := 1) rfl ?_); (try (refine gate_guard (by rfl) ?_; dsimp only)); refine box_event ?hg (N := 1) ?hd (cs := #[.slice A0_0 l0_0.length c0_0, .slice A0_1 l0_1.length c0_1]) (t := 25) ?hr ?_; (case hd => rfl); (case hg => rfl); (case hr => first | (go_simp; done) | (go_simp; rfl)); intro gb207 hg w3 hbox hb; have n0_ := ak (below_step (by repeat (first | (with_reducible first | exact HB.out | apply ba_ | apply bn_ | apply b1_) | exact HB.out)) hb); have n1_ := ak (hbox); have n2_ := ak ((by rw [hg]; exact (below_size (by repeat (first | (with_reducible first | exact HB.out | apply ba_ | apply bn_ | apply b1_) | exact HB.out))) : w.heap.size ≤ gb207)); have n3_ := n2_; clear HB; have HB := n0_; have BK207 := n1_; have GW207 := n2_; have GE207 := n3_; clear n0_ n1_ n2_ n3_ hb hbox hg; obtain ⟨z4_0, z4_1, f4_0, f4_1⟩ := kk2 BK207.out))
  go_ret
  exact ⟨by first | rfl | (simp [errW_none, errW_some] <;> rfl) | (simp [*, errW_none, errW_some] <;> rfl) | (simp [Int.tdiv_eq_ediv_of_nonneg]; done), by repeat (first | (with_reducible first | exact HB.out | apply ba_ | apply bn_ | apply b1_ | refine bs_ ?_ GE207.out) | exact HB.out)⟩
 rw [if_neg c2] at H
 have c2b0 : decide (8192 < (l0_0.length : Int)) = false := decide_eq_false c2
 have c2b1 : decide (8192 < l0_0.length) = false := decide_eq_false (by omega)
 clear c2
 have H' := ak H
 clear H
 go_enter Try.func17, Try.ntmps17
 go_wp2_with (first | ((with_reducible refine gate_dst (N := 1) rfl ?_); (try (refine gate_guard (by rfl) ?_; dsimp only)); refine box_event ?hg (N := 1) ?hd (cs := #[.slice A0_0 l0_0.length c0_0, .slice A0_1 l0_1.length c0_1]) (t := 25) ?hr ?_; (case hd => rfl); (case hg => rfl); (case hr => first | (go_simp; done) | (go_simp; rfl)); intro gb207 hg w5 hbox hb; have n0_ := ak (below_step (by repeat (first | (with_reducible first | exact HB.out | apply ba_ | apply bn_ | apply b1_) | exact HB.out)) hb); have n1_ := ak (hbox); have n2_ := ak ((by rw [hg]; exact (below_size (by repeat (first | (with_reducible first | exact HB.out | apply ba_ | apply bn_ | apply b1_) | exact HB.out))) : w.heap.size ≤ gb207)); have n3_ := n2_; clear HB; have HB := n0_; have BK207 := n1_; have GW207 := n2_; have GE207 := n3_; clear n0_ n1_ n2_ n3_ hb hbox hg; obtain ⟨z6_0, z6_1, f6_0, f6_1⟩ := kk2 BK207.out))
 go_loopg [3] k (fun kq v3 w' => ∃ (x3_1 : Int), v3 = .int .i64 x3_1 ∧ Aside0 (atticref19_CheckView.l0 kq x3_1 l0_0 l0_1 = some r) ∧ Aside0 (kq ≤ k) ∧ Aside0 (w'.heap[gb207]? = some (.cells #[(.slice A0_0 l0_0.length c0_0), (.slice A0_1 l0_1.length c0_1)] 25 (0, 0))) ∧ Aside0 (Below w.heap.size w w'))
 case atStart => exact ⟨(0), (by first | rfl | (simp; done) | (simp [*]; done) | (simp [Int.tdiv_eq_ediv_of_nonneg]; done)), H', ⟨Nat.le_refl _⟩, ⟨by (with_reducible repeat first | apply kn_ | apply kd_ | apply ka_); exact BK207.out⟩, ⟨by repeat (first | (with_reducible first | exact HB.out | apply ba_ | apply bn_ | apply b1_ | refine bs_ ?_ GE207.out) | exact HB.out)⟩⟩
 case round =>
  clear H'
  (try clear c1); (try clear c2); (try clear c2b0); (try clear c2b1); (try clear p2); (try clear z4_0 z4_1); (try clear z6_0 z6_1); (try clear f4_0 f4_1); (try clear f6_0 f6_1)
  obtain ⟨x3_1, rfl, HA, HK1, BK207, HB⟩ := hrel
  cases gk with
  | zero => exact absurd HA.out (by simp [atticref19_CheckView.l0])
  | succ k1 =>
   have H := HA.out
   clear HA
   simp only [atticref19_CheckView.l0] at H
   by_cases c7 : x3_1 < (l0_0.length : Int); rotate_left
   ·rw [if_neg c7] at H
    have c7b0 : decide (x3_1 < (l0_0.length : Int)) = false := decide_eq_false c7
    clear c7
    have H' := ak H
    clear H
    obtain ⟨z53_0, z53_1, f53_0, f53_1⟩ := kk2 BK207.out
    go_wp2
    go_loopg [6] k1 (fun kq v6 w' => ∃ (x6_2 : Int), v6 = .int .i64 x6_2 ∧ Aside0 (atticref19_CheckView.l2 kq x6_2 l0_0 l0_1 = some r) ∧ Aside0 (kq ≤ k1) ∧ Aside0 (w'.heap[gb207]? = some (.cells #[(.slice A0_0 l0_0.length c0_0), (.slice A0_1 l0_1.length c0_1)] 25 (0, 0))) ∧ Aside0 (Below w.heap.size w w'))
    case atStart => exact ⟨(0), (by first | rfl | (simp; done) | (simp [*]; done) | (simp [Int.tdiv_eq_ediv_of_nonneg]; done)), H', ⟨Nat.le_refl _⟩, ⟨by (with_reducible repeat first | apply kn_ | apply kd_ | apply ka_); exact BK207.out⟩, ⟨by repeat (first | (with_reducible first | exact HB.out | apply ba_ | apply bn_ | apply b1_ | refine bs_ ?_ GE207.out) | exact HB.out)⟩⟩
    case round =>
     clear H'
     (try clear c2); (try clear p2); (try clear q2); (try clear hx2); (try clear c3); (try clear c4); (try clear c5); (try clear p6); (try clear c7); (try clear c7b0); (try clear c8); (try clear c20); (try clear p20); (try clear q20); (try clear hx20); (try clear p21); (try clear q21); (try clear hx21); (try clear c35); (try clear c35b0); (try clear c36); (try clear c36b0); (try clear c37); (try clear c37b0); (try clear c37b1); (try clear c38); (try clear c42); (try clear c43); (try clear c47); (try clear c51); (try clear z39_0 z39_1); (try clear z44_0 z44_1); (try clear z48_0 z48_1); (try clear z52_0 z52_1); (try clear z53_0 z53_1); (try clear f31_1); (try clear f33_0 f33_1); (try clear f39_0 f39_1); (try clear f44_0 f44_1); (try clear f48_0 f48_1); (try clear f4_0 f4_1); (try clear f52_0 f52_1); (try clear f53_0 f53_1); (try clear f6_0 f6_1); (try clear hx208_0); (try clear hx208_1); (try clear hx210_0); (try clear hx211_0); (try clear p2); (try clear p20); (try clear p208); (try clear p210); (try clear p211); (try clear q2); (try clear q20); (try clear q208); (try clear q210); (try clear q211)
     obtain ⟨x6_2, rfl, HA, HK2, BK207, HB⟩ := hrel
     cases gk with
     | zero => exact absurd HA.out (by simp [atticref19_CheckView.l2])
     | succ k2 =>
      have H := HA.out
      clear HA
      simp only [atticref19_CheckView.l2] at H
      by_cases c54 : x6_2 < (l0_1.length : Int); rotate_left
      ·rw [if_neg c54] at H
       have c54b0 : decide (x6_2 < (l0_1.length : Int)) = false := decide_eq_false c54
       clear c54
       obtain rfl := Option.some.inj H
       obtain ⟨z64_0, z64_1, f64_0, f64_1⟩ := kk2 BK207.out
       go_wp2
       go_ret
       exact ⟨by first | rfl | (simp [errW_none, errW_some] <;> rfl) | (simp [*, errW_none, errW_some] <;> rfl) | (simp [Int.tdiv_eq_ediv_of_nonneg]; done), by repeat (first | (with_reducible first | exact HB.out | apply ba_ | apply bn_ | apply b1_ | refine bs_ ?_ GE207.out) | exact HB.out)⟩
      rw [if_pos c54] at H
      have c54b0 : decide (x6_2 < (l0_1.length : Int)) = true := decide_eq_true c54
      clear c54
      by_cases c55 : 0 ≤ x6_2; rotate_left
      ·rw [if_neg c55] at H
       exact absurd H (by simp)
      rw [if_pos c55] at H
      have c55b0 : decide (0 ≤ x6_2) = true := decide_eq_true c55
      clear c55
      replace H := Option.bind_eq_some_iff.mp H
      obtain ⟨t214, A560, H⟩ := H
      replace H : (if t214 = true then (atticref19_CheckView.l2 k2 (wrap64 (x6_2 + 1)) l0_0 l0_1) else (some 190)) = some r := H
      have A56 := ak A560
      clear A560
      by_cases c57 : t214 = true; rotate_left
      ·replace c57 := Bool.eq_false_iff.mpr c57
       subst c57
       have H1 : (some 190) = some r := by rw [if_neg (show ¬ (false = true) by decide)] at H; exact H
       clear H
       have H := H1
       clear H1
       obtain rfl := Option.some.inj H
       obtain ⟨z61_0, z61_1, f61_0, f61_1⟩ := kk2 BK207.out
       try go_wp2
       have n0_ := ak (blk_drew BK207.out)
       have n1_ := ak (below_drew1 HB.out)
       clear BK207 HB
       have BK207 := n0_
       have HB := n1_
       clear n0_ n1_
       have p213 : 0 ≤ (x6_2 : Int) := of_decide_eq_true (by first | (with_reducible assumption) | assumption)
       have q213 : x6_2 < (l0_1.length : Int) := of_decide_eq_true (by first | (with_reducible assumption) | assumption)
       obtain ⟨ad213, e213, hx213_0⟩ := Kd.at_int HR0_1.out x6_2 p213 q213
       have hw213_0 := hx213_0
       cases e213
       replace hx213_0 := (HB.out.cell (World.block_lt_of_cell? w _ hx213_0)).trans hx213_0
       replace p213 := eq_true p213
       replace q213 := eq_true q213
       refine sL (n := 8) (S := fun w' => w'.cell? ⟨gb207, 0, none⟩ = some (.slice A0_0 l0_0.length c0_0) ∧ w'.cell? ⟨gb207, 1, none⟩ = some (.slice (some ad213) l0_1.length c0_1) ∧ w'.cell? (ad213.add (x6_2).toNat) = some (.int .i64 (rd l0_1 x6_2))) (ds := []) (by kernel_rfl) rfl ⟨(blk_cell BK207.out 0).trans rfl, (blk_cell BK207.out 1).trans rfl, ((HB.out.cell (World.block_lt_of_cell? w _ hw213_0)).trans hw213_0)⟩ (fun hHeld => ?_)
       generalize wr.drew = w62 at BK207 HB hx213_0 hHeld ⊢
       (refine tL (N := some _) rfl rfl (by kernel_rfl) (fun _ _ _ h => h) hHeld (by rfl) (v := ?_) (a' := ?_) ?_ ?_ ?_; rotate_left; (rintro w' ⟨s0, s1, s2⟩; go_simp; with_reducible rfl); rotate_left; (simp only [Act.put, sq0, sq1, sq2, sq3, sq4]; rfl))
       (refine pL (N := some _) rfl rfl (by kernel_rfl) (fun _ _ _ h => h) (by rfl) (v := ?_) (a' := ?_) ?_ ?_ ?_; rotate_left; (intro w'; go_simp; with_reducible rfl); rotate_left; (simp only [Act.put, sq0, sq1, sq2, sq3, sq4]; rfl))
       (refine tL (N := some _) rfl rfl (by kernel_rfl) (fun _ _ _ h => h) hHeld (by rfl) (v := ?_) (a' := ?_) ?_ ?_ ?_; rotate_left; (rintro w' ⟨s0, s1, s2⟩; go_simp; with_reducible rfl); rotate_left; (simp only [Act.put, sq0, sq1, sq2, sq3, sq4]; rfl))
       iterate 2 (refine pL (N := some _) rfl rfl (by kernel_rfl) (fun _ _ _ h => h) (by rfl) (v := ?_) (a' := ?_) ?_ ?_ ?_; rotate_left; (intro w'; go_simp; with_reducible rfl); rotate_left; (simp only [Act.put, sq0, sq1, sq2, sq3, sq4]; rfl))
       (refine tL (N := some _) rfl rfl (by kernel_rfl) (fun _ _ _ h => h) hHeld (by rfl) (v := ?_) (a' := ?_) ?_ ?_ ?_; rotate_left; (rintro w' ⟨s0, s1, s2⟩; go_simp; with_reducible rfl); rotate_left; (simp only [Act.put, sq0, sq1, sq2, sq3, sq4]; rfl))
       refine nL (N := some 89) rfl rfl (by kernel_rfl) (by decide) (fun K hK => ?_)
       refine goes_ Try.func42 (by kernel_rfl) rfl #[.agg #[.slice A0_0 l0_0.length c0_0, .slice (some ad213) l0_1.length c0_1], .int .i64 (rd l0_1 x6_2)] (by rfl) rfl rfl (by (try simp only [List.map_toArray, List.map_cons, List.map_nil]); first | done | rfl | (simp only [List.length_drop, List.length_take]; rfl)) ?_
       with_reducible refine (atticref19_cell.calls _ _ l0_0 _ _ l0_1 (rd l0_1 x6_2) false _ ?side1 ?side2 ?side3 ?side4 A56.out).mono ?_
       (case side1 => repeat (first | exact (Kd.C_below HR0_0.out HB.out) | (with_reducible first | refine ca_ ?_ _ | refine cn_ ?_ _ | refine cd_ ?_)))
       (case side2 => exact HC0_0.out)
       (case side3 => repeat (first | exact (Kd.C_below HR0_1.out HB.out) | (with_reducible first | refine ca_ ?_ _ | refine cn_ ?_ _ | refine cd_ ?_)))
       (case side4 => exact HC0_1.out)
       rintro e w63 ⟨rfl, hb⟩
       refine ⟨_, rfl, ?_⟩
       have n0_ := ak (blk_below (by (with_reducible repeat first | apply kn_ | apply kd_ | apply ka_); exact BK207.out) hb)
       have n1_ := ak (below_step (by repeat (first | (with_reducible first | exact HB.out | apply ba_ | apply bn_ | apply b1_ | refine bs_ ?_ GE207.out) | exact HB.out)) hb)
       clear BK207 HB
       have BK207 := n0_
       have HB := n1_
       clear n0_ n1_
       (try clear hb)
       (try clear hb2)
       (try clear hk)
       (try clear hi)
       refine hK.out _ _ ⟨(blk_cell BK207.out 0).trans rfl, (blk_cell BK207.out 1).trans rfl, ((HB.out.cell (World.block_lt_of_cell? w _ hw213_0)).trans hw213_0)⟩ (fun hHeld => ?_)
       clear hK K
       refine norm_ (a' := ?_) ?_ ?_
       rotate_left
       ·show Act.put _ (some 89) _ = _
        simp only [Act.put, sq0, sq1, sq2, sq3, sq4]
        rfl
       (refine pL (N := some _) rfl rfl (by kernel_rfl) (fun _ _ _ h => h) (by rfl) (v := ?_) (a' := ?_) ?_ ?_ ?_; rotate_left; (intro w'; go_simp; with_reducible rfl); rotate_left; (simp only [Act.put, sq0, sq1, sq2, sq3, sq4]; rfl))
       refine dL (by kernel_rfl) ?_
       try go_wp2
       go_ret
       exact ⟨by first | rfl | (simp [errW_none, errW_some] <;> rfl) | (simp [*, errW_none, errW_some] <;> rfl) | (simp [Int.tdiv_eq_ediv_of_nonneg]; done), by repeat (first | (with_reducible first | exact HB.out | apply ba_ | apply bn_ | apply b1_ | refine bs_ ?_ GE207.out) | exact HB.out)⟩
      subst c57
      have H1 : (atticref19_CheckView.l2 k2 (wrap64 (x6_2 + 1)) l0_0 l0_1) = some r := by rw [if_pos rfl] at H; exact H
      clear H
      have H := H1
      clear H1
      have H' := ak H
      clear H
      obtain ⟨z58_0, z58_1, f58_0, f58_1⟩ := kk2 BK207.out
      try go_wp2
      have n0_ := ak (blk_drew BK207.out)
      have n1_ := ak (below_drew1 HB.out)
      clear BK207 HB
      have BK207 := n0_
      have HB := n1_
      clear n0_ n1_
      have p213 : 0 ≤ (x6_2 : Int) := of_decide_eq_true (by first | (with_reducible assumption) | assumption)
      have q213 : x6_2 < (l0_1.length : Int) := of_decide_eq_true (by first | (with_reducible assumption) | assumption)
      obtain ⟨ad213, e213, hx213_0⟩ := Kd.at_int HR0_1.out x6_2 p213 q213
      have hw213_0 := hx213_0
      cases e213
      replace hx213_0 := (HB.out.cell (World.block_lt_of_cell? w _ hx213_0)).trans hx213_0
      replace p213 := eq_true p213
      replace q213 := eq_true q213
      refine sL (n := 8) (S := fun w' => w'.cell? ⟨gb207, 0, none⟩ = some (.slice A0_0 l0_0.length c0_0) ∧ w'.cell? ⟨gb207, 1, none⟩ = some (.slice (some ad213) l0_1.length c0_1) ∧ w'.cell? (ad213.add (x6_2).toNat) = some (.int .i64 (rd l0_1 x6_2))) (ds := []) (by kernel_rfl) rfl ⟨(blk_cell BK207.out 0).trans rfl, (blk_cell BK207.out 1).trans rfl, ((HB.out.cell (World.block_lt_of_cell? w _ hw213_0)).trans hw213_0)⟩ (fun hHeld => ?_)
      generalize wr.drew = w59 at BK207 HB hx213_0 hHeld ⊢
      (refine tL (N := some _) rfl rfl (by kernel_rfl) (fun _ _ _ h => h) hHeld (by rfl) (v := ?_) (a' := ?_) ?_ ?_ ?_; rotate_left; (rintro w' ⟨s0, s1, s2⟩; go_simp; with_reducible rfl); rotate_left; (simp only [Act.put, sq0, sq1, sq2, sq3, sq4]; rfl))
      (refine pL (N := some _) rfl rfl (by kernel_rfl) (fun _ _ _ h => h) (by rfl) (v := ?_) (a' := ?_) ?_ ?_ ?_; rotate_left; (intro w'; go_simp; with_reducible rfl); rotate_left; (simp only [Act.put, sq0, sq1, sq2, sq3, sq4]; rfl))
      (refine tL (N := some _) rfl rfl (by kernel_rfl) (fun _ _ _ h => h) hHeld (by rfl) (v := ?_) (a' := ?_) ?_ ?_ ?_; rotate_left; (rintro w' ⟨s0, s1, s2⟩; go_simp; with_reducible rfl); rotate_left; (simp only [Act.put, sq0, sq1, sq2, sq3, sq4]; rfl))
      iterate 2 (refine pL (N := some _) rfl rfl (by kernel_rfl) (fun _ _ _ h => h) (by rfl) (v := ?_) (a' := ?_) ?_ ?_ ?_; rotate_left; (intro w'; go_simp; with_reducible rfl); rotate_left; (simp only [Act.put, sq0, sq1, sq2, sq3, sq4]; rfl))
      (refine tL (N := some _) rfl rfl (by kernel_rfl) (fun _ _ _ h => h) hHeld (by rfl) (v := ?_) (a' := ?_) ?_ ?_ ?_; rotate_left; (rintro w' ⟨s0, s1, s2⟩; go_simp; with_reducible rfl); rotate_left; (simp only [Act.put, sq0, sq1, sq2, sq3, sq4]; rfl))
      refine nL (N := some 89) rfl rfl (by kernel_rfl) (by decide) (fun K hK => ?_)
      refine goes_ Try.func42 (by kernel_rfl) rfl #[.agg #[.slice A0_0 l0_0.length c0_0, .slice (some ad213) l0_1.length c0_1], .int .i64 (rd l0_1 x6_2)] (by rfl) rfl rfl (by (try simp only [List.map_toArray, List.map_cons, List.map_nil]); first | done | rfl | (simp only [List.length_drop, List.length_take]; rfl)) ?_
      with_reducible refine (atticref19_cell.calls _ _ l0_0 _ _ l0_1 (rd l0_1 x6_2) true _ ?side1 ?side2 ?side3 ?side4 A56.out).mono ?_
      (case side1 => repeat (first | exact (Kd.C_below HR0_0.out HB.out) | (with_reducible first | refine ca_ ?_ _ | refine cn_ ?_ _ | refine cd_ ?_)))
      (case side2 => exact HC0_0.out)
      (case side3 => repeat (first | exact (Kd.C_below HR0_1.out HB.out) | (with_reducible first | refine ca_ ?_ _ | refine cn_ ?_ _ | refine cd_ ?_)))
      (case side4 => exact HC0_1.out)
      rintro e w60 ⟨rfl, hb⟩
      refine ⟨_, rfl, ?_⟩
      have n0_ := ak (blk_below (by (with_reducible repeat first | apply kn_ | apply kd_ | apply ka_); exact BK207.out) hb)
      have n1_ := ak (below_step (by repeat (first | (with_reducible first | exact HB.out | apply ba_ | apply bn_ | apply b1_ | refine bs_ ?_ GE207.out) | exact HB.out)) hb)
      clear BK207 HB
      have BK207 := n0_
      have HB := n1_
      clear n0_ n1_
      (try clear hb)
      (try clear hb2)
      (try clear hk)
      (try clear hi)
      refine hK.out _ _ ⟨(blk_cell BK207.out 0).trans rfl, (blk_cell BK207.out 1).trans rfl, ((HB.out.cell (World.block_lt_of_cell? w _ hw213_0)).trans hw213_0)⟩ (fun hHeld => ?_)
      clear hK K
      refine norm_ (a' := ?_) ?_ ?_
      rotate_left
      ·show Act.put _ (some 89) _ = _
       simp only [Act.put, sq0, sq1, sq2, sq3, sq4]
       rfl
      (refine pL (N := some _) rfl rfl (by kernel_rfl) (fun _ _ _ h => h) (by rfl) (v := ?_) (a' := ?_) ?_ ?_ ?_; rotate_left; (intro w'; go_simp; with_reducible rfl); rotate_left; (simp only [Act.put, sq0, sq1, sq2, sq3, sq4]; rfl))
      refine dL (by kernel_rfl) ?_
      try go_wp2
      go_roundg k2
      case measure => have := HK1.out; have := HK2.out; omega
      case rel => exact ⟨(wrap64 (x6_2 + 1)), (by first | rfl | (simp; done) | (simp [*]; done) | (simp [Int.tdiv_eq_ediv_of_nonneg]; done)), H', ⟨by have := HK1.out; have := HK2.out; omega⟩, ⟨by (with_reducible repeat first | apply kn_ | apply kd_ | apply ka_); exact BK207.out⟩, ⟨by repeat (first | (with_reducible first | exact HB.out | apply ba_ | apply bn_ | apply b1_ | refine bs_ ?_ GE207.out) | exact HB.out)⟩⟩
   rw [if_pos c7] at H
   have c7b0 : decide (x3_1 < (l0_0.length : Int)) = true := decide_eq_true c7
   clear c7
   by_cases c8 : 0 ≤ x3_1; rotate_left
   ·rw [if_neg c8] at H
    exact absurd H (by simp)
   rw [if_pos c8] at H
   have c8b0 : decide (0 ≤ x3_1) = true := decide_eq_true c8
   clear c8
   have HC9 := ak H
   clear H
   obtain ⟨z10_0, z10_1, f10_0, f10_1⟩ := kk2 BK207.out
   have p208 : 0 ≤ (x3_1 : Int) := of_decide_eq_true (by first | (with_reducible assumption) | assumption)
   have q208 : x3_1 < (l0_0.length : Int) := of_decide_eq_true (by first | (with_reducible assumption) | assumption)
   obtain ⟨ad208, A208_1, c208_1, e208, hx208_0, hx208_1, hl208_1, hi208_1⟩ := at_T56 HR0_0.out x3_1 p208 q208
   cases e208
   replace hx208_0 := (HB.out.cell (World.block_lt_of_cell? w _ hx208_0)).trans hx208_0
   replace hx208_1 := (HB.out.cell (World.block_lt_of_cell? w _ hx208_1)).trans hx208_1
   have HR208_1 := ak hi208_1
   have HC208_1 := ak hl208_1
   clear hi208_1 hl208_1
   replace p208 := eq_true p208
   replace q208 := eq_true q208
   go_upto_region 7 with (first | ((with_reducible refine gate_dst (N := 4) rfl ?_); (try (refine gate_guard (by rfl) ?_; dsimp only)); refine box_event ?hg (N := 4) ?hd (cs := #[.int .i64 0, .slice none 0 0]) (t := 56) ?hr ?_; (case hd => rfl); (case hg => rfl); (case hr => first | (go_simp; done) | (go_simp; rfl)); intro gb209 hg w11 hbox hb; have n0_ := ak (blk_below (by (with_reducible repeat first | apply kn_ | apply kd_ | apply ka_); exact BK207.out) hb); have n1_ := ak (below_step (by repeat (first | (with_reducible first | exact HB.out | apply ba_ | apply bn_ | apply b1_ | refine bs_ ?_ GE207.out) | exact HB.out)) hb); have n2_ := ak (hbox); have n3_ := ak ((by rw [hg]; exact (below_size (by repeat (first | (with_reducible first | exact HB.out | apply ba_ | apply bn_ | apply b1_ | refine bs_ ?_ GE207.out) | exact HB.out))) : w.heap.size ≤ gb209)); have n4_ := n3_; have n5_ := ak ((by rw [hg]; exact Nat.ne_of_lt (blk_lt (g := gb207) (o := .cells #[.slice (some ad208) l0_0.length c0_0, .slice A0_1 l0_1.length c0_1] 25 (0, 0)) (by (with_reducible repeat first | apply kn_ | apply kd_ | apply ka_); exact BK207.out)) : gb207 ≠ gb209)); have n6_ := ak ((by rw [hg]; exact Nat.ne_of_gt (blk_lt (g := gb207) (o := .cells #[.slice (some ad208) l0_0.length c0_0, .slice A0_1 l0_1.length c0_1] 25 (0, 0)) (by (with_reducible repeat first | apply kn_ | apply kd_ | apply ka_); exact BK207.out)) : gb209 ≠ gb207)); clear BK207 HB; have BK207 := n0_; have HB := n1_; have BK209 := n2_; have GW209 := n3_; have GE209 := n4_; have NB207_209 := n5_; have NB209_207 := n6_; clear n0_ n1_ n2_ n3_ n4_ n5_ n6_ hb hbox hg; have hnb12 := NB209_207.out; have hnc12 := NB207_209.out; obtain ⟨z13_0, z13_1, f13_0, f13_1⟩ := kk2 BK209.out))
   (try simp only [Act.put, List.setIfInBounds_toArray, List.set_cons_zero, List.set_cons_succ])
   go_cut [52] (fun v52 wc => ∃ (kq : Nat) (x52_8 : Bool), v52 = .bool x52_8 ∧ Aside0 (atticref19_CheckView.j1 kq x3_1 x52_8 l0_0 l0_1 ((rd_T56 l0_0 x3_1).f0) ((rd_T56 l0_0 x3_1).f1) = some r) ∧ Aside0 (kq ≤ k1) ∧ Aside0 (wc.heap[gb207]? = some (.cells #[(.slice (some ad208) l0_0.length c0_0), (.slice A0_1 l0_1.length c0_1)] 25 (0, 0))) ∧ Aside0 (wc.heap[gb209]? = some (.cells #[.int .i64 ((rd_T56 l0_0 x3_1).f0), (.slice A208_1 ((rd_T56 l0_0 x3_1).f1).length c208_1)] 56 (0, 0))) ∧ Aside0 (Below w.heap.size w wc))
   case first =>
    have H := HC9.out
    clear HC9
    by_cases c14 : ((rd_T56 l0_0 x3_1).f0) < 0
    ·rw [if_pos c14] at H
     have c14b0 : decide (((rd_T56 l0_0 x3_1).f0) < 0) = true := decide_eq_true c14
     clear c14
     (first | rw [c14b0] | (simp only [i64_w, i32_w]; rw [c14b0]) | skip)
     have H' := ak H
     clear H
     have hnb15 := NB209_207.out
     have hnc15 := NB207_209.out
     obtain ⟨z16_0, z16_1, f16_0, f16_1⟩ := kk2 BK209.out
     go_wp2
     go_meet
     case rel => exact ⟨_, (true), (by first | rfl | (simp; done) | (simp [*]; done) | (simp [Int.tdiv_eq_ediv_of_nonneg]; done)), H', ⟨by have := HK1.out; first | omega | exact Nat.le_refl _⟩, ⟨by (with_reducible repeat first | apply kn_ | apply kd_ | apply ka_); refine blk_far ?_ NB207_209.out _; (with_reducible repeat first | apply kn_ | apply kd_ | apply ka_); refine blk_far ?_ NB207_209.out _; (with_reducible repeat first | apply kn_ | apply kd_ | apply ka_); exact BK207.out⟩, ⟨by (with_reducible repeat first | apply kn_ | apply kd_ | apply ka_); refine blk_put (cs := #[.int .i64 ((rd_T56 l0_0 x3_1).f0), .slice none 0 0]) ?_ 1 _ rfl; (with_reducible repeat first | apply kn_ | apply kd_ | apply ka_); refine blk_put (cs := #[.int .i64 0, .slice none 0 0]) ?_ 0 _ rfl; (with_reducible repeat first | apply kn_ | apply kd_ | apply ka_); exact BK209.out⟩, ⟨by repeat (first | (with_reducible first | exact HB.out | apply ba_ | apply bn_ | apply b1_ | refine bs_ ?_ GE207.out | refine bs_ ?_ GE209.out) | exact HB.out)⟩⟩
    rw [if_neg c14] at H
    have c14b0 : decide (((rd_T56 l0_0 x3_1).f0) < 0) = false := decide_eq_false c14
    clear c14
    (first | rw [c14b0] | (simp only [i64_w, i32_w]; rw [c14b0]) | skip)
    by_cases c17 : ((rd_T56 l0_0 x3_1).f0) > 3
    ·rw [if_pos c17] at H
     have c17b0 : decide (3 < ((rd_T56 l0_0 x3_1).f0)) = true := decide_eq_true c17
     clear c17
     have H' := ak H
     clear H
     have hnb18 := NB209_207.out
     have hnc18 := NB207_209.out
     obtain ⟨z19_0, z19_1, f19_0, f19_1⟩ := kk2 BK209.out
     go_wp2
     go_meet
     case rel => exact ⟨_, (true), (by first | rfl | (simp; done) | (simp [*]; done) | (simp [Int.tdiv_eq_ediv_of_nonneg]; done)), H', ⟨by have := HK1.out; first | omega | exact Nat.le_refl _⟩, ⟨by (with_reducible repeat first | apply kn_ | apply kd_ | apply ka_); refine blk_far ?_ NB207_209.out _; (with_reducible repeat first | apply kn_ | apply kd_ | apply ka_); refine blk_far ?_ NB207_209.out _; (with_reducible repeat first | apply kn_ | apply kd_ | apply ka_); exact BK207.out⟩, ⟨by (with_reducible repeat first | apply kn_ | apply kd_ | apply ka_); refine blk_put (cs := #[.int .i64 ((rd_T56 l0_0 x3_1).f0), .slice none 0 0]) ?_ 1 _ rfl; (with_reducible repeat first | apply kn_ | apply kd_ | apply ka_); refine blk_put (cs := #[.int .i64 0, .slice none 0 0]) ?_ 0 _ rfl; (with_reducible repeat first | apply kn_ | apply kd_ | apply ka_); exact BK209.out⟩, ⟨by repeat (first | (with_reducible first | exact HB.out | apply ba_ | apply bn_ | apply b1_ | refine bs_ ?_ GE207.out | refine bs_ ?_ GE209.out) | exact HB.out)⟩⟩
    rw [if_neg c17] at H
    have c17b0 : decide (3 < ((rd_T56 l0_0 x3_1).f0)) = false := decide_eq_false c17
    clear c17
    by_cases c20 : ((rd_T56 l0_0 x3_1).f0) = 0; rotate_left
    ·rw [if_neg c20] at H
     have c20b0 : (((rd_T56 l0_0 x3_1).f0) == 0) = false := beq_eq_false_iff_ne.mpr c20
     have c20b1 : (((rd_T56 l0_0 x3_1).f0) != 0) = true := bne_iff_ne.mpr c20
     by_cases c29 : ((rd_T56 l0_0 x3_1).f0) = 3; rotate_left
     ·rw [if_neg c29] at H
      have c29b0 : (((rd_T56 l0_0 x3_1).f0) == 3) = false := beq_eq_false_iff_ne.mpr c29
      have c29b1 : (((rd_T56 l0_0 x3_1).f0) != 3) = true := bne_iff_ne.mpr c29
      have H' := ak H
      clear H
      have hnb32 := NB209_207.out
      have hnc32 := NB207_209.out
      obtain ⟨z33_0, z33_1, f33_0, f33_1⟩ := kk2 BK209.out
      go_wp2
      go_meet
      case rel => exact ⟨_, (false), (by first | rfl | (simp; done) | (simp [*]; done) | (simp [Int.tdiv_eq_ediv_of_nonneg]; done)), H', ⟨by have := HK1.out; first | omega | exact Nat.le_refl _⟩, ⟨by (with_reducible repeat first | apply kn_ | apply kd_ | apply ka_); refine blk_far ?_ NB207_209.out _; (with_reducible repeat first | apply kn_ | apply kd_ | apply ka_); refine blk_far ?_ NB207_209.out _; (with_reducible repeat first | apply kn_ | apply kd_ | apply ka_); exact BK207.out⟩, ⟨by (with_reducible repeat first | apply kn_ | apply kd_ | apply ka_); refine blk_put (cs := #[.int .i64 ((rd_T56 l0_0 x3_1).f0), .slice none 0 0]) ?_ 1 _ rfl; (with_reducible repeat first | apply kn_ | apply kd_ | apply ka_); refine blk_put (cs := #[.int .i64 0, .slice none 0 0]) ?_ 0 _ rfl; (with_reducible repeat first | apply kn_ | apply kd_ | apply ka_); exact BK209.out⟩, ⟨by repeat (first | (with_reducible first | exact HB.out | apply ba_ | apply bn_ | apply b1_ | refine bs_ ?_ GE207.out | refine bs_ ?_ GE209.out) | exact HB.out)⟩⟩
     rw [if_pos c29] at H
     have c29b0 : (((rd_T56 l0_0 x3_1).f0) == 3) = true := beq_iff_eq.mpr c29
     have c29b1 : (((rd_T56 l0_0 x3_1).f0) != 3) = false := bne_eq_false_iff_eq.mpr c29
     clear c29
     have H' := ak H
     clear H
     have hnb30 := NB209_207.out
     have hnc30 := NB207_209.out
     obtain ⟨z31_0, z31_1, f31_0, f31_1⟩ := kk2 BK209.out
     go_wp2
     go_meet
     case rel => exact ⟨_, (((((rd_T56 l0_0 x3_1).f1).length : Int) == 0)), (by first | rfl | (simp; done) | (simp [*]; done) | (simp [Int.tdiv_eq_ediv_of_nonneg]; done)), H', ⟨by have := HK1.out; first | omega | exact Nat.le_refl _⟩, ⟨by (with_reducible repeat first | apply kn_ | apply kd_ | apply ka_); refine blk_far ?_ NB207_209.out _; (with_reducible repeat first | apply kn_ | apply kd_ | apply ka_); refine blk_far ?_ NB207_209.out _; (with_reducible repeat first | apply kn_ | apply kd_ | apply ka_); exact BK207.out⟩, ⟨by (with_reducible repeat first | apply kn_ | apply kd_ | apply ka_); refine blk_put (cs := #[.int .i64 ((rd_T56 l0_0 x3_1).f0), .slice none 0 0]) ?_ 1 _ rfl; (with_reducible repeat first | apply kn_ | apply kd_ | apply ka_); refine blk_put (cs := #[.int .i64 0, .slice none 0 0]) ?_ 0 _ rfl; (with_reducible repeat first | apply kn_ | apply kd_ | apply ka_); exact BK209.out⟩, ⟨by repeat (first | (with_reducible first | exact HB.out | apply ba_ | apply bn_ | apply b1_ | refine bs_ ?_ GE207.out | refine bs_ ?_ GE209.out) | exact HB.out)⟩⟩
    rw [if_pos c20] at H
    have c20b0 : (((rd_T56 l0_0 x3_1).f0) == 0) = true := beq_iff_eq.mpr c20
    have c20b1 : (((rd_T56 l0_0 x3_1).f0) != 0) = false := bne_eq_false_iff_eq.mpr c20
    clear c20
    by_cases c21 : (((rd_T56 l0_0 x3_1).f1).length : Int) > 0
    ·rw [if_pos c21] at H
     have c21b0 : decide (0 < (((rd_T56 l0_0 x3_1).f1).length : Int)) = true := decide_eq_true c21
     have c21b1 : decide (0 < ((rd_T56 l0_0 x3_1).f1).length) = true := decide_eq_true (by omega)
     clear c21
     have H' := ak H
     clear H
     have hnb22 := NB209_207.out
     have hnc22 := NB207_209.out
     obtain ⟨z23_0, z23_1, f23_0, f23_1⟩ := kk2 BK209.out
     go_wp2
     go_meet
     case rel => exact ⟨_, (true), (by first | rfl | (simp; done) | (simp [*]; done) | (simp [Int.tdiv_eq_ediv_of_nonneg]; done)), H', ⟨by have := HK1.out; first | omega | exact Nat.le_refl _⟩, ⟨by (with_reducible repeat first | apply kn_ | apply kd_ | apply ka_); refine blk_far ?_ NB207_209.out _; (with_reducible repeat first | apply kn_ | apply kd_ | apply ka_); refine blk_far ?_ NB207_209.out _; (with_reducible repeat first | apply kn_ | apply kd_ | apply ka_); exact BK207.out⟩, ⟨by (with_reducible repeat first | apply kn_ | apply kd_ | apply ka_); refine blk_put (cs := #[.int .i64 ((rd_T56 l0_0 x3_1).f0), .slice none 0 0]) ?_ 1 _ rfl; (with_reducible repeat first | apply kn_ | apply kd_ | apply ka_); refine blk_put (cs := #[.int .i64 0, .slice none 0 0]) ?_ 0 _ rfl; (with_reducible repeat first | apply kn_ | apply kd_ | apply ka_); exact BK209.out⟩, ⟨by repeat (first | (with_reducible first | exact HB.out | apply ba_ | apply bn_ | apply b1_ | refine bs_ ?_ GE207.out | refine bs_ ?_ GE209.out) | exact HB.out)⟩⟩
    rw [if_neg c21] at H
    have c21b0 : decide (0 < (((rd_T56 l0_0 x3_1).f1).length : Int)) = false := decide_eq_false c21
    have c21b1 : decide (0 < ((rd_T56 l0_0 x3_1).f1).length) = false := decide_eq_false (by omega)
    clear c21
    by_cases c24 : ((rd_T56 l0_0 x3_1).f0) = 3; rotate_left
    ·rw [if_neg c24] at H
     have c24b0 : (((rd_T56 l0_0 x3_1).f0) == 3) = false := beq_eq_false_iff_ne.mpr c24
     have c24b1 : (((rd_T56 l0_0 x3_1).f0) != 3) = true := bne_iff_ne.mpr c24
     have H' := ak H
     clear H
     have hnb27 := NB209_207.out
     have hnc27 := NB207_209.out
     obtain ⟨z28_0, z28_1, f28_0, f28_1⟩ := kk2 BK209.out
     go_wp2
     go_meet
     case rel => exact ⟨_, (false), (by first | rfl | (simp; done) | (simp [*]; done) | (simp [Int.tdiv_eq_ediv_of_nonneg]; done)), H', ⟨by have := HK1.out; first | omega | exact Nat.le_refl _⟩, ⟨by (with_reducible repeat first | apply kn_ | apply kd_ | apply ka_); refine blk_far ?_ NB207_209.out _; (with_reducible repeat first | apply kn_ | apply kd_ | apply ka_); refine blk_far ?_ NB207_209.out _; (with_reducible repeat first | apply kn_ | apply kd_ | apply ka_); exact BK207.out⟩, ⟨by (with_reducible repeat first | apply kn_ | apply kd_ | apply ka_); refine blk_put (cs := #[.int .i64 ((rd_T56 l0_0 x3_1).f0), .slice none 0 0]) ?_ 1 _ rfl; (with_reducible repeat first | apply kn_ | apply kd_ | apply ka_); refine blk_put (cs := #[.int .i64 0, .slice none 0 0]) ?_ 0 _ rfl; (with_reducible repeat first | apply kn_ | apply kd_ | apply ka_); exact BK209.out⟩, ⟨by repeat (first | (with_reducible first | exact HB.out | apply ba_ | apply bn_ | apply b1_ | refine bs_ ?_ GE207.out | refine bs_ ?_ GE209.out) | exact HB.out)⟩⟩
    rw [if_pos c24] at H
    have c24b0 : (((rd_T56 l0_0 x3_1).f0) == 3) = true := beq_iff_eq.mpr c24
    have c24b1 : (((rd_T56 l0_0 x3_1).f0) != 3) = false := bne_eq_false_iff_eq.mpr c24
    clear c24
    have H' := ak H
    clear H
    have hnb25 := NB209_207.out
    have hnc25 := NB207_209.out
    obtain ⟨z26_0, z26_1, f26_0, f26_1⟩ := kk2 BK209.out
    go_wp2
    go_meet
    case rel => exact ⟨_, (((((rd_T56 l0_0 x3_1).f1).length : Int) == 0)), (by first | rfl | (simp; done) | (simp [*]; done) | (simp [Int.tdiv_eq_ediv_of_nonneg]; done)), H', ⟨by have := HK1.out; first | omega | exact Nat.le_refl _⟩, ⟨by (with_reducible repeat first | apply kn_ | apply kd_ | apply ka_); refine blk_far ?_ NB207_209.out _; (with_reducible repeat first | apply kn_ | apply kd_ | apply ka_); refine blk_far ?_ NB207_209.out _; (with_reducible repeat first | apply kn_ | apply kd_ | apply ka_); exact BK207.out⟩, ⟨by (with_reducible repeat first | apply kn_ | apply kd_ | apply ka_); refine blk_put (cs := #[.int .i64 ((rd_T56 l0_0 x3_1).f0), .slice none 0 0]) ?_ 1 _ rfl; (with_reducible repeat first | apply kn_ | apply kd_ | apply ka_); refine blk_put (cs := #[.int .i64 0, .slice none 0 0]) ?_ 0 _ rfl; (with_reducible repeat first | apply kn_ | apply kd_ | apply ka_); exact BK209.out⟩, ⟨by repeat (first | (with_reducible first | exact HB.out | apply ba_ | apply bn_ | apply b1_ | refine bs_ ?_ GE207.out | refine bs_ ?_ GE209.out) | exact HB.out)⟩⟩
   case rest =>
    clear HC9
    (try clear c1); (try clear c2); (try clear c2b0); (try clear c2b1); (try clear p2); (try clear q2); (try clear hx2); (try clear c3); (try clear c7); (try clear c7b0); (try clear c8); (try clear c8b0); (try clear c12); (try clear c14); (try clear c14b0); (try clear c15); (try clear c17); (try clear c17b0); (try clear c18); (try clear c20); (try clear c20b0); (try clear c20b1); (try clear p20); (try clear q20); (try clear hx20); (try clear c21); (try clear c21b0); (try clear c21b1); (try clear c22); (try clear c24); (try clear c24b0); (try clear c24b1); (try clear c25); (try clear c27); (try clear c29); (try clear c29b0); (try clear c29b1); (try clear c30); (try clear c32); (try clear z10_0 z10_1); (try clear z13_0 z13_1); (try clear z16_0 z16_1); (try clear z19_0 z19_1); (try clear z23_0 z23_1); (try clear z26_0 z26_1); (try clear z28_0 z28_1); (try clear z31_0 z31_1); (try clear z33_0 z33_1); (try clear z4_0 z4_1); (try clear z6_0 z6_1); (try clear f10_0 f10_1); (try clear f13_0 f13_1); (try clear f16_0 f16_1); (try clear f19_0 f19_1); (try clear f23_0 f23_1); (try clear f26_0 f26_1); (try clear f28_0 f28_1); (try clear f31_0 f31_1); (try clear f33_0 f33_1); (try clear f4_0 f4_1); (try clear f6_0 f6_1); (try clear hx208_0); (try clear hx208_1); (try clear p2); (try clear p208); (try clear q208)
    obtain ⟨kq, x52_8, rfl, HA, HJ8, BK207, BK209, HB⟩ := hcut
    cases kq with
    | zero => exact absurd HA.out (by simp [atticref19_CheckView.j1])
    | succ kj8 =>
     have H := HA.out
     clear HA
     simp only [atticref19_CheckView.j1] at H
     by_cases c34 : x52_8 = true
     ·subst c34
      have H1 : (some 190) = some r := by rw [if_pos rfl] at H; exact H
      clear H
      have H := H1
      clear H1
      obtain rfl := Option.some.inj H
      go_wp2
      go_ret
      exact ⟨by first | rfl | (simp [errW_none, errW_some] <;> rfl) | (simp [*, errW_none, errW_some] <;> rfl) | (simp [Int.tdiv_eq_ediv_of_nonneg]; done), by repeat (first | (with_reducible first | exact HB.out | apply ba_ | apply bn_ | apply b1_ | refine bs_ ?_ GE207.out | refine bs_ ?_ GE209.out) | exact HB.out)⟩
     replace c34 := Bool.eq_false_iff.mpr c34
     subst c34
     have H1 : (atticref19_CheckView.l1 kj8 x3_1 0 l0_0 l0_1 ((rd_T56 l0_0 x3_1).f0) ((rd_T56 l0_0 x3_1).f1)) = some r := by rw [if_neg (show ¬ (false = true) by decide)] at H; exact H
     clear H
     have H := H1
     clear H1
     have H' := ak H
     clear H
     go_wp2
     go_loopg [5] kj8 (fun kq v5 w' => ∃ (x5_3 : Int), v5 = .int .i64 x5_3 ∧ Aside0 (atticref19_CheckView.l1 kq x3_1 x5_3 l0_0 l0_1 ((rd_T56 l0_0 x3_1).f0) ((rd_T56 l0_0 x3_1).f1) = some r) ∧ Aside0 (kq ≤ kj8) ∧ Aside0 (w'.heap[gb207]? = some (.cells #[(.slice (some ad208) l0_0.length c0_0), (.slice A0_1 l0_1.length c0_1)] 25 (0, 0))) ∧ Aside0 (w'.heap[gb209]? = some (.cells #[.int .i64 ((rd_T56 l0_0 x3_1).f0), (.slice A208_1 ((rd_T56 l0_0 x3_1).f1).length c208_1)] 56 (0, 0))) ∧ Aside0 (Below w.heap.size w w'))
     case atStart => exact ⟨(0), (by first | rfl | (simp; done) | (simp [*]; done) | (simp [Int.tdiv_eq_ediv_of_nonneg]; done)), H', ⟨Nat.le_refl _⟩, ⟨by (with_reducible repeat first | apply kn_ | apply kd_ | apply ka_); exact BK207.out⟩, ⟨by (with_reducible repeat first | apply kn_ | apply kd_ | apply ka_); exact BK209.out⟩, ⟨by repeat (first | (with_reducible first | exact HB.out | apply ba_ | apply bn_ | apply b1_ | refine bs_ ?_ GE207.out | refine bs_ ?_ GE209.out) | exact HB.out)⟩⟩
     case round =>
      clear H'
      (try clear c1); (try clear c2); (try clear c2b0); (try clear c2b1); (try clear p2); (try clear q2); (try clear hx2); (try clear c3); (try clear c7); (try clear c7b0); (try clear c8); (try clear c8b0); (try clear c12); (try clear c14); (try clear c14b0); (try clear c15); (try clear c17); (try clear c17b0); (try clear c18); (try clear c20); (try clear c20b0); (try clear c20b1); (try clear p20); (try clear q20); (try clear hx20); (try clear c21); (try clear c21b0); (try clear c21b1); (try clear c22); (try clear c24); (try clear c24b0); (try clear c24b1); (try clear c25); (try clear c27); (try clear c29); (try clear c29b0); (try clear c29b1); (try clear c30); (try clear c32); (try clear c34); (try clear z10_0 z10_1); (try clear z13_0 z13_1); (try clear z16_0 z16_1); (try clear z19_0 z19_1); (try clear z23_0 z23_1); (try clear z26_0 z26_1); (try clear z28_0 z28_1); (try clear z31_0 z31_1); (try clear z33_0 z33_1); (try clear z4_0 z4_1); (try clear z6_0 z6_1); (try clear f10_0 f10_1); (try clear f13_0 f13_1); (try clear f16_0 f16_1); (try clear f19_0 f19_1); (try clear f23_0 f23_1); (try clear f26_0 f26_1); (try clear f28_0 f28_1); (try clear f31_0 f31_1); (try clear f33_0 f33_1); (try clear f4_0 f4_1); (try clear f6_0 f6_1); (try clear hx208_0); (try clear hx208_1); (try clear p2); (try clear p20); (try clear p208); (try clear q2); (try clear q20); (try clear q208)
      obtain ⟨x5_3, rfl, HA, HK3, BK207, BK209, HB⟩ := hrel
      cases gk with
      | zero => exact absurd HA.out (by simp [atticref19_CheckView.l1])
      | succ k3 =>
       have H := HA.out
       clear HA
       simp only [atticref19_CheckView.l1] at H
       by_cases c35 : x5_3 < (((rd_T56 l0_0 x3_1).f1).length : Int); rotate_left
       ·rw [if_neg c35] at H
        have c35b0 : decide (x5_3 < (((rd_T56 l0_0 x3_1).f1).length : Int)) = false := decide_eq_false c35
        clear c35
        have H' := ak H
        clear H
        have hnb51 := NB209_207.out
        have hnc51 := NB207_209.out
        obtain ⟨z52_0, z52_1, f52_0, f52_1⟩ := kk2 BK209.out
        go_wp2
        go_roundg k3
        case measure => have := HK1.out; have := HJ8.out; have := HK3.out; omega
        case rel => exact ⟨(wrap64 (x3_1 + 1)), (by first | rfl | (simp; done) | (simp [*]; done) | (simp [Int.tdiv_eq_ediv_of_nonneg]; done)), H', ⟨by have := HK1.out; have := HJ8.out; have := HK3.out; omega⟩, ⟨by (with_reducible repeat first | apply kn_ | apply kd_ | apply ka_); exact BK207.out⟩, ⟨by repeat (first | (with_reducible first | exact HB.out | apply ba_ | apply bn_ | apply b1_ | refine bs_ ?_ GE207.out | refine bs_ ?_ GE209.out) | exact HB.out)⟩⟩
       rw [if_pos c35] at H
       have c35b0 : decide (x5_3 < (((rd_T56 l0_0 x3_1).f1).length : Int)) = true := decide_eq_true c35
       clear c35
       by_cases c36 : 0 ≤ x5_3; rotate_left
       ·rw [if_neg c36] at H
        exact absurd H (by simp)
       rw [if_pos c36] at H
       have c36b0 : decide (0 ≤ x5_3) = true := decide_eq_true c36
       clear c36
       by_cases c37 : (rd ((rd_T56 l0_0 x3_1).f1) x5_3) = (-1)
       ·rw [if_pos c37] at H
        have c37b0 : ((rd ((rd_T56 l0_0 x3_1).f1) x5_3) == (-1)) = true := beq_iff_eq.mpr c37
        have c37b1 : ((rd ((rd_T56 l0_0 x3_1).f1) x5_3) != (-1)) = false := bne_eq_false_iff_eq.mpr c37
        clear c37
        have H' := ak H
        clear H
        have hnb38 := NB209_207.out
        have hnc38 := NB207_209.out
        obtain ⟨z39_0, z39_1, f39_0, f39_1⟩ := kk2 BK209.out
        try go_wp2
        have n0_ := ak (blk_drew BK207.out)
        have n1_ := ak (blk_drew BK209.out)
        have n2_ := ak (below_drew1 HB.out)
        clear BK207 BK209 HB
        have BK207 := n0_
        have BK209 := n1_
        have HB := n2_
        clear n0_ n1_ n2_
        have p210 : 0 ≤ (x5_3 : Int) := of_decide_eq_true (by first | (with_reducible assumption) | assumption)
        have q210 : x5_3 < (((rd_T56 l0_0 x3_1).f1).length : Int) := of_decide_eq_true (by first | (with_reducible assumption) | assumption)
        obtain ⟨ad210, e210, hx210_0⟩ := Kd.at_int HR208_1.out x5_3 p210 q210
        have hw210_0 := hx210_0
        cases e210
        replace hx210_0 := (HB.out.cell (World.block_lt_of_cell? w _ hx210_0)).trans hx210_0
        replace p210 := eq_true p210
        replace q210 := eq_true q210
        refine sL (n := 16) (S := fun w' => w'.cell? ⟨gb209, 0, none⟩ = some (.int .i64 ((rd_T56 l0_0 x3_1).f0)) ∧ w'.cell? ⟨gb209, 1, none⟩ = some (.slice (some ad210) ((rd_T56 l0_0 x3_1).f1).length c208_1) ∧ w'.cell? (ad210.add (x5_3).toNat) = some (.int .i64 (rd ((rd_T56 l0_0 x3_1).f1) x5_3))) (ds := []) (by kernel_rfl) rfl ⟨(blk_cell BK209.out 0).trans rfl, (blk_cell BK209.out 1).trans rfl, ((HB.out.cell (World.block_lt_of_cell? w _ hw210_0)).trans hw210_0)⟩ (fun hHeld => ?_)
        generalize wr.drew = w40 at BK207 BK209 HB hx210_0 hHeld ⊢
        (refine pL (N := some _) rfl rfl (by kernel_rfl) (fun _ _ _ h => h) (by rfl) (v := ?_) (a' := ?_) ?_ ?_ ?_; rotate_left; (intro w'; go_simp; with_reducible rfl); rotate_left; (simp only [Act.put, sq0, sq1, sq2, sq3, sq4]; rfl))
        (refine tL (N := some _) rfl rfl (by kernel_rfl) (fun _ _ _ h => h) hHeld (by rfl) (v := ?_) (a' := ?_) ?_ ?_ ?_; rotate_left; (rintro w' ⟨s0, s1, s2⟩; go_simp; with_reducible rfl); rotate_left; (simp only [Act.put, sq0, sq1, sq2, sq3, sq4]; rfl))
        iterate 2 (refine pL (N := some _) rfl rfl (by kernel_rfl) (fun _ _ _ h => h) (by rfl) (v := ?_) (a' := ?_) ?_ ?_ ?_; rotate_left; (intro w'; go_simp; with_reducible rfl); rotate_left; (simp only [Act.put, sq0, sq1, sq2, sq3, sq4]; rfl))
        (refine tL (N := some _) rfl rfl (by kernel_rfl) (fun _ _ _ h => h) hHeld (by rfl) (v := ?_) (a' := ?_) ?_ ?_ ?_; rotate_left; (rintro w' ⟨s0, s1, s2⟩; go_simp; with_reducible rfl); rotate_left; (simp only [Act.put, sq0, sq1, sq2, sq3, sq4]; rfl))
        iterate 2 (refine pL (N := some _) rfl rfl (by kernel_rfl) (fun _ _ _ h => h) (by rfl) (v := ?_) (a' := ?_) ?_ ?_ ?_; rotate_left; (intro w'; go_simp; with_reducible rfl); rotate_left; (simp only [Act.put, sq0, sq1, sq2, sq3, sq4]; rfl))
        iterate 8 (refine oL (N := some _) rfl rfl (by kernel_rfl) (fun _ _ _ h => h) (by rfl) (a' := ?_) ?_ ?_; rotate_left; (simp only [Act.put, sq0, sq1, sq2, sq3, sq4]; rfl))
        (refine pL (N := some _) rfl rfl (by kernel_rfl) (fun _ _ _ h => h) (by rfl) (v := ?_) (a' := ?_) ?_ ?_ ?_; rotate_left; (intro w'; go_simp; with_reducible rfl); rotate_left; (simp only [Act.put, sq0, sq1, sq2, sq3, sq4]; rfl))
        refine dL (by kernel_rfl) ?_
        try go_wp2
        go_roundg k3
        case measure => have := HK1.out; have := HJ8.out; have := HK3.out; omega
        case rel => exact ⟨(wrap64 (x5_3 + 1)), (by first | rfl | (simp; done) | (simp [*]; done) | (simp [Int.tdiv_eq_ediv_of_nonneg]; done)), H', ⟨by have := HK1.out; have := HJ8.out; have := HK3.out; omega⟩, ⟨by (with_reducible repeat first | apply kn_ | apply kd_ | apply ka_); exact BK207.out⟩, ⟨by (with_reducible repeat first | apply kn_ | apply kd_ | apply ka_); exact BK209.out⟩, ⟨by repeat (first | (with_reducible first | exact HB.out | apply ba_ | apply bn_ | apply b1_ | refine bs_ ?_ GE207.out | refine bs_ ?_ GE209.out) | exact HB.out)⟩⟩
       rw [if_neg c37] at H
       have c37b0 : ((rd ((rd_T56 l0_0 x3_1).f1) x5_3) == (-1)) = false := beq_eq_false_iff_ne.mpr c37
       have c37b1 : ((rd ((rd_T56 l0_0 x3_1).f1) x5_3) != (-1)) = true := bne_iff_ne.mpr c37
       replace H := Option.bind_eq_some_iff.mp H
       obtain ⟨t212, A410, H⟩ := H
       replace H : (if t212 = true then (atticref19_CheckView.l1 k3 x3_1 (wrap64 (x5_3 + 1)) l0_0 l0_1 ((rd_T56 l0_0 x3_1).f0) ((rd_T56 l0_0 x3_1).f1)) else (some 190)) = some r := H
       have A41 := ak A410
       clear A410
       by_cases c42 : t212 = true; rotate_left
       ·replace c42 := Bool.eq_false_iff.mpr c42
        subst c42
        have H1 : (some 190) = some r := by rw [if_neg (show ¬ (false = true) by decide)] at H; exact H
        clear H
        have H := H1
        clear H1
        obtain rfl := Option.some.inj H
        have hnb47 := NB209_207.out
        have hnc47 := NB207_209.out
        obtain ⟨z48_0, z48_1, f48_0, f48_1⟩ := kk2 BK209.out
        try go_wp2
        have n0_ := ak (blk_drew BK207.out)
        have n1_ := ak (blk_drew BK209.out)
        have n2_ := ak (below_drew1 HB.out)
        clear BK207 BK209 HB
        have BK207 := n0_
        have BK209 := n1_
        have HB := n2_
        clear n0_ n1_ n2_
        have p210 : 0 ≤ (x5_3 : Int) := of_decide_eq_true (by first | (with_reducible assumption) | assumption)
        have q210 : x5_3 < (((rd_T56 l0_0 x3_1).f1).length : Int) := of_decide_eq_true (by first | (with_reducible assumption) | assumption)
        obtain ⟨ad210, e210, hx210_0⟩ := Kd.at_int HR208_1.out x5_3 p210 q210
        have hw210_0 := hx210_0
        cases e210
        replace hx210_0 := (HB.out.cell (World.block_lt_of_cell? w _ hx210_0)).trans hx210_0
        replace p210 := eq_true p210
        replace q210 := eq_true q210
        have p211 : 0 ≤ (x5_3 : Int) := of_decide_eq_true (by first | (with_reducible assumption) | assumption)
        have q211 : x5_3 < (((rd_T56 l0_0 x3_1).f1).length : Int) := of_decide_eq_true (by first | (with_reducible assumption) | assumption)
        obtain ⟨ad211, e211, hx211_0⟩ := Kd.at_int HR208_1.out x5_3 p211 q211
        have hw211_0 := hx211_0
        obtain rfl : ad210 = ad211 := (by injection e211)
        replace hx211_0 := (HB.out.cell (World.block_lt_of_cell? w _ hx211_0)).trans hx211_0
        replace p211 := eq_true p211
        replace q211 := eq_true q211
        refine sL (n := 16) (S := fun w' => w'.cell? ⟨gb209, 0, none⟩ = some (.int .i64 ((rd_T56 l0_0 x3_1).f0)) ∧ w'.cell? ⟨gb209, 1, none⟩ = some (.slice (some ad210) ((rd_T56 l0_0 x3_1).f1).length c208_1) ∧ w'.cell? ⟨gb207, 0, none⟩ = some (.slice (some ad208) l0_0.length c0_0) ∧ w'.cell? ⟨gb207, 1, none⟩ = some (.slice A0_1 l0_1.length c0_1) ∧ w'.cell? (ad210.add (x5_3).toNat) = some (.int .i64 (rd ((rd_T56 l0_0 x3_1).f1) x5_3)) ∧ w'.cell? (ad210.add (x5_3).toNat) = some (.int .i64 (rd ((rd_T56 l0_0 x3_1).f1) x5_3))) (ds := []) (by kernel_rfl) rfl ⟨(blk_cell BK209.out 0).trans rfl, (blk_cell BK209.out 1).trans rfl, (blk_cell BK207.out 0).trans rfl, (blk_cell BK207.out 1).trans rfl, ((HB.out.cell (World.block_lt_of_cell? w _ hw210_0)).trans hw210_0), ((HB.out.cell (World.block_lt_of_cell? w _ hw211_0)).trans hw211_0)⟩ (fun hHeld => ?_)
        generalize wr.drew = w49 at BK207 BK209 HB hx210_0 hx211_0 hHeld ⊢
        (refine pL (N := some _) rfl rfl (by kernel_rfl) (fun _ _ _ h => h) (by rfl) (v := ?_) (a' := ?_) ?_ ?_ ?_; rotate_left; (intro w'; go_simp; with_reducible rfl); rotate_left; (simp only [Act.put, sq0, sq1, sq2, sq3, sq4]; rfl))
        (refine tL (N := some _) rfl rfl (by kernel_rfl) (fun _ _ _ h => h) hHeld (by rfl) (v := ?_) (a' := ?_) ?_ ?_ ?_; rotate_left; (rintro w' ⟨s0, s1, s2, s3, s4, s5⟩; go_simp; with_reducible rfl); rotate_left; (simp only [Act.put, sq0, sq1, sq2, sq3, sq4]; rfl))
        iterate 2 (refine pL (N := some _) rfl rfl (by kernel_rfl) (fun _ _ _ h => h) (by rfl) (v := ?_) (a' := ?_) ?_ ?_ ?_; rotate_left; (intro w'; go_simp; with_reducible rfl); rotate_left; (simp only [Act.put, sq0, sq1, sq2, sq3, sq4]; rfl))
        (refine tL (N := some _) rfl rfl (by kernel_rfl) (fun _ _ _ h => h) hHeld (by rfl) (v := ?_) (a' := ?_) ?_ ?_ ?_; rotate_left; (rintro w' ⟨s0, s1, s2, s3, s4, s5⟩; go_simp; with_reducible rfl); rotate_left; (simp only [Act.put, sq0, sq1, sq2, sq3, sq4]; rfl))
        iterate 2 (refine pL (N := some _) rfl rfl (by kernel_rfl) (fun _ _ _ h => h) (by rfl) (v := ?_) (a' := ?_) ?_ ?_ ?_; rotate_left; (intro w'; go_simp; with_reducible rfl); rotate_left; (simp only [Act.put, sq0, sq1, sq2, sq3, sq4]; rfl))
        (refine tL (N := some _) rfl rfl (by kernel_rfl) (fun _ _ _ h => h) hHeld (by rfl) (v := ?_) (a' := ?_) ?_ ?_ ?_; rotate_left; (rintro w' ⟨s0, s1, s2, s3, s4, s5⟩; go_simp; with_reducible rfl); rotate_left; (simp only [Act.put, sq0, sq1, sq2, sq3, sq4]; rfl))
        (refine pL (N := some _) rfl rfl (by kernel_rfl) (fun _ _ _ h => h) (by rfl) (v := ?_) (a' := ?_) ?_ ?_ ?_; rotate_left; (intro w'; go_simp; with_reducible rfl); rotate_left; (simp only [Act.put, sq0, sq1, sq2, sq3, sq4]; rfl))
        (refine tL (N := some _) rfl rfl (by kernel_rfl) (fun _ _ _ h => h) hHeld (by rfl) (v := ?_) (a' := ?_) ?_ ?_ ?_; rotate_left; (rintro w' ⟨s0, s1, s2, s3, s4, s5⟩; go_simp; with_reducible rfl); rotate_left; (simp only [Act.put, sq0, sq1, sq2, sq3, sq4]; rfl))
        iterate 2 (refine pL (N := some _) rfl rfl (by kernel_rfl) (fun _ _ _ h => h) (by rfl) (v := ?_) (a' := ?_) ?_ ?_ ?_; rotate_left; (intro w'; go_simp; with_reducible rfl); rotate_left; (simp only [Act.put, sq0, sq1, sq2, sq3, sq4]; rfl))
        (refine tL (N := some _) rfl rfl (by kernel_rfl) (fun _ _ _ h => h) hHeld (by rfl) (v := ?_) (a' := ?_) ?_ ?_ ?_; rotate_left; (rintro w' ⟨s0, s1, s2, s3, s4, s5⟩; go_simp; with_reducible rfl); rotate_left; (simp only [Act.put, sq0, sq1, sq2, sq3, sq4]; rfl))
        refine nL (N := some 73) rfl rfl (by kernel_rfl) (by decide) (fun K hK => ?_)
        refine goes_ Try.func42 (by kernel_rfl) rfl #[.agg #[.slice (some ad208) l0_0.length c0_0, .slice A0_1 l0_1.length c0_1], .int .i64 (rd ((rd_T56 l0_0 x3_1).f1) x5_3)] (by rfl) rfl rfl (by (try simp only [List.map_toArray, List.map_cons, List.map_nil]); first | done | rfl | (simp only [List.length_drop, List.length_take]; rfl)) ?_
        with_reducible refine (atticref19_cell.calls _ _ l0_0 _ _ l0_1 (rd ((rd_T56 l0_0 x3_1).f1) x5_3) false _ ?side1 ?side2 ?side3 ?side4 A41.out).mono ?_
        (case side1 => repeat (first | exact (Kd.C_below HR0_0.out HB.out) | (with_reducible first | refine ca_ ?_ _ | refine cn_ ?_ _ | refine cd_ ?_)))
        (case side2 => exact HC0_0.out)
        (case side3 => repeat (first | exact (Kd.C_below HR0_1.out HB.out) | (with_reducible first | refine ca_ ?_ _ | refine cn_ ?_ _ | refine cd_ ?_)))
        (case side4 => exact HC0_1.out)
        rintro e w50 ⟨rfl, hb⟩
        refine ⟨_, rfl, ?_⟩
        have n0_ := ak (blk_below (by (with_reducible repeat first | apply kn_ | apply kd_ | apply ka_); exact BK207.out) hb)
        have n1_ := ak (blk_below (by (with_reducible repeat first | apply kn_ | apply kd_ | apply ka_); exact BK209.out) hb)
        have n2_ := ak (below_step (by repeat (first | (with_reducible first | exact HB.out | apply ba_ | apply bn_ | apply b1_ | refine bs_ ?_ GE207.out | refine bs_ ?_ GE209.out) | exact HB.out)) hb)
        clear BK207 BK209 HB
        have BK207 := n0_
        have BK209 := n1_
        have HB := n2_
        clear n0_ n1_ n2_
        (try clear hb)
        (try clear hb2)
        (try clear hk)
        (try clear hi)
        refine hK.out _ _ ⟨(blk_cell BK209.out 0).trans rfl, (blk_cell BK209.out 1).trans rfl, (blk_cell BK207.out 0).trans rfl, (blk_cell BK207.out 1).trans rfl, ((HB.out.cell (World.block_lt_of_cell? w _ hw210_0)).trans hw210_0), ((HB.out.cell (World.block_lt_of_cell? w _ hw211_0)).trans hw211_0)⟩ (fun hHeld => ?_)
        clear hK K
        refine norm_ (a' := ?_) ?_ ?_
        rotate_left
        ·show Act.put _ (some 73) _ = _
         simp only [Act.put, sq0, sq1, sq2, sq3, sq4]
         rfl
        iterate 2 (refine pL (N := some _) rfl rfl (by kernel_rfl) (fun _ _ _ h => h) (by rfl) (v := ?_) (a' := ?_) ?_ ?_ ?_; rotate_left; (intro w'; go_simp; with_reducible rfl); rotate_left; (simp only [Act.put, sq0, sq1, sq2, sq3, sq4]; rfl))
        refine dL (by kernel_rfl) ?_
        try go_wp2
        go_ret
        exact ⟨by first | rfl | (simp [errW_none, errW_some] <;> rfl) | (simp [*, errW_none, errW_some] <;> rfl) | (simp [Int.tdiv_eq_ediv_of_nonneg]; done), by repeat (first | (with_reducible first | exact HB.out | apply ba_ | apply bn_ | apply b1_ | refine bs_ ?_ GE207.out | refine bs_ ?_ GE209.out) | exact HB.out)⟩
       subst c42
       have H1 : (atticref19_CheckView.l1 k3 x3_1 (wrap64 (x5_3 + 1)) l0_0 l0_1 ((rd_T56 l0_0 x3_1).f0) ((rd_T56 l0_0 x3_1).f1)) = some r := by rw [if_pos rfl] at H; exact H
       clear H
       have H := H1
       clear H1
       have H' := ak H
       clear H
       have hnb43 := NB209_207.out
       have hnc43 := NB207_209.out
       obtain ⟨z44_0, z44_1, f44_0, f44_1⟩ := kk2 BK209.out
       try go_wp2
       have n0_ := ak (blk_drew BK207.out)
       have n1_ := ak (blk_drew BK209.out)
       have n2_ := ak (below_drew1 HB.out)
       clear BK207 BK209 HB
       have BK207 := n0_
       have BK209 := n1_
       have HB := n2_
       clear n0_ n1_ n2_
       have p210 : 0 ≤ (x5_3 : Int) := of_decide_eq_true (by first | (with_reducible assumption) | assumption)
       have q210 : x5_3 < (((rd_T56 l0_0 x3_1).f1).length : Int) := of_decide_eq_true (by first | (with_reducible assumption) | assumption)
       obtain ⟨ad210, e210, hx210_0⟩ := Kd.at_int HR208_1.out x5_3 p210 q210
       have hw210_0 := hx210_0
       cases e210
       replace hx210_0 := (HB.out.cell (World.block_lt_of_cell? w _ hx210_0)).trans hx210_0
       replace p210 := eq_true p210
       replace q210 := eq_true q210
       have p211 : 0 ≤ (x5_3 : Int) := of_decide_eq_true (by first | (with_reducible assumption) | assumption)
       have q211 : x5_3 < (((rd_T56 l0_0 x3_1).f1).length : Int) := of_decide_eq_true (by first | (with_reducible assumption) | assumption)
       obtain ⟨ad211, e211, hx211_0⟩ := Kd.at_int HR208_1.out x5_3 p211 q211
       have hw211_0 := hx211_0
       obtain rfl : ad210 = ad211 := (by injection e211)
       replace hx211_0 := (HB.out.cell (World.block_lt_of_cell? w _ hx211_0)).trans hx211_0
       replace p211 := eq_true p211
       replace q211 := eq_true q211
       refine sL (n := 16) (S := fun w' => w'.cell? ⟨gb209, 0, none⟩ = some (.int .i64 ((rd_T56 l0_0 x3_1).f0)) ∧ w'.cell? ⟨gb209, 1, none⟩ = some (.slice (some ad210) ((rd_T56 l0_0 x3_1).f1).length c208_1) ∧ w'.cell? ⟨gb207, 0, none⟩ = some (.slice (some ad208) l0_0.length c0_0) ∧ w'.cell? ⟨gb207, 1, none⟩ = some (.slice A0_1 l0_1.length c0_1) ∧ w'.cell? (ad210.add (x5_3).toNat) = some (.int .i64 (rd ((rd_T56 l0_0 x3_1).f1) x5_3)) ∧ w'.cell? (ad210.add (x5_3).toNat) = some (.int .i64 (rd ((rd_T56 l0_0 x3_1).f1) x5_3))) (ds := []) (by kernel_rfl) rfl ⟨(blk_cell BK209.out 0).trans rfl, (blk_cell BK209.out 1).trans rfl, (blk_cell BK207.out 0).trans rfl, (blk_cell BK207.out 1).trans rfl, ((HB.out.cell (World.block_lt_of_cell? w _ hw210_0)).trans hw210_0), ((HB.out.cell (World.block_lt_of_cell? w _ hw211_0)).trans hw211_0)⟩ (fun hHeld => ?_)
       generalize wr.drew = w45 at BK207 BK209 HB hx210_0 hx211_0 hHeld ⊢
       (refine pL (N := some _) rfl rfl (by kernel_rfl) (fun _ _ _ h => h) (by rfl) (v := ?_) (a' := ?_) ?_ ?_ ?_; rotate_left; (intro w'; go_simp; with_reducible rfl); rotate_left; (simp only [Act.put, sq0, sq1, sq2, sq3, sq4]; rfl))
       (refine tL (N := some _) rfl rfl (by kernel_rfl) (fun _ _ _ h => h) hHeld (by rfl) (v := ?_) (a' := ?_) ?_ ?_ ?_; rotate_left; (rintro w' ⟨s0, s1, s2, s3, s4, s5⟩; go_simp; with_reducible rfl); rotate_left; (simp only [Act.put, sq0, sq1, sq2, sq3, sq4]; rfl))
       iterate 2 (refine pL (N := some _) rfl rfl (by kernel_rfl) (fun _ _ _ h => h) (by rfl) (v := ?_) (a' := ?_) ?_ ?_ ?_; rotate_left; (intro w'; go_simp; with_reducible rfl); rotate_left; (simp only [Act.put, sq0, sq1, sq2, sq3, sq4]; rfl))
       (refine tL (N := some _) rfl rfl (by kernel_rfl) (fun _ _ _ h => h) hHeld (by rfl) (v := ?_) (a' := ?_) ?_ ?_ ?_; rotate_left; (rintro w' ⟨s0, s1, s2, s3, s4, s5⟩; go_simp; with_reducible rfl); rotate_left; (simp only [Act.put, sq0, sq1, sq2, sq3, sq4]; rfl))
       iterate 2 (refine pL (N := some _) rfl rfl (by kernel_rfl) (fun _ _ _ h => h) (by rfl) (v := ?_) (a' := ?_) ?_ ?_ ?_; rotate_left; (intro w'; go_simp; with_reducible rfl); rotate_left; (simp only [Act.put, sq0, sq1, sq2, sq3, sq4]; rfl))
       (refine tL (N := some _) rfl rfl (by kernel_rfl) (fun _ _ _ h => h) hHeld (by rfl) (v := ?_) (a' := ?_) ?_ ?_ ?_; rotate_left; (rintro w' ⟨s0, s1, s2, s3, s4, s5⟩; go_simp; with_reducible rfl); rotate_left; (simp only [Act.put, sq0, sq1, sq2, sq3, sq4]; rfl))
       (refine pL (N := some _) rfl rfl (by kernel_rfl) (fun _ _ _ h => h) (by rfl) (v := ?_) (a' := ?_) ?_ ?_ ?_; rotate_left; (intro w'; go_simp; with_reducible rfl); rotate_left; (simp only [Act.put, sq0, sq1, sq2, sq3, sq4]; rfl))
       (refine tL (N := some _) rfl rfl (by kernel_rfl) (fun _ _ _ h => h) hHeld (by rfl) (v := ?_) (a' := ?_) ?_ ?_ ?_; rotate_left; (rintro w' ⟨s0, s1, s2, s3, s4, s5⟩; go_simp; with_reducible rfl); rotate_left; (simp only [Act.put, sq0, sq1, sq2, sq3, sq4]; rfl))
       iterate 2 (refine pL (N := some _) rfl rfl (by kernel_rfl) (fun _ _ _ h => h) (by rfl) (v := ?_) (a' := ?_) ?_ ?_ ?_; rotate_left; (intro w'; go_simp; with_reducible rfl); rotate_left; (simp only [Act.put, sq0, sq1, sq2, sq3, sq4]; rfl))
       (refine tL (N := some _) rfl rfl (by kernel_rfl) (fun _ _ _ h => h) hHeld (by rfl) (v := ?_) (a' := ?_) ?_ ?_ ?_; rotate_left; (rintro w' ⟨s0, s1, s2, s3, s4, s5⟩; go_simp; with_reducible rfl); rotate_left; (simp only [Act.put, sq0, sq1, sq2, sq3, sq4]; rfl))
       refine nL (N := some 73) rfl rfl (by kernel_rfl) (by decide) (fun K hK => ?_)
       refine goes_ Try.func42 (by kernel_rfl) rfl #[.agg #[.slice (some ad208) l0_0.length c0_0, .slice A0_1 l0_1.length c0_1], .int .i64 (rd ((rd_T56 l0_0 x3_1).f1) x5_3)] (by rfl) rfl rfl (by (try simp only [List.map_toArray, List.map_cons, List.map_nil]); first | done | rfl | (simp only [List.length_drop, List.length_take]; rfl)) ?_
       with_reducible refine (atticref19_cell.calls _ _ l0_0 _ _ l0_1 (rd ((rd_T56 l0_0 x3_1).f1) x5_3) true _ ?side1 ?side2 ?side3 ?side4 A41.out).mono ?_
       (case side1 => repeat (first | exact (Kd.C_below HR0_0.out HB.out) | (with_reducible first | refine ca_ ?_ _ | refine cn_ ?_ _ | refine cd_ ?_)))
       (case side2 => exact HC0_0.out)
       (case side3 => repeat (first | exact (Kd.C_below HR0_1.out HB.out) | (with_reducible first | refine ca_ ?_ _ | refine cn_ ?_ _ | refine cd_ ?_)))
       (case side4 => exact HC0_1.out)
       rintro e w46 ⟨rfl, hb⟩
       refine ⟨_, rfl, ?_⟩
       have n0_ := ak (blk_below (by (with_reducible repeat first | apply kn_ | apply kd_ | apply ka_); exact BK207.out) hb)
       have n1_ := ak (blk_below (by (with_reducible repeat first | apply kn_ | apply kd_ | apply ka_); exact BK209.out) hb)
       have n2_ := ak (below_step (by repeat (first | (with_reducible first | exact HB.out | apply ba_ | apply bn_ | apply b1_ | refine bs_ ?_ GE207.out | refine bs_ ?_ GE209.out) | exact HB.out)) hb)
       clear BK207 BK209 HB
       have BK207 := n0_
       have BK209 := n1_
       have HB := n2_
       clear n0_ n1_ n2_
       (try clear hb)
       (try clear hb2)
       (try clear hk)
       (try clear hi)
       refine hK.out _ _ ⟨(blk_cell BK209.out 0).trans rfl, (blk_cell BK209.out 1).trans rfl, (blk_cell BK207.out 0).trans rfl, (blk_cell BK207.out 1).trans rfl, ((HB.out.cell (World.block_lt_of_cell? w _ hw210_0)).trans hw210_0), ((HB.out.cell (World.block_lt_of_cell? w _ hw211_0)).trans hw211_0)⟩ (fun hHeld => ?_)
       clear hK K
       refine norm_ (a' := ?_) ?_ ?_
       rotate_left
       ·show Act.put _ (some 73) _ = _
        simp only [Act.put, sq0, sq1, sq2, sq3, sq4]
        rfl
       iterate 2 (refine pL (N := some _) rfl rfl (by kernel_rfl) (fun _ _ _ h => h) (by rfl) (v := ?_) (a' := ?_) ?_ ?_ ?_; rotate_left; (intro w'; go_simp; with_reducible rfl); rotate_left; (simp only [Act.put, sq0, sq1, sq2, sq3, sq4]; rfl))
       refine dL (by kernel_rfl) ?_
       try go_wp2
       go_roundg k3
       case measure => have := HK1.out; have := HJ8.out; have := HK3.out; omega
       case rel => exact ⟨(wrap64 (x5_3 + 1)), (by first | rfl | (simp; done) | (simp [*]; done) | (simp [Int.tdiv_eq_ediv_of_nonneg]; done)), H', ⟨by have := HK1.out; have := HJ8.out; have := HK3.out; omega⟩, ⟨by (with_reducible repeat first | apply kn_ | apply kd_ | apply ka_); exact BK207.out⟩, ⟨by (with_reducible repeat first | apply kn_ | apply kd_ | apply ka_); exact BK209.out⟩, ⟨by repeat (first | (with_reducible first | exact HB.out | apply ba_ | apply bn_ | apply b1_ | refine bs_ ?_ GE207.out | refine bs_ ?_ GE209.out) | exact HB.out)⟩⟩
/-! ### atticref19_New: function 15 -/
def atticref19_New.f (k : Nat) (l0_0 : List (S56)) (l0_1 : List Int) (a1 : Int) : Option (Int × Int × List Bool × List Int × Bool × Bool × Bool × Int) := (atticref19_CheckView.f k l0_0 l0_1).bind fun t217 => (if t217 = 0 then (if a1 < 1 then (some (0, 0, ([] : List Bool), ([] : List Int), false, false, false, 1)) else (if a1 > 256 then (some (0, 0, ([] : List Bool), ([] : List Int), false, false, false, 1)) else (if 0 ≤ (l0_0.length : Int) then (if ((l0_0.length : Int) : Int).toNat ≤ 281474976710656 then (some (0, 0, (List.replicate ((l0_0.length : Int) : Int).toNat false), ([] : List Int), false, false, false, 0)) else (none)) else (none)))) else (some (0, 0, ([] : List Bool), ([] : List Int), false, false, false, t217)))
theorem atticref19_New.mono : ∀ a0 a1 a2 k, LeO (atticref19_New.f k a0 a1 a2) (atticref19_New.f (k + 1) a0 a1 a2) := by
 intro a0 a1 a2 k
 unfold atticref19_New.f
 repeat' first | (with_reducible first | exact atticref19_CheckView.mono _ _ _ | exact LeO.refl _ | exact LeO.none _ | refine LeO.ite ?_ ?_ | refine LeO.bind ?_ (fun _ => ?_)) | exact atticref19_CheckView.mono _ _ _ | exact LeO.none _ | refine LeO.ite ?_ ?_ | refine LeO.bind ?_ (fun _ => ?_)
set_option maxHeartbeats 8000000 in
set_option maxRecDepth 100000 in
theorem atticref19_New.calls (k : Nat) (A0_0 : Option Addr) (c0_0 : Nat) (l0_0 : List (S56)) (A0_1 : Option Addr) (c0_1 : Nat) (l0_1 : List Int) (a1 : Int) (r1 : Int) (r2 : Int) (r3 : List Bool) (r4 : List Int) (r5 : Bool) (r6 : Bool) (r7 : Bool) (r8 : Int) (w : World) (hr0_0 : Kd.C k56 w A0_0 l0_0.length l0_0) (hc0_0 : l0_0.length ≤ c0_0) (hr0_1 : Kd.C (Kd.int .i64) w A0_1 l0_1.length l0_1) (hc0_1 : l0_1.length ≤ c0_1) (h : atticref19_New.f k l0_0 l0_1 a1 = some (r1, r2, r3, r4, r5, r6, r7, r8)) :
  Calls Try.prog 15 #[.agg #[.slice A0_0 l0_0.length c0_0, .slice A0_1 l0_1.length c0_1], .int .i64 a1] w fun e w' => ∃ v2_ v3_ : Value, e = .returned (.tuple #[.agg #[.int .i64 r1, .int .i64 r2, v2_, v3_, .bool r5, .bool r6, .bool r7], .int .i64 r8]) ∧ Kd.R Kd.bool 4 w' w.heap.size (fun _ => True) v2_ r3 ∧ Kd.R (Kd.int .i64) 3 w' w.heap.size (fun _ => True) v3_ r4 ∧ Below w.heap.size w w' := by
 have hu25 := Try.underlying25
 have hu28 := Try.underlying28
 have HR0_0 := ak hr0_0
 have HC0_0 := ak hc0_0
 clear hr0_0 hc0_0
 have HR0_1 := ak hr0_1
 have HC0_1 := ak hc0_1
 clear hr0_1 hc0_1
 have HB := ak (Below.refl w.heap.size w)
 have H : ((atticref19_CheckView.f k l0_0 l0_1).bind fun t217 => (if t217 = 0 then (if a1 < 1 then (some (0, 0, ([] : List Bool), ([] : List Int), false, false, false, 1)) else (if a1 > 256 then (some (0, 0, ([] : List Bool), ([] : List Int), false, false, false, 1)) else (if 0 ≤ (l0_0.length : Int) then (if ((l0_0.length : Int) : Int).toNat ≤ 281474976710656 then (some (0, 0, (List.replicate ((l0_0.length : Int) : Int).toNat false), ([] : List Int), false, false, false, 0)) else (none)) else (none)))) else (some (0, 0, ([] : List Bool), ([] : List Int), false, false, false, t217)))) = some (r1, r2, r3, r4, r5, r6, r7, r8) := h
 clear h
 replace H := Option.bind_eq_some_iff.mp H
 obtain ⟨t217, A30, H⟩ := H
 replace H : (if t217 = 0 then (if a1 < 1 then (some (0, 0, ([] : List Bool), ([] : List Int), false, false, false, 1)) else (if a1 > 256 then (some (0, 0, ([] : List Bool), ([] : List Int), false, false, false, 1)) else (if 0 ≤ (l0_0.length : Int) then (if ((l0_0.length : Int) : Int).toNat ≤ 281474976710656 then (some (0, 0, (List.replicate ((l0_0.length : Int) : Int).toNat false), ([] : List Int), false, false, false, 0)) else (none)) else (none)))) else (some (0, 0, ([] : List Bool), ([] : List Int), false, false, false, t217))) = some (r1, r2, r3, r4, r5, r6, r7, r8) := H
 have A3 := ak A30
 clear A30
 by_cases c4 : t217 = 0; rotate_left
 ·rw [if_neg c4] at H
  have c4b0 : (t217 == 0) = false := beq_eq_false_iff_ne.mpr c4
  have c4b1 : (t217 != 0) = true := bne_iff_ne.mpr c4
  simp only [Option.some.injEq, Prod.mk.injEq] at H
  obtain ⟨rfl, rfl, rfl, rfl, rfl, rfl, rfl, rfl⟩ := H
  go_enter Try.func15, Try.ntmps15
  go_wp2_with (first | ((with_reducible refine gate_dst (N := 2) rfl ?_); refine box_event ?hg (N := 2) ?hd (cs := #[.slice A0_0 l0_0.length c0_0, .slice A0_1 l0_1.length c0_1]) (t := 25) ?hr ?_; (case hd => rfl); (case hg => rfl); (case hr => first | (go_simp; done) | (go_simp; rfl)); intro gb215 hg w31 hbox hb; have n0_ := ak (below_step (by repeat (first | (with_reducible first | exact HB.out | apply ba_ | apply bn_ | apply b1_) | exact HB.out)) hb); have n1_ := ak (hbox); have n2_ := ak ((by rw [hg]; exact (below_size (by repeat (first | (with_reducible first | exact HB.out | apply ba_ | apply bn_ | apply b1_) | exact HB.out))) : w.heap.size ≤ gb215)); have n3_ := n2_; clear HB; have HB := n0_; have BK215 := n1_; have GW215 := n2_; have GE215 := n3_; clear n0_ n1_ n2_ n3_ hb hbox hg) | ((with_reducible refine gate_dst (N := 4) rfl ?_); refine box_event ?hg (N := 4) ?hd (cs := #[.int .i64 0, .int .i64 0, .slice none 0 0, .slice none 0 0, .bool false, .bool false, .bool false]) (t := 28) ?hr ?_; (case hd => rfl); (case hg => rfl); (case hr => first | (go_simp; done) | (go_simp; rfl)); intro gb216 hg w32 hbox hb; have n0_ := ak (blk_below (by (with_reducible repeat first | apply kn_ | apply kd_ | apply ka_); exact BK215.out) hb); have n1_ := ak (below_step (by repeat (first | (with_reducible first | exact HB.out | apply ba_ | apply bn_ | apply b1_ | refine bs_ ?_ GE215.out) | exact HB.out)) hb); have n2_ := ak (hbox); have n3_ := ak ((by rw [hg]; exact (below_size (by repeat (first | (with_reducible first | exact HB.out | apply ba_ | apply bn_ | apply b1_ | refine bs_ ?_ GE215.out) | exact HB.out))) : w.heap.size ≤ gb216)); have n4_ := n3_; have n5_ := ak ((by rw [hg]; exact Nat.ne_of_lt (blk_lt (g := gb215) (o := .cells #[.slice A0_0 l0_0.length c0_0, .slice A0_1 l0_1.length c0_1] 25 (0, 0)) (by (with_reducible repeat first | apply kn_ | apply kd_ | apply ka_); exact BK215.out)) : gb215 ≠ gb216)); have n6_ := ak ((by rw [hg]; exact Nat.ne_of_gt (blk_lt (g := gb215) (o := .cells #[.slice A0_0 l0_0.length c0_0, .slice A0_1 l0_1.length c0_1] 25 (0, 0)) (by (with_reducible repeat first | apply kn_ | apply kd_ | apply ka_); exact BK215.out)) : gb216 ≠ gb215)); clear BK215 HB; have BK215 := n0_; have HB := n1_; have BK216 := n2_; have GW216 := n3_; have GE216 := n4_; have NB215_216 := n5_; have NB216_215 := n6_; clear n0_ n1_ n2_ n3_ n4_ n5_ n6_ hb hbox hg; have hnb33 := NB215_216.out; have hnc33 := NB216_215.out; obtain ⟨z34_0, z34_1, f34_0, f34_1⟩ := kk2 BK215.out) | ((with_reducible refine gate_callee (f := 17) rfl ?_); refine goesL_ (some 8) rfl rfl Try.func17 (by kernel_rfl) rfl #[.agg #[.slice A0_0 l0_0.length c0_0, .slice A0_1 l0_1.length c0_1]] rfl (by (try simp only [List.map_toArray, List.map_cons, List.map_nil]); first | done | rfl | (simp only [List.length_drop, List.length_take]; rfl)) ?_; (with_reducible refine (atticref19_CheckView.calls k _ _ l0_0 _ _ l0_1 t217 _ ?side1 ?side2 ?side3 ?side4 A3.out).mono ?_); (case side1 => repeat (first | exact (Kd.C_below HR0_0.out HB.out) | (with_reducible first | refine ca_ ?_ _ | refine cn_ ?_ _ | refine cd_ ?_))); (case side2 => exact HC0_0.out); (case side3 => repeat (first | exact (Kd.C_below HR0_1.out HB.out) | (with_reducible first | refine ca_ ?_ _ | refine cn_ ?_ _ | refine cd_ ?_))); (case side4 => exact HC0_1.out); rintro e w35 ⟨rfl, hb⟩; refine ⟨_, rfl, ?_⟩; have n0_ := ak (blk_below (by (with_reducible repeat first | apply kn_ | apply kd_ | apply ka_); exact BK215.out) hb); have n1_ := ak (blk_below (by (with_reducible repeat first | apply kn_ | apply kd_ | apply ka_); exact BK216.out) hb); have n2_ := ak (below_step (by repeat (first | (with_reducible first | exact HB.out | apply ba_ | apply bn_ | apply b1_ | refine bs_ ?_ GE215.out | refine bs_ ?_ GE216.out) | exact HB.out)) hb); clear BK215 BK216 HB; have BK215 := n0_; have BK216 := n1_; have HB := n2_; clear n0_ n1_ n2_; (try clear hb); (try clear hb2); (try clear hk); (try clear hi); (try clear A3); obtain ⟨z36_0, z36_1, z36_2, z36_3, z36_4, z36_5, z36_6, f36_0, f36_1, f36_2, f36_3, f36_4, f36_5, f36_6⟩ := kk7 BK216.out))
  refine bodyPost_ret (results_ct rfl _ _ gb216 28 #[.int .i64 0, .int .i64 0, .slice none 0 0, .slice none 0 0, .bool false, .bool false, .bool false] (0, 0) _ rfl (by (with_reducible repeat first | apply kn_ | apply kd_ | apply ka_); refine blk_put (cs := #[.int .i64 0, .int .i64 0, .slice none 0 0, .slice none 0 0, .bool false, .bool false, .bool false]) ?_ 6 _ rfl; (with_reducible repeat first | apply kn_ | apply kd_ | apply ka_); refine blk_put (cs := #[.int .i64 0, .int .i64 0, .slice none 0 0, .slice none 0 0, .bool false, .bool false, .bool false]) ?_ 5 _ rfl; (with_reducible repeat first | apply kn_ | apply kd_ | apply ka_); refine blk_put (cs := #[.int .i64 0, .int .i64 0, .slice none 0 0, .slice none 0 0, .bool false, .bool false, .bool false]) ?_ 4 _ rfl; (with_reducible repeat first | apply kn_ | apply kd_ | apply ka_); refine blk_put (cs := #[.int .i64 0, .int .i64 0, .slice none 0 0, .slice none 0 0, .bool false, .bool false, .bool false]) ?_ 3 _ rfl; (with_reducible repeat first | apply kn_ | apply kd_ | apply ka_); refine blk_put (cs := #[.int .i64 0, .int .i64 0, .slice none 0 0, .slice none 0 0, .bool false, .bool false, .bool false]) ?_ 2 _ rfl; (with_reducible repeat first | apply kn_ | apply kd_ | apply ka_); refine blk_put (cs := #[.int .i64 0, .int .i64 0, .slice none 0 0, .slice none 0 0, .bool false, .bool false, .bool false]) ?_ 1 _ rfl; (with_reducible repeat first | apply kn_ | apply kd_ | apply ka_); refine blk_put (cs := #[.int .i64 0, .int .i64 0, .slice none 0 0, .slice none 0 0, .bool false, .bool false, .bool false]) ?_ 0 _ rfl; (with_reducible repeat first | apply kn_ | apply kd_ | apply ka_); exact BK216.out) Try.underlying28 rfl (by kernel_rfl)) rfl ?_
  exact ⟨_, _, by first | rfl | (simp [errW_none, errW_some] <;> rfl) | (simp [*, errW_none, errW_some] <;> rfl) | (simp [Int.tdiv_eq_ediv_of_nonneg]; done), by first | exact Kd.R_nil _ _ _ _ _ | exact Kd.N_nil _ _ _ _ _ | exact Kd.V_nil _ _ _ _ _ | exact Kd.Q_nil _ _ _ _ _ | exact Kd.S_nil _ _ _ _ _, by first | exact Kd.R_nil _ _ _ _ _ | exact Kd.N_nil _ _ _ _ _ | exact Kd.V_nil _ _ _ _ _ | exact Kd.Q_nil _ _ _ _ _ | exact Kd.S_nil _ _ _ _ _, by repeat (first | (with_reducible first | exact HB.out | apply ba_ | apply bn_ | apply b1_ | refine bs_ ?_ GE215.out | refine bs_ ?_ GE216.out) | exact HB.out)⟩
 rw [if_pos c4] at H
 have c4b0 : (t217 == 0) = true := beq_iff_eq.mpr c4
 have c4b1 : (t217 != 0) = false := bne_eq_false_iff_eq.mpr c4
 clear c4
 by_cases c5 : a1 < 1
 ·rw [if_pos c5] at H
  have c5b0 : decide (a1 < 1) = true := decide_eq_true c5
  clear c5
  simp only [Option.some.injEq, Prod.mk.injEq] at H
  obtain ⟨rfl, rfl, rfl, rfl, rfl, rfl, rfl, rfl⟩ := H
  go_enter Try.func15, Try.ntmps15
  go_wp2_with (first | ((with_reducible refine gate_dst (N := 2) rfl ?_); refine box_event ?hg (N := 2) ?hd (cs := #[.slice A0_0 l0_0.length c0_0, .slice A0_1 l0_1.length c0_1]) (t := 25) ?hr ?_; (case hd => rfl); (case hg => rfl); (case hr => first | (go_simp; done) | (go_simp; rfl)); intro gb215 hg w6 hbox hb; have n0_ := ak (below_step (by repeat (first | (with_reducible first | exact HB.out | apply ba_ | apply bn_ | apply b1_) | exact HB.out)) hb); have n1_ := ak (hbox); have n2_ := ak ((by rw [hg]; exact (below_size (by repeat (first | (with_reducible first | exact HB.out | apply ba_ | apply bn_ | apply b1_) | exact HB.out))) : w.heap.size ≤ gb215)); have n3_ := n2_; clear HB; have HB := n0_; have BK215 := n1_; have GW215 := n2_; have GE215 := n3_; clear n0_ n1_ n2_ n3_ hb hbox hg) | ((with_reducible refine gate_dst (N := 4) rfl ?_); refine box_event ?hg (N := 4) ?hd (cs := #[.int .i64 0, .int .i64 0, .slice none 0 0, .slice none 0 0, .bool false, .bool false, .bool false]) (t := 28) ?hr ?_; (case hd => rfl); (case hg => rfl); (case hr => first | (go_simp; done) | (go_simp; rfl)); intro gb216 hg w7 hbox hb; have n0_ := ak (blk_below (by (with_reducible repeat first | apply kn_ | apply kd_ | apply ka_); exact BK215.out) hb); have n1_ := ak (below_step (by repeat (first | (with_reducible first | exact HB.out | apply ba_ | apply bn_ | apply b1_ | refine bs_ ?_ GE215.out) | exact HB.out)) hb); have n2_ := ak (hbox); have n3_ := ak ((by rw [hg]; exact (below_size (by repeat (first | (with_reducible first | exact HB.out | apply ba_ | apply bn_ | apply b1_ | refine bs_ ?_ GE215.out) | exact HB.out))) : w.heap.size ≤ gb216)); have n4_ := n3_; have n5_ := ak ((by rw [hg]; exact Nat.ne_of_lt (blk_lt (g := gb215) (o := .cells #[.slice A0_0 l0_0.length c0_0, .slice A0_1 l0_1.length c0_1] 25 (0, 0)) (by (with_reducible repeat first | apply kn_ | apply kd_ | apply ka_); exact BK215.out)) : gb215 ≠ gb216)); have n6_ := ak ((by rw [hg]; exact Nat.ne_of_gt (blk_lt (g := gb215) (o := .cells #[.slice A0_0 l0_0.length c0_0, .slice A0_1 l0_1.length c0_1] 25 (0, 0)) (by (with_reducible repeat first | apply kn_ | apply kd_ | apply ka_); exact BK215.out)) : gb216 ≠ gb215)); clear BK215 HB; have BK215 := n0_; have HB := n1_; have BK216 := n2_; have GW216 := n3_; have GE216 := n4_; have NB215_216 := n5_; have NB216_215 := n6_; clear n0_ n1_ n2_ n3_ n4_ n5_ n6_ hb hbox hg; have hnb8 := NB215_216.out; have hnc8 := NB216_215.out; obtain ⟨z9_0, z9_1, f9_0, f9_1⟩ := kk2 BK215.out) | ((with_reducible refine gate_callee (f := 17) rfl ?_); refine goesL_ (some 8) rfl rfl Try.func17 (by kernel_rfl) rfl #[.agg #[.slice A0_0 l0_0.length c0_0, .slice A0_1 l0_1.length c0_1]] rfl (by (try simp only [List.map_toArray, List.map_cons, List.map_nil]); first | done | rfl | (simp only [List.length_drop, List.length_take]; rfl)) ?_; (with_reducible refine (atticref19_CheckView.calls k _ _ l0_0 _ _ l0_1 t217 _ ?side1 ?side2 ?side3 ?side4 A3.out).mono ?_); (case side1 => repeat (first | exact (Kd.C_below HR0_0.out HB.out) | (with_reducible first | refine ca_ ?_ _ | refine cn_ ?_ _ | refine cd_ ?_))); (case side2 => exact HC0_0.out); (case side3 => repeat (first | exact (Kd.C_below HR0_1.out HB.out) | (with_reducible first | refine ca_ ?_ _ | refine cn_ ?_ _ | refine cd_ ?_))); (case side4 => exact HC0_1.out); rintro e w10 ⟨rfl, hb⟩; refine ⟨_, rfl, ?_⟩; have n0_ := ak (blk_below (by (with_reducible repeat first | apply kn_ | apply kd_ | apply ka_); exact BK215.out) hb); have n1_ := ak (blk_below (by (with_reducible repeat first | apply kn_ | apply kd_ | apply ka_); exact BK216.out) hb); have n2_ := ak (below_step (by repeat (first | (with_reducible first | exact HB.out | apply ba_ | apply bn_ | apply b1_ | refine bs_ ?_ GE215.out | refine bs_ ?_ GE216.out) | exact HB.out)) hb); clear BK215 BK216 HB; have BK215 := n0_; have BK216 := n1_; have HB := n2_; clear n0_ n1_ n2_; (try clear hb); (try clear hb2); (try clear hk); (try clear hi); (try clear A3); obtain ⟨z11_0, z11_1, z11_2, z11_3, z11_4, z11_5, z11_6, f11_0, f11_1, f11_2, f11_3, f11_4, f11_5, f11_6⟩ := kk7 BK216.out))
  refine bodyPost_ret (results_ct rfl _ _ gb216 28 #[.int .i64 0, .int .i64 0, .slice none 0 0, .slice none 0 0, .bool false, .bool false, .bool false] (0, 0) _ rfl (by (with_reducible repeat first | apply kn_ | apply kd_ | apply ka_); refine blk_put (cs := #[.int .i64 0, .int .i64 0, .slice none 0 0, .slice none 0 0, .bool false, .bool false, .bool false]) ?_ 6 _ rfl; (with_reducible repeat first | apply kn_ | apply kd_ | apply ka_); refine blk_put (cs := #[.int .i64 0, .int .i64 0, .slice none 0 0, .slice none 0 0, .bool false, .bool false, .bool false]) ?_ 5 _ rfl; (with_reducible repeat first | apply kn_ | apply kd_ | apply ka_); refine blk_put (cs := #[.int .i64 0, .int .i64 0, .slice none 0 0, .slice none 0 0, .bool false, .bool false, .bool false]) ?_ 4 _ rfl; (with_reducible repeat first | apply kn_ | apply kd_ | apply ka_); refine blk_put (cs := #[.int .i64 0, .int .i64 0, .slice none 0 0, .slice none 0 0, .bool false, .bool false, .bool false]) ?_ 3 _ rfl; (with_reducible repeat first | apply kn_ | apply kd_ | apply ka_); refine blk_put (cs := #[.int .i64 0, .int .i64 0, .slice none 0 0, .slice none 0 0, .bool false, .bool false, .bool false]) ?_ 2 _ rfl; (with_reducible repeat first | apply kn_ | apply kd_ | apply ka_); refine blk_put (cs := #[.int .i64 0, .int .i64 0, .slice none 0 0, .slice none 0 0, .bool false, .bool false, .bool false]) ?_ 1 _ rfl; (with_reducible repeat first | apply kn_ | apply kd_ | apply ka_); refine blk_put (cs := #[.int .i64 0, .int .i64 0, .slice none 0 0, .slice none 0 0, .bool false, .bool false, .bool false]) ?_ 0 _ rfl; (with_reducible repeat first | apply kn_ | apply kd_ | apply ka_); exact BK216.out) Try.underlying28 rfl (by kernel_rfl)) rfl ?_
  exact ⟨_, _, by first | rfl | (simp [errW_none, errW_some] <;> rfl) | (simp [*, errW_none, errW_some] <;> rfl) | (simp [Int.tdiv_eq_ediv_of_nonneg]; done), by first | exact Kd.R_nil _ _ _ _ _ | exact Kd.N_nil _ _ _ _ _ | exact Kd.V_nil _ _ _ _ _ | exact Kd.Q_nil _ _ _ _ _ | exact Kd.S_nil _ _ _ _ _, by first | exact Kd.R_nil _ _ _ _ _ | exact Kd.N_nil _ _ _ _ _ | exact Kd.V_nil _ _ _ _ _ | exact Kd.Q_nil _ _ _ _ _ | exact Kd.S_nil _ _ _ _ _, by repeat (first | (with_reducible first | exact HB.out | apply ba_ | apply bn_ | apply b1_ | refine bs_ ?_ GE215.out | refine bs_ ?_ GE216.out) | exact HB.out)⟩
 rw [if_neg c5] at H
 have c5b0 : decide (a1 < 1) = false := decide_eq_false c5
 clear c5
 by_cases c12 : a1 > 256
 ·rw [if_pos c12] at H
  have c12b0 : decide (256 < a1) = true := decide_eq_true c12
  clear c12
  simp only [Option.some.injEq, Prod.mk.injEq] at H
  obtain ⟨rfl, rfl, rfl, rfl, rfl, rfl, rfl, rfl⟩ := H
  go_enter Try.func15, Try.ntmps15
  go_wp2_with (first | ((with_reducible refine gate_dst (N := 2) rfl ?_); refine box_event ?hg (N := 2) ?hd (cs := #[.slice A0_0 l0_0.length c0_0, .slice A0_1 l0_1.length c0_1]) (t := 25) ?hr ?_; (case hd => rfl); (case hg => rfl); (case hr => first | (go_simp; done) | (go_simp; rfl)); intro gb215 hg w13 hbox hb; have n0_ := ak (below_step (by repeat (first | (with_reducible first | exact HB.out | apply ba_ | apply bn_ | apply b1_) | exact HB.out)) hb); have n1_ := ak (hbox); have n2_ := ak ((by rw [hg]; exact (below_size (by repeat (first | (with_reducible first | exact HB.out | apply ba_ | apply bn_ | apply b1_) | exact HB.out))) : w.heap.size ≤ gb215)); have n3_ := n2_; clear HB; have HB := n0_; have BK215 := n1_; have GW215 := n2_; have GE215 := n3_; clear n0_ n1_ n2_ n3_ hb hbox hg) | ((with_reducible refine gate_dst (N := 4) rfl ?_); refine box_event ?hg (N := 4) ?hd (cs := #[.int .i64 0, .int .i64 0, .slice none 0 0, .slice none 0 0, .bool false, .bool false, .bool false]) (t := 28) ?hr ?_; (case hd => rfl); (case hg => rfl); (case hr => first | (go_simp; done) | (go_simp; rfl)); intro gb216 hg w14 hbox hb; have n0_ := ak (blk_below (by (with_reducible repeat first | apply kn_ | apply kd_ | apply ka_); exact BK215.out) hb); have n1_ := ak (below_step (by repeat (first | (with_reducible first | exact HB.out | apply ba_ | apply bn_ | apply b1_ | refine bs_ ?_ GE215.out) | exact HB.out)) hb); have n2_ := ak (hbox); have n3_ := ak ((by rw [hg]; exact (below_size (by repeat (first | (with_reducible first | exact HB.out | apply ba_ | apply bn_ | apply b1_ | refine bs_ ?_ GE215.out) | exact HB.out))) : w.heap.size ≤ gb216)); have n4_ := n3_; have n5_ := ak ((by rw [hg]; exact Nat.ne_of_lt (blk_lt (g := gb215) (o := .cells #[.slice A0_0 l0_0.length c0_0, .slice A0_1 l0_1.length c0_1] 25 (0, 0)) (by (with_reducible repeat first | apply kn_ | apply kd_ | apply ka_); exact BK215.out)) : gb215 ≠ gb216)); have n6_ := ak ((by rw [hg]; exact Nat.ne_of_gt (blk_lt (g := gb215) (o := .cells #[.slice A0_0 l0_0.length c0_0, .slice A0_1 l0_1.length c0_1] 25 (0, 0)) (by (with_reducible repeat first | apply kn_ | apply kd_ | apply ka_); exact BK215.out)) : gb216 ≠ gb215)); clear BK215 HB; have BK215 := n0_; have HB := n1_; have BK216 := n2_; have GW216 := n3_; have GE216 := n4_; have NB215_216 := n5_; have NB216_215 := n6_; clear n0_ n1_ n2_ n3_ n4_ n5_ n6_ hb hbox hg; have hnb15 := NB215_216.out; have hnc15 := NB216_215.out; obtain ⟨z16_0, z16_1, f16_0, f16_1⟩ := kk2 BK215.out) | ((with_reducible refine gate_callee (f := 17) rfl ?_); refine goesL_ (some 8) rfl rfl Try.func17 (by kernel_rfl) rfl #[.agg #[.slice A0_0 l0_0.length c0_0, .slice A0_1 l0_1.length c0_1]] rfl (by (try simp only [List.map_toArray, List.map_cons, List.map_nil]); first | done | rfl | (simp only [List.length_drop, List.length_take]; rfl)) ?_; (with_reducible refine (atticref19_CheckView.calls k _ _ l0_0 _ _ l0_1 t217 _ ?side1 ?side2 ?side3 ?side4 A3.out).mono ?_); (case side1 => repeat (first | exact (Kd.C_below HR0_0.out HB.out) | (with_reducible first | refine ca_ ?_ _ | refine cn_ ?_ _ | refine cd_ ?_))); (case side2 => exact HC0_0.out); (case side3 => repeat (first | exact (Kd.C_below HR0_1.out HB.out) | (with_reducible first | refine ca_ ?_ _ | refine cn_ ?_ _ | refine cd_ ?_))); (case side4 => exact HC0_1.out); rintro e w17 ⟨rfl, hb⟩; refine ⟨_, rfl, ?_⟩; have n0_ := ak (blk_below (by (with_reducible repeat first | apply kn_ | apply kd_ | apply ka_); exact BK215.out) hb); have n1_ := ak (blk_below (by (with_reducible repeat first | apply kn_ | apply kd_ | apply ka_); exact BK216.out) hb); have n2_ := ak (below_step (by repeat (first | (with_reducible first | exact HB.out | apply ba_ | apply bn_ | apply b1_ | refine bs_ ?_ GE215.out | refine bs_ ?_ GE216.out) | exact HB.out)) hb); clear BK215 BK216 HB; have BK215 := n0_; have BK216 := n1_; have HB := n2_; clear n0_ n1_ n2_; (try clear hb); (try clear hb2); (try clear hk); (try clear hi); (try clear A3); obtain ⟨z18_0, z18_1, z18_2, z18_3, z18_4, z18_5, z18_6, f18_0, f18_1, f18_2, f18_3, f18_4, f18_5, f18_6⟩ := kk7 BK216.out))
  refine bodyPost_ret (results_ct rfl _ _ gb216 28 #[.int .i64 0, .int .i64 0, .slice none 0 0, .slice none 0 0, .bool false, .bool false, .bool false] (0, 0) _ rfl (by (with_reducible repeat first | apply kn_ | apply kd_ | apply ka_); refine blk_put (cs := #[.int .i64 0, .int .i64 0, .slice none 0 0, .slice none 0 0, .bool false, .bool false, .bool false]) ?_ 6 _ rfl; (with_reducible repeat first | apply kn_ | apply kd_ | apply ka_); refine blk_put (cs := #[.int .i64 0, .int .i64 0, .slice none 0 0, .slice none 0 0, .bool false, .bool false, .bool false]) ?_ 5 _ rfl; (with_reducible repeat first | apply kn_ | apply kd_ | apply ka_); refine blk_put (cs := #[.int .i64 0, .int .i64 0, .slice none 0 0, .slice none 0 0, .bool false, .bool false, .bool false]) ?_ 4 _ rfl; (with_reducible repeat first | apply kn_ | apply kd_ | apply ka_); refine blk_put (cs := #[.int .i64 0, .int .i64 0, .slice none 0 0, .slice none 0 0, .bool false, .bool false, .bool false]) ?_ 3 _ rfl; (with_reducible repeat first | apply kn_ | apply kd_ | apply ka_); refine blk_put (cs := #[.int .i64 0, .int .i64 0, .slice none 0 0, .slice none 0 0, .bool false, .bool false, .bool false]) ?_ 2 _ rfl; (with_reducible repeat first | apply kn_ | apply kd_ | apply ka_); refine blk_put (cs := #[.int .i64 0, .int .i64 0, .slice none 0 0, .slice none 0 0, .bool false, .bool false, .bool false]) ?_ 1 _ rfl; (with_reducible repeat first | apply kn_ | apply kd_ | apply ka_); refine blk_put (cs := #[.int .i64 0, .int .i64 0, .slice none 0 0, .slice none 0 0, .bool false, .bool false, .bool false]) ?_ 0 _ rfl; (with_reducible repeat first | apply kn_ | apply kd_ | apply ka_); exact BK216.out) Try.underlying28 rfl (by kernel_rfl)) rfl ?_
  exact ⟨_, _, by first | rfl | (simp [errW_none, errW_some] <;> rfl) | (simp [*, errW_none, errW_some] <;> rfl) | (simp [Int.tdiv_eq_ediv_of_nonneg]; done), by first | exact Kd.R_nil _ _ _ _ _ | exact Kd.N_nil _ _ _ _ _ | exact Kd.V_nil _ _ _ _ _ | exact Kd.Q_nil _ _ _ _ _ | exact Kd.S_nil _ _ _ _ _, by first | exact Kd.R_nil _ _ _ _ _ | exact Kd.N_nil _ _ _ _ _ | exact Kd.V_nil _ _ _ _ _ | exact Kd.Q_nil _ _ _ _ _ | exact Kd.S_nil _ _ _ _ _, by repeat (first | (with_reducible first | exact HB.out | apply ba_ | apply bn_ | apply b1_ | refine bs_ ?_ GE215.out | refine bs_ ?_ GE216.out) | exact HB.out)⟩
 rw [if_neg c12] at H
 have c12b0 : decide (256 < a1) = false := decide_eq_false c12
 clear c12
 by_cases c19 : 0 ≤ (l0_0.length : Int); rotate_left
 ·rw [if_neg c19] at H
  exact absurd H (by simp)
 rw [if_pos c19] at H
 have c19b0 := eq_true c19
 have c19b1 : decide (0 ≤ (l0_0.length : Int)) = true := decide_eq_true c19
 clear c19
 by_cases c20 : ((l0_0.length : Int) : Int).toNat ≤ 281474976710656; rotate_left
 ·rw [if_neg c20] at H
  exact absurd H (by simp)
 rw [if_pos c20] at H
 have c20b0 := eq_true c20
 have c20b1 : decide (((l0_0.length : Int) : Int).toNat ≤ 281474976710656) = true := decide_eq_true c20
 clear c20
 obtain ⟨y218, hy218⟩ : ∃ y_ : List Bool, y_ = (List.replicate ((l0_0.length : Int) : Int).toNat false) := ⟨_, rfl⟩
 replace H : (some (0, 0, y218, ([] : List Int), false, false, false, 0)) = some (r1, r2, r3, r4, r5, r6, r7, r8) := by first | (rw [hy218]; with_reducible exact H) | (have H2_ := (Option.bind_some _ _).symm.trans H; rw [hy218]; with_reducible exact H2_) | (have H2_ := (Option.bind_some _ _).symm.trans H; with_reducible exact H2_) | with_reducible exact H | (rw [hy218]; exact H) | exact H
 have Ny218 := ak hy218
 clear hy218
 simp only [Option.some.injEq, Prod.mk.injEq] at H
 obtain ⟨rfl, rfl, rfl, rfl, rfl, rfl, rfl, rfl⟩ := H
 go_enter Try.func15, Try.ntmps15
 go_wp2_with (first | ((with_reducible refine gate_dst (N := 2) rfl ?_); refine box_event ?hg (N := 2) ?hd (cs := #[.slice A0_0 l0_0.length c0_0, .slice A0_1 l0_1.length c0_1]) (t := 25) ?hr ?_; (case hd => rfl); (case hg => rfl); (case hr => first | (go_simp; done) | (go_simp; rfl)); intro gb215 hg w21 hbox hb; have n0_ := ak (below_step (by repeat (first | (with_reducible first | exact HB.out | apply ba_ | apply bn_ | apply b1_) | exact HB.out)) hb); have n1_ := ak (hbox); have n2_ := ak ((by rw [hg]; exact (below_size (by repeat (first | (with_reducible first | exact HB.out | apply ba_ | apply bn_ | apply b1_) | exact HB.out))) : w.heap.size ≤ gb215)); have n3_ := n2_; clear HB; have HB := n0_; have BK215 := n1_; have GW215 := n2_; have GE215 := n3_; clear n0_ n1_ n2_ n3_ hb hbox hg) | ((with_reducible refine gate_dst (N := 4) rfl ?_); refine box_event ?hg (N := 4) ?hd (cs := #[.int .i64 0, .int .i64 0, .slice none 0 0, .slice none 0 0, .bool false, .bool false, .bool false]) (t := 28) ?hr ?_; (case hd => rfl); (case hg => rfl); (case hr => first | (go_simp; done) | (go_simp; rfl)); intro gb216 hg w22 hbox hb; have n0_ := ak (blk_below (by (with_reducible repeat first | apply kn_ | apply kd_ | apply ka_); exact BK215.out) hb); have n1_ := ak (below_step (by repeat (first | (with_reducible first | exact HB.out | apply ba_ | apply bn_ | apply b1_ | refine bs_ ?_ GE215.out) | exact HB.out)) hb); have n2_ := ak (hbox); have n3_ := ak ((by rw [hg]; exact (below_size (by repeat (first | (with_reducible first | exact HB.out | apply ba_ | apply bn_ | apply b1_ | refine bs_ ?_ GE215.out) | exact HB.out))) : w.heap.size ≤ gb216)); have n4_ := n3_; have n5_ := ak ((by rw [hg]; exact Nat.ne_of_lt (blk_lt (g := gb215) (o := .cells #[.slice A0_0 l0_0.length c0_0, .slice A0_1 l0_1.length c0_1] 25 (0, 0)) (by (with_reducible repeat first | apply kn_ | apply kd_ | apply ka_); exact BK215.out)) : gb215 ≠ gb216)); have n6_ := ak ((by rw [hg]; exact Nat.ne_of_gt (blk_lt (g := gb215) (o := .cells #[.slice A0_0 l0_0.length c0_0, .slice A0_1 l0_1.length c0_1] 25 (0, 0)) (by (with_reducible repeat first | apply kn_ | apply kd_ | apply ka_); exact BK215.out)) : gb216 ≠ gb215)); clear BK215 HB; have BK215 := n0_; have HB := n1_; have BK216 := n2_; have GW216 := n3_; have GE216 := n4_; have NB215_216 := n5_; have NB216_215 := n6_; clear n0_ n1_ n2_ n3_ n4_ n5_ n6_ hb hbox hg; have hnb23 := NB215_216.out; have hnc23 := NB216_215.out; obtain ⟨z24_0, z24_1, f24_0, f24_1⟩ := kk2 BK215.out) | ((with_reducible refine gate_callee (f := 17) rfl ?_); refine goesL_ (some 8) rfl rfl Try.func17 (by kernel_rfl) rfl #[.agg #[.slice A0_0 l0_0.length c0_0, .slice A0_1 l0_1.length c0_1]] rfl (by (try simp only [List.map_toArray, List.map_cons, List.map_nil]); first | done | rfl | (simp only [List.length_drop, List.length_take]; rfl)) ?_; (with_reducible refine (atticref19_CheckView.calls k _ _ l0_0 _ _ l0_1 t217 _ ?side1 ?side2 ?side3 ?side4 A3.out).mono ?_); (case side1 => repeat (first | exact (Kd.C_below HR0_0.out HB.out) | (with_reducible first | refine ca_ ?_ _ | refine cn_ ?_ _ | refine cd_ ?_))); (case side2 => exact HC0_0.out); (case side3 => repeat (first | exact (Kd.C_below HR0_1.out HB.out) | (with_reducible first | refine ca_ ?_ _ | refine cn_ ?_ _ | refine cd_ ?_))); (case side4 => exact HC0_1.out); rintro e w25 ⟨rfl, hb⟩; refine ⟨_, rfl, ?_⟩; have n0_ := ak (blk_below (by (with_reducible repeat first | apply kn_ | apply kd_ | apply ka_); exact BK215.out) hb); have n1_ := ak (blk_below (by (with_reducible repeat first | apply kn_ | apply kd_ | apply ka_); exact BK216.out) hb); have n2_ := ak (below_step (by repeat (first | (with_reducible first | exact HB.out | apply ba_ | apply bn_ | apply b1_ | refine bs_ ?_ GE215.out | refine bs_ ?_ GE216.out) | exact HB.out)) hb); clear BK215 BK216 HB; have BK215 := n0_; have BK216 := n1_; have HB := n2_; clear n0_ n1_ n2_; (try clear hb); (try clear hb2); (try clear hk); (try clear hi); (try clear A3); obtain ⟨z26_0, z26_1, f26_0, f26_1⟩ := kk2 BK215.out) | ((with_reducible refine gate_dst (N := 23) rfl ?_); refine Kd.R_make Kd.bool _ 4 rfl (N := 23) rfl 26 _ _ rfl (l0_0.length : Int) rfl rfl Try.underlying26 (.bool false) 1 info4 rfl (by decide) (by omega) false (ok := fun _ => True) (okp := fun _ => True) rfl (fun _ hk => hk) trivial (of_decide_eq_true (by first | (with_reducible assumption) | assumption)) (Nat.le_trans (Nat.mul_le_mul_right _ (of_decide_eq_true (by first | (with_reducible assumption) | assumption) : (l0_0.length : Int).toNat ≤ 281474976710656)) (by omega)) (Below.refl _ _) (Nat.le_refl _) ?_; intro v219 w27 ho28 hb hg_ hnew_; clear hg_ hnew_; (first | rw [← Ny218.out] at ho28 | (simp only [Int.reduceToNat] at ho28; rw [← Ny218.out] at ho28)); have n0_ := ak (Kd.R_lower ho28 (below_size (by repeat (first | (with_reducible first | exact HB.out | apply ba_ | apply bn_ | apply b1_ | refine bs_ ?_ GE215.out | refine bs_ ?_ GE216.out) | exact HB.out)))); have n1_ := ak (blk_below (by (with_reducible repeat first | apply kn_ | apply kd_ | apply ka_); exact BK215.out) hb); have n2_ := ak (blk_below (by (with_reducible repeat first | apply kn_ | apply kd_ | apply ka_); exact BK216.out) hb); have n3_ := ak (below_step (by repeat (first | (with_reducible first | exact HB.out | apply ba_ | apply bn_ | apply b1_ | refine bs_ ?_ GE215.out | refine bs_ ?_ GE216.out) | exact HB.out)) hb); clear BK215 BK216 HB; have HO220 := n0_; have BK215 := n1_; have BK216 := n2_; have HB := n3_; clear n0_ n1_ n2_ n3_ hb ho28; obtain ⟨Ao29, co29, eo29⟩ := Kd.R_slice HO220.out; subst eo29; obtain ⟨z30_0, z30_1, z30_2, z30_3, z30_4, z30_5, z30_6, f30_0, f30_1, f30_2, f30_3, f30_4, f30_5, f30_6⟩ := kk7 BK216.out))
 refine bodyPost_ret (results_ct rfl _ _ gb216 28 #[.int .i64 0, .int .i64 0, .slice Ao29 y218.length co29, .slice none 0 0, .bool false, .bool false, .bool false] (0, 0) _ rfl (by (with_reducible repeat first | apply kn_ | apply kd_ | apply ka_); refine blk_put (cs := #[.int .i64 0, .int .i64 0, .slice Ao29 y218.length co29, .slice none 0 0, .bool false, .bool false, .bool false]) ?_ 6 _ rfl; (with_reducible repeat first | apply kn_ | apply kd_ | apply ka_); refine blk_put (cs := #[.int .i64 0, .int .i64 0, .slice Ao29 y218.length co29, .slice none 0 0, .bool false, .bool false, .bool false]) ?_ 5 _ rfl; (with_reducible repeat first | apply kn_ | apply kd_ | apply ka_); refine blk_put (cs := #[.int .i64 0, .int .i64 0, .slice Ao29 y218.length co29, .slice none 0 0, .bool false, .bool false, .bool false]) ?_ 4 _ rfl; (with_reducible repeat first | apply kn_ | apply kd_ | apply ka_); refine blk_put (cs := #[.int .i64 0, .int .i64 0, .slice Ao29 y218.length co29, .slice none 0 0, .bool false, .bool false, .bool false]) ?_ 3 _ rfl; (with_reducible repeat first | apply kn_ | apply kd_ | apply ka_); refine blk_put (cs := #[.int .i64 0, .int .i64 0, .slice none 0 0, .slice none 0 0, .bool false, .bool false, .bool false]) ?_ 2 _ rfl; (with_reducible repeat first | apply kn_ | apply kd_ | apply ka_); refine blk_put (cs := #[.int .i64 0, .int .i64 0, .slice none 0 0, .slice none 0 0, .bool false, .bool false, .bool false]) ?_ 1 _ rfl; (with_reducible repeat first | apply kn_ | apply kd_ | apply ka_); refine blk_put (cs := #[.int .i64 0, .int .i64 0, .slice none 0 0, .slice none 0 0, .bool false, .bool false, .bool false]) ?_ 0 _ rfl; (with_reducible repeat first | apply kn_ | apply kd_ | apply ka_); exact BK216.out) Try.underlying28 rfl (by kernel_rfl)) rfl ?_
 exact ⟨_, _, by first | rfl | (simp [errW_none, errW_some] <;> rfl) | (simp [*, errW_none, errW_some] <;> rfl) | (simp [Int.tdiv_eq_ediv_of_nonneg]; done), by (with_reducible repeat (first | apply Kd.R_alloc | apply Kd.R_drewN | apply Kd.R_drew)); exact Kd.R_mono (Kd.R_far (p := ⟨gb216, 6, none⟩) (Kd.R_far (p := ⟨gb216, 5, none⟩) (Kd.R_far (p := ⟨gb216, 4, none⟩) (Kd.R_far (p := ⟨gb216, 3, none⟩) (Kd.R_far (p := ⟨gb216, 2, none⟩) (Kd.R_far (p := ⟨gb216, 1, none⟩) (Kd.R_far (p := ⟨gb216, 0, none⟩) (Kd.R_types HO220.out BK216.out (by decide)) (fun _ hk => hk.2) (.int .i64 0)) (fun _ hk => hk.2) (.int .i64 0)) (fun _ hk => hk.2) (.slice Ao29 y218.length co29)) (fun _ hk => hk.2) (.slice none 0 0)) (fun _ hk => hk.2) (.bool false)) (fun _ hk => hk.2) (.bool false)) (fun _ hk => hk.2) (.bool false)) (fun _ hk => trivial), by first | exact Kd.R_nil _ _ _ _ _ | exact Kd.N_nil _ _ _ _ _ | exact Kd.V_nil _ _ _ _ _ | exact Kd.Q_nil _ _ _ _ _ | exact Kd.S_nil _ _ _ _ _, by repeat (first | (with_reducible first | exact HB.out | apply ba_ | apply bn_ | apply b1_ | refine bs_ ?_ GE215.out | refine bs_ ?_ GE216.out) | exact HB.out)⟩
/-! ### atticref19_has: function 44 -/
def atticref19_has.l0 : Nat → List Int → Int → Int → Option (Bool)
 | 0, _, _, _ => none
 | k + 1, x0, x1, x5 => if x5 < (x0.length : Int) then (if 0 ≤ x5 then (if (rd x0 x5) = x1 then (some true) else (atticref19_has.l0 k x0 x1 (wrap64 (x5 + 1)))) else (none)) else (some false)
def atticref19_has.f (k : Nat) (l0 : List Int) (a1 : Int) : Option (Bool) := atticref19_has.l0 k l0 a1 0
theorem atticref19_has.mono_l : ∀ k, (∀ y0 y1 y2, LeO (atticref19_has.l0 k y0 y1 y2) (atticref19_has.l0 (k + 1) y0 y1 y2))
 | 0 => fun _ _ _ r h => by simp [atticref19_has.l0] at h
 | k + 1 => by
  have ih0 := atticref19_has.mono_l k
  ·intro y0 y1 y2
   unfold atticref19_has.l0
   repeat' first | (with_reducible first | exact ih0 _ _ _ | exact LeO.refl _ | exact LeO.none _ | refine LeO.ite ?_ ?_ | refine LeO.bind ?_ (fun _ => ?_)) | exact ih0 _ _ _ | exact LeO.none _ | refine LeO.ite ?_ ?_ | refine LeO.bind ?_ (fun _ => ?_)
theorem atticref19_has.mono : ∀ a0 a1 k, LeO (atticref19_has.f k a0 a1) (atticref19_has.f (k + 1) a0 a1) := by
 intro a0 a1 k
 have ih0 := atticref19_has.mono_l k
 unfold atticref19_has.f
 repeat' first | (with_reducible first | exact ih0 _ _ _ | exact LeO.refl _ | exact LeO.none _ | refine LeO.ite ?_ ?_ | refine LeO.bind ?_ (fun _ => ?_)) | exact ih0 _ _ _ | exact LeO.none _ | refine LeO.ite ?_ ?_ | refine LeO.bind ?_ (fun _ => ?_)
set_option maxHeartbeats 8000000 in
set_option maxRecDepth 100000 in
theorem atticref19_has.calls (k : Nat) (A0 : Option Addr) (c0 : Nat) (l0 : List Int) (a1 : Int) (r : Bool) (w : World) (hr0 : Kd.C (Kd.int .i64) w A0 l0.length l0) (hc0 : l0.length ≤ c0) (h : atticref19_has.f k l0 a1 = some r) :
  Calls Try.prog 44 #[.slice A0 l0.length c0, .int .i64 a1] w fun e w' => e = .returned (.bool r) ∧ Drawn0 w w' := by
 have HR0 := ak hr0
 have HC0 := ak hc0
 clear hr0 hc0
 have H : (atticref19_has.l0 k l0 a1 0) = some r := h
 clear h
 have H' := ak H
 clear H
 go_enter Try.func44, Try.ntmps44
 go_wp2
 go_loopg [5] k (fun kq v5 w' => ∃ (x5_1 : Int), v5 = .int .i64 x5_1 ∧ Aside0 (atticref19_has.l0 kq l0 a1 x5_1 = some r) ∧ Aside0 (kq ≤ k) ∧ Drawn0 w w')
 case atStart => exact ⟨(0), (by first | rfl | (simp; done) | (simp [*]; done) | (simp [Int.tdiv_eq_ediv_of_nonneg]; done)), H', ⟨Nat.le_refl _⟩, by repeat (first | exact Drawn0.refl _ | apply Drawn0.step)⟩
 case round =>
  clear H'
  try clear p2
  obtain ⟨x5_1, rfl, HA, HK1, ⟨m1, rfl⟩⟩ := hrel
  cases gk with
  | zero => exact absurd HA.out (by simp [atticref19_has.l0])
  | succ k1 =>
   have H := HA.out
   clear HA
   simp only [atticref19_has.l0] at H
   by_cases c3 : x5_1 < (l0.length : Int); rotate_left
   ·rw [if_neg c3] at H
    have c3b0 : decide (x5_1 < (l0.length : Int)) = false := decide_eq_false c3
    clear c3
    obtain rfl := Option.some.inj H
    go_wp2
    go_ret
    exact ⟨by first | rfl | (simp; done) | (simp [*]; done) | (simp [Int.tdiv_eq_ediv_of_nonneg]; done), by repeat (first | exact Drawn0.refl _ | apply Drawn0.step)⟩
   rw [if_pos c3] at H
   have c3b0 : decide (x5_1 < (l0.length : Int)) = true := decide_eq_true c3
   clear c3
   by_cases c4 : 0 ≤ x5_1; rotate_left
   ·rw [if_neg c4] at H
    exact absurd H (by simp)
   rw [if_pos c4] at H
   have c4b0 : decide (0 ≤ x5_1) = true := decide_eq_true c4
   clear c4
   by_cases c5 : (rd l0 x5_1) = a1
   ·rw [if_pos c5] at H
    have c5b0 : ((rd l0 x5_1) == a1) = true := beq_iff_eq.mpr c5
    have c5b1 : ((rd l0 x5_1) != a1) = false := bne_eq_false_iff_eq.mpr c5
    clear c5
    obtain rfl := Option.some.inj H
    have p221 : 0 ≤ (x5_1 : Int) := of_decide_eq_true (by first | (with_reducible assumption) | assumption)
    have q221 : x5_1 < (l0.length : Int) := of_decide_eq_true (by first | (with_reducible assumption) | assumption)
    obtain ⟨ad221, e221, hx221_0⟩ := Kd.at_int HR0.out x5_1 p221 q221
    cases e221
    replace p221 := eq_true p221
    replace q221 := eq_true q221
    go_wp2
    go_ret
    exact ⟨by first | rfl | (simp; done) | (simp [*]; done) | (simp [Int.tdiv_eq_ediv_of_nonneg]; done), by repeat (first | exact Drawn0.refl _ | apply Drawn0.step)⟩
   rw [if_neg c5] at H
   have c5b0 : ((rd l0 x5_1) == a1) = false := beq_eq_false_iff_ne.mpr c5
   have c5b1 : ((rd l0 x5_1) != a1) = true := bne_iff_ne.mpr c5
   have H' := ak H
   clear H
   have p221 : 0 ≤ (x5_1 : Int) := of_decide_eq_true (by first | (with_reducible assumption) | assumption)
   have q221 : x5_1 < (l0.length : Int) := of_decide_eq_true (by first | (with_reducible assumption) | assumption)
   obtain ⟨ad221, e221, hx221_0⟩ := Kd.at_int HR0.out x5_1 p221 q221
   cases e221
   replace p221 := eq_true p221
   replace q221 := eq_true q221
   go_wp2
   go_roundg k1
   case measure => have := HK1.out; omega
   case rel => exact ⟨(wrap64 (x5_1 + 1)), (by first | rfl | (simp; done) | (simp [*]; done) | (simp [Int.tdiv_eq_ediv_of_nonneg]; done)), H', ⟨by have := HK1.out; omega⟩, by repeat (first | exact Drawn0.refl _ | apply Drawn0.step)⟩
end Go.Proofs.Ytnmpmjbkelogaaa.Print
