-- Written by a program of this session (wip/xprint.py, by way of the print): Lean functions and proofs that the Go functions come to them.
import Derived.Test.YtnmpmjbkelogaaaPrint0
namespace Go.Proofs.Ytnmpmjbkelogaaa.Print
open Go.RowKit Go.Proofs.YtnmpmjbkelogaaaW.PrintWords Go.Proofs.YtnmpmjbkelogaaaW.PrintLast Go.Proofs.YtnmpmjbkelogaaaW.PrintMore
attribute [local go_sem] max2_int min2_int max_two min_two max_three min_three max_four min_four   -- for this text's walks alone
set_option linter.unusedVariables false
set_option linter.unusedSimpArgs false
/-! ### mark_cell: function 38 -/
def mark_cell.f (a0_0 : Int) (l0_1 : List Int) : Option (Bool) := if a0_0 = 0 then (some ((l0_1.length : Int) == 0)) else (if a0_0 = 3 then (some (decide ((l0_1.length : Int) > 0))) else (if a0_0 = 1 then (some true) else (some (a0_0 == 2))))
set_option maxHeartbeats 8000000 in
set_option maxRecDepth 100000 in
theorem mark_cell.calls (a0_0 : Int) (A0_1 : Option Addr) (c0_1 : Nat) (l0_1 : List Int) (r : Bool) (w : World) (hr0_1 : Kd.C (Kd.int .i64) w A0_1 l0_1.length l0_1) (hc0_1 : l0_1.length ≤ c0_1) (h : mark_cell.f a0_0 l0_1 = some r) :
  Calls Try.prog 38 #[.agg #[.int .i64 a0_0, .slice A0_1 l0_1.length c0_1]] w fun e w' => e = .returned (.bool r) ∧ Below w.heap.size w w' := by
 have hu56 := Try.underlying56
 have HR0_1 := ak hr0_1
 have HC0_1 := ak hc0_1
 clear hr0_1 hc0_1
 have HB := ak (Below.refl w.heap.size w)
 have H : (if a0_0 = 0 then (some ((l0_1.length : Int) == 0)) else (if a0_0 = 3 then (some (decide ((l0_1.length : Int) > 0))) else (if a0_0 = 1 then (some true) else (some (a0_0 == 2))))) = some r := h
 clear h
 by_cases c2 : a0_0 = 0
 ·rw [if_pos c2] at H
  have c2b0 : (a0_0 == 0) = true := beq_iff_eq.mpr c2
  have c2b1 : (a0_0 != 0) = false := bne_eq_false_iff_eq.mpr c2
  clear c2
  obtain rfl := Option.some.inj H
  go_enter Try.func38, Try.ntmps38
  go_wp2_with (first | ((with_reducible refine gate_dst (N := 1) rfl ?_); refine box_event ?hg (N := 1) ?hd (cs := #[.int .i64 a0_0, .slice A0_1 l0_1.length c0_1]) (t := 56) ?hr ?_; (case hd => rfl); (case hg => rfl); (case hr => first | (go_simp; done) | (go_simp; rfl)); intro gb101 hg w3 hbox hb; have n0_ := ak (below_step (by repeat (first | (with_reducible first | exact HB.out | apply ba_ | apply bn_ | apply b1_) | exact HB.out)) hb); have n1_ := ak (hbox); have n2_ := ak ((by rw [hg]; exact (below_size (by repeat (first | (with_reducible first | exact HB.out | apply ba_ | apply bn_ | apply b1_) | exact HB.out))) : w.heap.size ≤ gb101)); have n3_ := n2_; clear HB; have HB := n0_; have BK101 := n1_; have GW101 := n2_; have GE101 := n3_; clear n0_ n1_ n2_ n3_ hb hbox hg; obtain ⟨z4_0, z4_1, f4_0, f4_1⟩ := kk2 BK101.out))
  go_ret
  exact ⟨by first | rfl | (simp [errW_none, errW_some] <;> rfl) | (simp [*, errW_none, errW_some] <;> rfl) | (simp [Int.tdiv_eq_ediv_of_nonneg]; done), by repeat (first | (with_reducible first | exact HB.out | apply ba_ | apply bn_ | apply b1_ | refine bs_ ?_ GE101.out) | exact HB.out)⟩
 rw [if_neg c2] at H
 have c2b0 : (a0_0 == 0) = false := beq_eq_false_iff_ne.mpr c2
 have c2b1 : (a0_0 != 0) = true := bne_iff_ne.mpr c2
 by_cases c5 : a0_0 = 3
 ·rw [if_pos c5] at H
  have c5b0 : (a0_0 == 3) = true := beq_iff_eq.mpr c5
  have c5b1 : (a0_0 != 3) = false := bne_eq_false_iff_eq.mpr c5
  clear c5
  obtain rfl := Option.some.inj H
  go_enter Try.func38, Try.ntmps38
  go_wp2_with (first | ((with_reducible refine gate_dst (N := 1) rfl ?_); refine box_event ?hg (N := 1) ?hd (cs := #[.int .i64 a0_0, .slice A0_1 l0_1.length c0_1]) (t := 56) ?hr ?_; (case hd => rfl); (case hg => rfl); (case hr => first | (go_simp; done) | (go_simp; rfl)); intro gb101 hg w6 hbox hb; have n0_ := ak (below_step (by repeat (first | (with_reducible first | exact HB.out | apply ba_ | apply bn_ | apply b1_) | exact HB.out)) hb); have n1_ := ak (hbox); have n2_ := ak ((by rw [hg]; exact (below_size (by repeat (first | (with_reducible first | exact HB.out | apply ba_ | apply bn_ | apply b1_) | exact HB.out))) : w.heap.size ≤ gb101)); have n3_ := n2_; clear HB; have HB := n0_; have BK101 := n1_; have GW101 := n2_; have GE101 := n3_; clear n0_ n1_ n2_ n3_ hb hbox hg; obtain ⟨z7_0, z7_1, f7_0, f7_1⟩ := kk2 BK101.out))
  go_ret
  exact ⟨by first | rfl | (simp [errW_none, errW_some] <;> rfl) | (simp [*, errW_none, errW_some] <;> rfl) | (simp [Int.tdiv_eq_ediv_of_nonneg]; done), by repeat (first | (with_reducible first | exact HB.out | apply ba_ | apply bn_ | apply b1_ | refine bs_ ?_ GE101.out) | exact HB.out)⟩
 rw [if_neg c5] at H
 have c5b0 : (a0_0 == 3) = false := beq_eq_false_iff_ne.mpr c5
 have c5b1 : (a0_0 != 3) = true := bne_iff_ne.mpr c5
 by_cases c8 : a0_0 = 1; rotate_left
 ·rw [if_neg c8] at H
  have c8b0 : (a0_0 == 1) = false := beq_eq_false_iff_ne.mpr c8
  have c8b1 : (a0_0 != 1) = true := bne_iff_ne.mpr c8
  obtain rfl := Option.some.inj H
  go_enter Try.func38, Try.ntmps38
  go_wp2_with (first | ((with_reducible refine gate_dst (N := 1) rfl ?_); refine box_event ?hg (N := 1) ?hd (cs := #[.int .i64 a0_0, .slice A0_1 l0_1.length c0_1]) (t := 56) ?hr ?_; (case hd => rfl); (case hg => rfl); (case hr => first | (go_simp; done) | (go_simp; rfl)); intro gb101 hg w11 hbox hb; have n0_ := ak (below_step (by repeat (first | (with_reducible first | exact HB.out | apply ba_ | apply bn_ | apply b1_) | exact HB.out)) hb); have n1_ := ak (hbox); have n2_ := ak ((by rw [hg]; exact (below_size (by repeat (first | (with_reducible first | exact HB.out | apply ba_ | apply bn_ | apply b1_) | exact HB.out))) : w.heap.size ≤ gb101)); have n3_ := n2_; clear HB; have HB := n0_; have BK101 := n1_; have GW101 := n2_; have GE101 := n3_; clear n0_ n1_ n2_ n3_ hb hbox hg; obtain ⟨z12_0, z12_1, f12_0, f12_1⟩ := kk2 BK101.out))
  go_ret
  exact ⟨by first | rfl | (simp [errW_none, errW_some] <;> rfl) | (simp [*, errW_none, errW_some] <;> rfl) | (simp [Int.tdiv_eq_ediv_of_nonneg]; done), by repeat (first | (with_reducible first | exact HB.out | apply ba_ | apply bn_ | apply b1_ | refine bs_ ?_ GE101.out) | exact HB.out)⟩
 rw [if_pos c8] at H
 have c8b0 : (a0_0 == 1) = true := beq_iff_eq.mpr c8
 have c8b1 : (a0_0 != 1) = false := bne_eq_false_iff_eq.mpr c8
 clear c8
 obtain rfl := Option.some.inj H
 go_enter Try.func38, Try.ntmps38
 go_wp2_with (first | ((with_reducible refine gate_dst (N := 1) rfl ?_); refine box_event ?hg (N := 1) ?hd (cs := #[.int .i64 a0_0, .slice A0_1 l0_1.length c0_1]) (t := 56) ?hr ?_; (case hd => rfl); (case hg => rfl); (case hr => first | (go_simp; done) | (go_simp; rfl)); intro gb101 hg w9 hbox hb; have n0_ := ak (below_step (by repeat (first | (with_reducible first | exact HB.out | apply ba_ | apply bn_ | apply b1_) | exact HB.out)) hb); have n1_ := ak (hbox); have n2_ := ak ((by rw [hg]; exact (below_size (by repeat (first | (with_reducible first | exact HB.out | apply ba_ | apply bn_ | apply b1_) | exact HB.out))) : w.heap.size ≤ gb101)); have n3_ := n2_; clear HB; have HB := n0_; have BK101 := n1_; have GW101 := n2_; have GE101 := n3_; clear n0_ n1_ n2_ n3_ hb hbox hg; obtain ⟨z10_0, z10_1, f10_0, f10_1⟩ := kk2 BK101.out))
 go_ret
 exact ⟨by first | rfl | (simp [errW_none, errW_some] <;> rfl) | (simp [*, errW_none, errW_some] <;> rfl) | (simp [Int.tdiv_eq_ediv_of_nonneg]; done), by repeat (first | (with_reducible first | exact HB.out | apply ba_ | apply bn_ | apply b1_ | refine bs_ ?_ GE101.out) | exact HB.out)⟩
/-! ### mark_there: function 39 -/
def mark_there.f (l0_0 : List (S56)) (l0_1 : List Int) (a1 : Int) : Option (Bool) := if a1 ≥ 0 then (if a1 < (l0_0.length : Int) then (if 0 ≤ a1 then (some (((rd_T56 l0_0 a1).f0) != 0)) else (none)) else (some false)) else (some false)
set_option maxHeartbeats 8000000 in
set_option maxRecDepth 100000 in
theorem mark_there.calls (A0_0 : Option Addr) (c0_0 : Nat) (l0_0 : List (S56)) (A0_1 : Option Addr) (c0_1 : Nat) (l0_1 : List Int) (a1 : Int) (r : Bool) (w : World) (hr0_0 : Kd.C k56 w A0_0 l0_0.length l0_0) (hc0_0 : l0_0.length ≤ c0_0) (hr0_1 : Kd.C (Kd.int .i64) w A0_1 l0_1.length l0_1) (hc0_1 : l0_1.length ≤ c0_1) (h : mark_there.f l0_0 l0_1 a1 = some r) :
  Calls Try.prog 39 #[.agg #[.slice A0_0 l0_0.length c0_0, .slice A0_1 l0_1.length c0_1], .int .i64 a1] w fun e w' => e = .returned (.bool r) ∧ Below w.heap.size w w' := by
 have hu25 := Try.underlying25
 have HR0_0 := ak hr0_0
 have HC0_0 := ak hc0_0
 clear hr0_0 hc0_0
 have HR0_1 := ak hr0_1
 have HC0_1 := ak hc0_1
 clear hr0_1 hc0_1
 have HB := ak (Below.refl w.heap.size w)
 have H : (if a1 ≥ 0 then (if a1 < (l0_0.length : Int) then (if 0 ≤ a1 then (some (((rd_T56 l0_0 a1).f0) != 0)) else (none)) else (some false)) else (some false)) = some r := h
 clear h
 by_cases c3 : a1 ≥ 0; rotate_left
 ·rw [if_neg c3] at H
  have c3b0 : decide (0 ≤ a1) = false := decide_eq_false c3
  clear c3
  obtain rfl := Option.some.inj H
  go_enter Try.func39, Try.ntmps39
  go_wp2_with (first | ((with_reducible refine gate_dst (N := 2) rfl ?_); (try (refine gate_guard (by rfl) ?_; dsimp only)); refine box_event ?hg (N := 2) ?hd (cs := #[.slice A0_0 l0_0.length c0_0, .slice A0_1 l0_1.length c0_1]) (t := 25) ?hr ?_; (case hd => rfl); (case hg => rfl); (case hr => first | (go_simp; done) | (go_simp; rfl)); intro gb102 hg w10 hbox hb; have n0_ := ak (below_step (by repeat (first | (with_reducible first | exact HB.out | apply ba_ | apply bn_ | apply b1_) | exact HB.out)) hb); have n1_ := ak (hbox); have n2_ := ak ((by rw [hg]; exact (below_size (by repeat (first | (with_reducible first | exact HB.out | apply ba_ | apply bn_ | apply b1_) | exact HB.out))) : w.heap.size ≤ gb102)); have n3_ := n2_; clear HB; have HB := n0_; have BK102 := n1_; have GW102 := n2_; have GE102 := n3_; clear n0_ n1_ n2_ n3_ hb hbox hg))
  go_ret
  exact ⟨by first | rfl | (simp [errW_none, errW_some] <;> rfl) | (simp [*, errW_none, errW_some] <;> rfl) | (simp [Int.tdiv_eq_ediv_of_nonneg]; done), by repeat (first | (with_reducible first | exact HB.out | apply ba_ | apply bn_ | apply b1_ | refine bs_ ?_ GE102.out) | exact HB.out)⟩
 rw [if_pos c3] at H
 have c3b0 : decide (0 ≤ a1) = true := decide_eq_true c3
 clear c3
 by_cases c4 : a1 < (l0_0.length : Int); rotate_left
 ·rw [if_neg c4] at H
  have c4b0 : decide (a1 < (l0_0.length : Int)) = false := decide_eq_false c4
  clear c4
  obtain rfl := Option.some.inj H
  go_enter Try.func39, Try.ntmps39
  go_wp2_with (first | ((with_reducible refine gate_dst (N := 2) rfl ?_); (try (refine gate_guard (by rfl) ?_; dsimp only)); refine box_event ?hg (N := 2) ?hd (cs := #[.slice A0_0 l0_0.length c0_0, .slice A0_1 l0_1.length c0_1]) (t := 25) ?hr ?_; (case hd => rfl); (case hg => rfl); (case hr => first | (go_simp; done) | (go_simp; rfl)); intro gb102 hg w8 hbox hb; have n0_ := ak (below_step (by repeat (first | (with_reducible first | exact HB.out | apply ba_ | apply bn_ | apply b1_) | exact HB.out)) hb); have n1_ := ak (hbox); have n2_ := ak ((by rw [hg]; exact (below_size (by repeat (first | (with_reducible first | exact HB.out | apply ba_ | apply bn_ | apply b1_) | exact HB.out))) : w.heap.size ≤ gb102)); have n3_ := n2_; clear HB; have HB := n0_; have BK102 := n1_; have GW102 := n2_; have GE102 := n3_; clear n0_ n1_ n2_ n3_ hb hbox hg; obtain ⟨z9_0, z9_1, f9_0, f9_1⟩ := kk2 BK102.out))
  go_ret
  exact ⟨by first | rfl | (simp [errW_none, errW_some] <;> rfl) | (simp [*, errW_none, errW_some] <;> rfl) | (simp [Int.tdiv_eq_ediv_of_nonneg]; done), by repeat (first | (with_reducible first | exact HB.out | apply ba_ | apply bn_ | apply b1_ | refine bs_ ?_ GE102.out) | exact HB.out)⟩
 rw [if_pos c4] at H
 have c4b0 : decide (a1 < (l0_0.length : Int)) = true := decide_eq_true c4
 clear c4
 by_cases c5 : 0 ≤ a1; rotate_left
 ·rw [if_neg c5] at H
  exact absurd H (by simp)
 rw [if_pos c5] at H
 have c5b0 : decide (0 ≤ a1) = true := decide_eq_true c5
 clear c5
 obtain rfl := Option.some.inj H
 go_enter Try.func39, Try.ntmps39
 go_wp2_with (first | ((with_reducible refine gate_dst (N := 2) rfl ?_); (try (refine gate_guard (by rfl) ?_; dsimp only)); refine box_event ?hg (N := 2) ?hd (cs := #[.slice A0_0 l0_0.length c0_0, .slice A0_1 l0_1.length c0_1]) (t := 25) ?hr ?_; (case hd => rfl); (case hg => rfl); (case hr => first | (go_simp; done) | (go_simp; rfl)); intro gb102 hg w6 hbox hb; have n0_ := ak (below_step (by repeat (first | (with_reducible first | exact HB.out | apply ba_ | apply bn_ | apply b1_) | exact HB.out)) hb); have n1_ := ak (hbox); have n2_ := ak ((by rw [hg]; exact (below_size (by repeat (first | (with_reducible first | exact HB.out | apply ba_ | apply bn_ | apply b1_) | exact HB.out))) : w.heap.size ≤ gb102)); have n3_ := n2_; clear HB; have HB := n0_; have BK102 := n1_; have GW102 := n2_; have GE102 := n3_; clear n0_ n1_ n2_ n3_ hb hbox hg; obtain ⟨z7_0, z7_1, f7_0, f7_1⟩ := kk2 BK102.out; have p103 : 0 ≤ (a1 : Int) := of_decide_eq_true (by first | (with_reducible assumption) | assumption); have q103 : a1 < (l0_0.length : Int) := of_decide_eq_true (by first | (with_reducible assumption) | assumption); obtain ⟨ad103, A103_1, c103_1, e103, hx103_0, hx103_1, hl103_1, hi103_1⟩ := at_T56 HR0_0.out a1 p103 q103; cases e103; replace hx103_0 := (HB.out.cell (World.block_lt_of_cell? w _ hx103_0)).trans hx103_0; replace hx103_1 := (HB.out.cell (World.block_lt_of_cell? w _ hx103_1)).trans hx103_1; have HR103_1 := ak hi103_1; have HC103_1 := ak hl103_1; clear hi103_1 hl103_1; replace p103 := eq_true p103; replace q103 := eq_true q103))
 go_ret
 exact ⟨by first | rfl | (simp [errW_none, errW_some] <;> rfl) | (simp [*, errW_none, errW_some] <;> rfl) | (simp [Int.tdiv_eq_ediv_of_nonneg]; done), by repeat (first | (with_reducible first | exact HB.out | apply ba_ | apply bn_ | apply b1_ | refine bs_ ?_ GE102.out) | exact HB.out)⟩
-- NOT PRINTED: function 41 (mark_CheckView_1)
-- NOT PRINTED: function 56 (slices_IndexFunc_int_int)
/-! ### any_view: slices.ContainsFunc[[]int,int]@attic/mark.CheckView$1 -/
/-- Is one of these no cell that is there. -/
def any_view.f : List Int → List S56 → List Int → Option Bool
 | [], _, _ => some false
 | x :: l, lc, lr => (mark_there.f lc lr x).bind fun b => if (!b) = true then some true else any_view.f l lc lr
theorem any_view.at_ (l0 : List Int) (lc : List S56) (lr : List Int) (i : Int) (r : Bool) (h0 : 0 ≤ i) (h1 : i < (l0.length : Int)) (h : any_view.f (l0.drop i.toNat) lc lr = some r) :
  ∃ b, mark_there.f lc lr (rd l0 i) = some b ∧ ((b = false ∧ r = true) ∨ (b = true ∧ any_view.f (l0.drop (i.toNat + 1)) lc lr = some r)) := by
 have hl : i.toNat < l0.length := by omega
 rw [List.drop_eq_getElem_cons hl] at h
 obtain ⟨b, hb, h⟩ := Option.bind_eq_some_iff.1 h
 refine ⟨b, ?_, ?_⟩
 ·have e : rd l0 i = l0[i.toNat] := by unfold rd; rw [List.getD_eq_getElem?_getD, List.getElem?_eq_getElem hl]; rfl
  rw [e]; exact hb
 ·cases b with
  | false => exact .inl ⟨rfl, (Option.some.inj h).symm⟩
  | true => exact .inr ⟨rfl, h⟩
set_option maxHeartbeats 1000000 in
theorem any_view.one (gb : Nat) (A1 : Option Addr) (c1 : Nat) (lc : List S56) (A2 : Option Addr) (c2 : Nat) (lr : List Int) (x : Int) (b : Bool) (w : World)
  (hr1 : Kd.C k56 w A1 lc.length lc) (hc1 : lc.length ≤ c1) (hr2 : Kd.C (Kd.int .i64) w A2 lr.length lr) (hc2 : lr.length ≤ c2) (hbox : w.heap[gb]? = some (.cells #[.slice A1 lc.length c1, .slice A2 lr.length c2] 25 (0, 0))) (h : mark_there.f lc lr x = some b) :
  Calls Try.prog 41 #[.int .i64 x, .pointer (some ⟨gb, 0, none⟩)] w fun e w' => e = .returned (.bool (!b)) ∧ Below w.heap.size w w' := by
 have hu := Try.underlying25
 have hz0 : w.cell? ⟨gb, 0, none⟩ = some (.slice A1 lc.length c1) := (blk_cell hbox 0).trans rfl
 have hz1 : w.cell? ⟨gb, 1, none⟩ = some (.slice A2 lr.length c2) := (blk_cell hbox 1).trans rfl
 have HK := ak (mark_there.calls A1 c1 lc A2 c2 lr x b w hr1 hc1 hr2 hc2 h)
 clear hr1 hc1 hr2 hc2 h hbox
 go_enter Try.func41, Try.ntmps41
 go_wp2_with (first | (go_at_call 39; (refine HK.out.mono ?_); rintro e w3 ⟨rfl, hb3⟩; have HB3 := ak hb3; clear hb3))
 go_ret
 exact ⟨rfl, HB3.out⟩
set_option maxHeartbeats 1000000 in
theorem any_view.index (A0 : Option Addr) (c0 : Nat) (l0 : List Int) (gb : Nat) (A1 : Option Addr) (c1 : Nat) (lc : List S56) (A2 : Option Addr) (c2 : Nat) (lr : List Int) (r : Bool) (w : World) (hr0 : Kd.C (Kd.int .i64) w A0 l0.length l0) (hc0 : l0.length ≤ c0)
  (hr1 : Kd.C k56 w A1 lc.length lc) (hc1 : lc.length ≤ c1) (hr2 : Kd.C (Kd.int .i64) w A2 lr.length lr) (hc2 : lr.length ≤ c2) (hbox : w.heap[gb]? = some (.cells #[.slice A1 lc.length c1, .slice A2 lr.length c2] 25 (0, 0))) (h : any_view.f l0 lc lr = some r) :
  Calls Try.prog 56 #[.slice A0 l0.length c0, .func (.func 41) #[] #[.pointer (some ⟨gb, 0, none⟩)]] w fun e w' => ∃ j : Int, e = .returned (.int .i64 j) ∧ -1 ≤ j ∧ decide (0 ≤ j) = r ∧ Below w.heap.size w w' := by
 have HR := ak hr0
 have HH := ak h
 have HF := ak (fun (x : Int) (b : Bool) (wr : World) (hx : mark_there.f lc lr x = some b) (hbel : Below w.heap.size w wr) => any_view.one gb A1 c1 lc A2 c2 lr x b wr (Kd.C_below hr1 hbel) hc1 (Kd.C_below hr2 hbel) hc2 (blk_below hbox hbel) hx)
 have hm : l0.length ≤ 9223372036854775807 := hr0.2.1
 clear hr0 h hr1 hr2 hbox hc1 hc2
 go_enter Try.func56, Try.ntmps56
 go_wp2
 go_loopw [8] (fun v8 wr => ∃ i : Int, v8 = .int .i64 i ∧ 0 ≤ i ∧ i ≤ (l0.length : Int) ∧ Aside0 (any_view.f (l0.drop i.toNat) lc lr = some r) ∧ Aside0 (Below w.heap.size w wr)) (fun v8 _ => l0.length - (intOf v8).toNat)
 case atStart => exact ⟨0, rfl, Int.le_refl _, by omega, HH, ⟨Below.refl _ _⟩⟩
 case round =>
  obtain ⟨i, rfl, h0, h1, HA, HB⟩ := hrel
  by_cases hlt : i < (l0.length : Int); rotate_left
  ·have hi : i = (l0.length : Int) := by omega
   have hb0 : decide (i < (l0.length : Int)) = false := decide_eq_false hlt
   have hr : r = false := by
    have := HA.out
    rw [hi, Int.toNat_natCast, List.drop_length] at this
    exact (Option.some.inj this).symm
   have HI := ak hi
   have HRF := ak hr
   clear hi hr
   go_wp2
   go_ret
   exact ⟨-1, rfl, by omega, by rw [HRF.out]; rfl, HB.out⟩
  have hb0 : decide (i < (l0.length : Int)) = true := decide_eq_true hlt
  obtain ⟨b, hg, hcase⟩ := any_view.at_ l0 lc lr i r h0 hlt HA.out
  have HG := ak (HF.out _ _ wr hg HB.out)
  clear hg
  obtain ⟨ad, eA, hx0⟩ := Kd.at_int HR.out i h0 hlt
  subst eA
  replace hx0 := pw_cell_below HB.out hx0
  have q0 := eq_true h0
  have q1 := eq_true hlt
  rcases hcase with ⟨rfl, rfl⟩ | ⟨rfl, hnext⟩
  ·go_wp2_with (first | (go_at_call 41; (refine HG.out.mono ?_); rintro e w3 ⟨rfl, hb3⟩; have HB3 := ak hb3; clear hb3))
   go_ret
   exact ⟨i, rfl, by omega, decide_eq_true h0, below_step HB.out HB3.out⟩
  ·have HN := ak hnext
   clear hnext
   go_wp2_with (first | (go_at_call 41; (refine HG.out.mono ?_); rintro e w3 ⟨rfl, hb3⟩; have HB3 := ak hb3; clear hb3))
   go_roundw
   case rel => exact ⟨i + 1, by first | rfl | (simp; done) | (congr 1; done), by omega, by omega, ⟨by rw [show (i + 1).toNat = i.toNat + 1 from by omega]; exact HN.out⟩, ⟨below_step HB.out HB3.out⟩⟩
   case measure => simp [intOf]; omega
theorem any_view.calls (A0 : Option Addr) (c0 : Nat) (l0 : List Int) (gb : Nat) (A1 : Option Addr) (c1 : Nat) (lc : List S56) (A2 : Option Addr) (c2 : Nat) (lr : List Int) (r : Bool) (w : World) (hr0 : Kd.C (Kd.int .i64) w A0 l0.length l0) (hc0 : l0.length ≤ c0)
  (hr1 : Kd.C k56 w A1 lc.length lc) (hc1 : lc.length ≤ c1) (hr2 : Kd.C (Kd.int .i64) w A2 lr.length lr) (hc2 : lr.length ≤ c2) (hbox : w.heap[gb]? = some (.cells #[.slice A1 lc.length c1, .slice A2 lr.length c2] 25 (0, 0))) (h : any_view.f l0 lc lr = some r) :
  Calls Try.prog 40 #[.slice A0 l0.length c0, .func (.func 41) #[] #[.pointer (some ⟨gb, 0, none⟩)]] w fun e w' => e = .returned (.bool r) ∧ Below w.heap.size w w' := by
 have HK := ak (any_view.index A0 c0 l0 gb A1 c1 lc A2 c2 lr r w hr0 hc0 hr1 hc1 hr2 hc2 hbox h)
 clear hr0 hc0 h hr1 hc1 hr2 hc2 hbox
 go_enter Try.func40, Try.ntmps40
 go_wp2_with (first | (go_at_call 56; (refine HK.out.mono ?_); rintro e w3 ⟨j, rfl, hj1, hj, hb3⟩; have HB3 := ak hb3; have HJ := ak hj; clear hb3 hj))
 go_ret
 exact ⟨by first | (rw [← HJ.out]; done) | (rw [← HJ.out]; rfl) | (simp [← HJ.out]; done), HB3.out⟩
-- NOT PRINTED: function 40 (slices_ContainsFunc_int_int)
/-! ### mark_CheckView: function 16 -/
mutual
def mark_CheckView.l0 : Nat → Bool → Int → List (S56) → List Int → Option (Int)
 | 0, _, _, _, _ => none
 | k + 1, x3, x4, x105000, x105001 => if x3 = true then (mark_CheckView.j1 k x3 x4 (decide (x4 < (x105000.length : Int))) x105000 x105001) else (mark_CheckView.j1 k x3 x4 false x105000 x105001)
def mark_CheckView.j1 : Nat → Bool → Int → Bool → List (S56) → List Int → Option (Int)
 | 0, _, _, _, _, _ => none
 | k + 1, x3, x4, x18, x105000, x105001 => if x18 = true then (if 0 ≤ x4 then (if x4 < (x105000.length : Int) then ((mark_cell.f ((rd_T56 x105000 x4).f0) ((rd_T56 x105000 x4).f1)).bind fun t107 => (mark_CheckView.l1 k t107 x4 ((rd_T56 x105000 x4).f1) (((rd_T56 x105000 x4).f1).length : Int) 0 x105000 x105001)) else (none)) else (none)) else (if x3 = true then ((any_view.f x105001 x105000 x105001).bind fun t105 => (if t105 = true then (some 190) else (some 0))) else (some 190))
def mark_CheckView.l1 : Nat → Bool → Int → List Int → Int → Int → List (S56) → List Int → Option (Int)
 | 0, _, _, _, _, _, _, _ => none
 | k + 1, x3, x4, x32, x33, x34, x105000, x105001 => if x34 < x33 then (if 0 ≤ x34 then (if x34 < (x32.length : Int) then (if (rd x32 x34) = (-1) then (mark_CheckView.l1 k x3 x4 x32 x33 (wrap64 (x34 + 1)) x105000 x105001) else ((mark_there.f x105000 x105001 (rd x32 x34)).bind fun t110 => (if t110 = true then (mark_CheckView.l1 k x3 x4 x32 x33 (wrap64 (x34 + 1)) x105000 x105001) else (some 190)))) else (none)) else (none)) else (mark_CheckView.l0 k x3 (wrap64 (x4 + 1)) x105000 x105001)
end
def mark_CheckView.f (k : Nat) (l0_0 : List (S56)) (l0_1 : List Int) : Option (Int) := mark_CheckView.l0 k (decide ((l0_0.length : Int) ≤ 8192)) 0 l0_0 l0_1
theorem mark_CheckView.mono_l : ∀ k, (∀ y0 y1 y2 y3, LeO (mark_CheckView.l0 k y0 y1 y2 y3) (mark_CheckView.l0 (k + 1) y0 y1 y2 y3)) ∧ (∀ y0 y1 y2 y3 y4, LeO (mark_CheckView.j1 k y0 y1 y2 y3 y4) (mark_CheckView.j1 (k + 1) y0 y1 y2 y3 y4)) ∧ (∀ y0 y1 y2 y3 y4 y5 y6, LeO (mark_CheckView.l1 k y0 y1 y2 y3 y4 y5 y6) (mark_CheckView.l1 (k + 1) y0 y1 y2 y3 y4 y5 y6))
 | 0 => ⟨fun _ _ _ _ r h => by simp [mark_CheckView.l0] at h, fun _ _ _ _ _ r h => by simp [mark_CheckView.j1] at h, fun _ _ _ _ _ _ _ r h => by simp [mark_CheckView.l1] at h⟩
 | k + 1 => by
  obtain ⟨ih0, ih1, ih2⟩ := mark_CheckView.mono_l k
  refine ⟨?_, ?_, ?_⟩
  ·intro y0 y1 y2 y3
   unfold mark_CheckView.l0
   repeat' first | (with_reducible first | exact ih0 _ _ _ _ | exact ih1 _ _ _ _ _ | exact ih2 _ _ _ _ _ _ _ | exact LeO.refl _ | exact LeO.none _ | refine LeO.ite ?_ ?_ | refine LeO.bind ?_ (fun _ => ?_)) | exact ih0 _ _ _ _ | exact ih1 _ _ _ _ _ | exact ih2 _ _ _ _ _ _ _ | exact LeO.none _ | refine LeO.ite ?_ ?_ | refine LeO.bind ?_ (fun _ => ?_)
  ·intro y0 y1 y2 y3 y4
   unfold mark_CheckView.j1
   repeat' first | (with_reducible first | exact ih0 _ _ _ _ | exact ih1 _ _ _ _ _ | exact ih2 _ _ _ _ _ _ _ | exact LeO.refl _ | exact LeO.none _ | refine LeO.ite ?_ ?_ | refine LeO.bind ?_ (fun _ => ?_)) | exact ih0 _ _ _ _ | exact ih1 _ _ _ _ _ | exact ih2 _ _ _ _ _ _ _ | exact LeO.none _ | refine LeO.ite ?_ ?_ | refine LeO.bind ?_ (fun _ => ?_)
  ·intro y0 y1 y2 y3 y4 y5 y6
   unfold mark_CheckView.l1
   repeat' first | (with_reducible first | exact ih0 _ _ _ _ | exact ih1 _ _ _ _ _ | exact ih2 _ _ _ _ _ _ _ | exact LeO.refl _ | exact LeO.none _ | refine LeO.ite ?_ ?_ | refine LeO.bind ?_ (fun _ => ?_)) | exact ih0 _ _ _ _ | exact ih1 _ _ _ _ _ | exact ih2 _ _ _ _ _ _ _ | exact LeO.none _ | refine LeO.ite ?_ ?_ | refine LeO.bind ?_ (fun _ => ?_)
theorem mark_CheckView.mono : ∀ a0 a1 k, LeO (mark_CheckView.f k a0 a1) (mark_CheckView.f (k + 1) a0 a1) := by
 intro a0 a1 k
 obtain ⟨ih0, ih1, ih2⟩ := mark_CheckView.mono_l k
 unfold mark_CheckView.f
 repeat' first | (with_reducible first | exact ih0 _ _ _ _ | exact ih1 _ _ _ _ _ | exact ih2 _ _ _ _ _ _ _ | exact LeO.refl _ | exact LeO.none _ | refine LeO.ite ?_ ?_ | refine LeO.bind ?_ (fun _ => ?_)) | exact ih0 _ _ _ _ | exact ih1 _ _ _ _ _ | exact ih2 _ _ _ _ _ _ _ | exact LeO.none _ | refine LeO.ite ?_ ?_ | refine LeO.bind ?_ (fun _ => ?_)
set_option maxHeartbeats 8000000 in
set_option maxRecDepth 100000 in
theorem mark_CheckView.calls (k : Nat) (A0_0 : Option Addr) (c0_0 : Nat) (l0_0 : List (S56)) (A0_1 : Option Addr) (c0_1 : Nat) (l0_1 : List Int) (r : Int) (w : World) (hr0_0 : Kd.C k56 w A0_0 l0_0.length l0_0) (hc0_0 : l0_0.length ≤ c0_0) (hr0_1 : Kd.C (Kd.int .i64) w A0_1 l0_1.length l0_1) (hc0_1 : l0_1.length ≤ c0_1) (h : mark_CheckView.f k l0_0 l0_1 = some r) :
  Calls Try.prog 16 #[.agg #[.slice A0_0 l0_0.length c0_0, .slice A0_1 l0_1.length c0_1]] w fun e w' => e = .returned (.int .i64 r) ∧ Below w.heap.size w w' := by
 have hu25 := Try.underlying25
 have hu56 := Try.underlying56
 have HR0_0 := ak hr0_0
 have HC0_0 := ak hc0_0
 clear hr0_0 hc0_0
 have HR0_1 := ak hr0_1
 have HC0_1 := ak hc0_1
 clear hr0_1 hc0_1
 have HB := ak (Below.refl w.heap.size w)
 have H : (mark_CheckView.l0 k (decide ((l0_0.length : Int) ≤ 8192)) 0 l0_0 l0_1) = some r := h
 clear h
 have H' := ak H
 clear H
 go_enter Try.func16, Try.ntmps16
 go_wp2_with (first | ((with_reducible refine gate_dst (N := 1) rfl ?_); (try (refine gate_guard (by rfl) ?_; dsimp only)); refine box_event ?hg (N := 1) ?hd (cs := #[.slice A0_0 l0_0.length c0_0, .slice A0_1 l0_1.length c0_1]) (t := 25) ?hr ?_; (case hd => rfl); (case hg => rfl); (case hr => first | (go_simp; done) | (go_simp; rfl)); intro gb104 hg w2 hbox hb; have n0_ := ak (below_step (by repeat (first | (with_reducible first | exact HB.out | apply ba_ | apply bn_ | apply b1_) | exact HB.out)) hb); have n1_ := ak (hbox); have n2_ := ak ((by rw [hg]; exact (below_size (by repeat (first | (with_reducible first | exact HB.out | apply ba_ | apply bn_ | apply b1_) | exact HB.out))) : w.heap.size ≤ gb104)); have n3_ := n2_; clear HB; have HB := n0_; have BK104 := n1_; have GW104 := n2_; have GE104 := n3_; clear n0_ n1_ n2_ n3_ hb hbox hg; obtain ⟨z3_0, z3_1, f3_0, f3_1⟩ := kk2 BK104.out) | (go_step3))
 go_loopg [3, 4] k (fun kq v3 v4 w' => ∃ (x3_1 : Bool) (x4_1 : Int), v3 = .bool x3_1 ∧ v4 = .int .i64 x4_1 ∧ Aside0 (mark_CheckView.l0 kq x3_1 x4_1 l0_0 l0_1 = some r) ∧ Aside0 (kq ≤ k) ∧ Aside0 (w'.heap[gb104]? = some (.cells #[(.slice A0_0 l0_0.length c0_0), (.slice A0_1 l0_1.length c0_1)] 25 (0, 0))) ∧ Aside0 (Below w.heap.size w w'))
 case atStart => exact ⟨(decide ((l0_0.length : Int) ≤ 8192)), (0), (by first | rfl | (simp; done) | (simp [*]; done) | (simp [Int.tdiv_eq_ediv_of_nonneg]; done)), (by first | rfl | (simp; done) | (simp [*]; done) | (simp [Int.tdiv_eq_ediv_of_nonneg]; done)), H', ⟨Nat.le_refl _⟩, ⟨by (with_reducible repeat first | apply kn_ | apply kd_ | apply ka_); exact BK104.out⟩, ⟨by repeat (first | (with_reducible first | exact HB.out | apply ba_ | apply bn_ | apply b1_ | refine bs_ ?_ GE104.out) | exact HB.out)⟩⟩
 case round =>
  clear H'
  (try clear c1); (try clear p2); (try clear p3); (try clear z3_0 z3_1); (try clear f3_0 f3_1)
  obtain ⟨x3_1, x4_1, rfl, rfl, HA, HK1, BK104, HB⟩ := hrel
  cases gk with
  | zero => exact absurd HA.out (by simp [mark_CheckView.l0])
  | succ k1 =>
   have H := HA.out
   clear HA
   simp only [mark_CheckView.l0] at H
   have HC4 := ak H
   clear H
   go_upto_region 3 with (fail)
   go_cut [18] (fun v18 wc => ∃ (kq : Nat) (x18_3 : Bool), v18 = .bool x18_3 ∧ Aside0 (mark_CheckView.j1 kq x3_1 x4_1 x18_3 l0_0 l0_1 = some r) ∧ Aside0 (kq ≤ k1) ∧ Aside0 (wc.heap[gb104]? = some (.cells #[(.slice A0_0 l0_0.length c0_0), (.slice A0_1 l0_1.length c0_1)] 25 (0, 0))) ∧ Aside0 (Below w.heap.size w wc))
   case first =>
    have H := HC4.out
    clear HC4
    by_cases c5 : x3_1 = true; rotate_left
    ·replace c5 := Bool.eq_false_iff.mpr c5
     subst c5
     have H1 : (mark_CheckView.j1 k1 false x4_1 false l0_0 l0_1) = some r := by rw [if_neg (show ¬ (false = true) by decide)] at H; exact H
     clear H
     have H := H1
     clear H1
     have H' := ak H
     clear H
     go_wp2_with (first | (go_step3))
     go_meet
     case rel => exact ⟨_, (false), (by first | rfl | (simp; done) | (simp [*]; done) | (simp [Int.tdiv_eq_ediv_of_nonneg]; done)), H', ⟨by have := HK1.out; first | omega | exact Nat.le_refl _⟩, ⟨by (with_reducible repeat first | apply kn_ | apply kd_ | apply ka_); exact BK104.out⟩, ⟨by repeat (first | (with_reducible first | exact HB.out | apply ba_ | apply bn_ | apply b1_ | refine bs_ ?_ GE104.out) | exact HB.out)⟩⟩
    subst c5
    have H1 : (mark_CheckView.j1 k1 true x4_1 (decide (x4_1 < (l0_0.length : Int))) l0_0 l0_1) = some r := by rw [if_pos rfl] at H; exact H
    clear H
    have H := H1
    clear H1
    have H' := ak H
    clear H
    obtain ⟨z6_0, z6_1, f6_0, f6_1⟩ := kk2 BK104.out
    go_wp2_with (first | (go_step3))
    go_meet
    case rel => exact ⟨_, (decide (x4_1 < (l0_0.length : Int))), (by first | rfl | (simp; done) | (simp [*]; done) | (simp [Int.tdiv_eq_ediv_of_nonneg]; done)), H', ⟨by have := HK1.out; first | omega | exact Nat.le_refl _⟩, ⟨by (with_reducible repeat first | apply kn_ | apply kd_ | apply ka_); exact BK104.out⟩, ⟨by repeat (first | (with_reducible first | exact HB.out | apply ba_ | apply bn_ | apply b1_ | refine bs_ ?_ GE104.out) | exact HB.out)⟩⟩
   case rest =>
    clear HC4
    (try clear c1); (try clear p2); (try clear p3); (try clear c5); (try clear z3_0 z3_1); (try clear z6_0 z6_1); (try clear f3_0 f3_1); (try clear f6_0 f6_1); (try clear p2); (try clear p3)
    obtain ⟨kq, x18_3, rfl, HA, HJ3, BK104, HB⟩ := hcut
    cases kq with
    | zero => exact absurd HA.out (by simp [mark_CheckView.j1])
    | succ kj3 =>
     have H := HA.out
     clear HA
     simp only [mark_CheckView.j1] at H
     by_cases c7 : x18_3 = true; rotate_left
     ·replace c7 := Bool.eq_false_iff.mpr c7
      subst c7
      have H1 : (if x3_1 = true then ((any_view.f l0_1 l0_0 l0_1).bind fun t105 => (if t105 = true then (some 190) else (some 0))) else (some 190)) = some r := by rw [if_neg (show ¬ (false = true) by decide)] at H; exact H
      clear H
      have H := H1
      clear H1
      by_cases c24 : x3_1 = true; rotate_left
      ·replace c24 := Bool.eq_false_iff.mpr c24
       subst c24
       have H1 : (some 190) = some r := by rw [if_neg (show ¬ (false = true) by decide)] at H; exact H
       clear H
       have H := H1
       clear H1
       obtain rfl := Option.some.inj H
       go_wp2_with (first | (go_step3))
       (try rw [Exit.noGoto_ret]); go_ret
       exact ⟨by first | rfl | (simp [errW_none, errW_some] <;> rfl) | (simp [*, errW_none, errW_some] <;> rfl) | (simp [Int.tdiv_eq_ediv_of_nonneg]; done), by repeat (first | (with_reducible first | exact HB.out | apply ba_ | apply bn_ | apply b1_ | refine bs_ ?_ GE104.out) | exact HB.out)⟩
      subst c24
      have H1 : ((any_view.f l0_1 l0_0 l0_1).bind fun t105 => (if t105 = true then (some 190) else (some 0))) = some r := by rw [if_pos rfl] at H; exact H
      clear H
      have H := H1
      clear H1
      replace H := Option.bind_eq_some_iff.mp H
      obtain ⟨t105, A250, H⟩ := H
      replace H : (if t105 = true then (some 190) else (some 0)) = some r := H
      have A25 := ak A250
      clear A250
      by_cases c26 : t105 = true
      ·subst c26
       have H1 : (some 190) = some r := by rw [if_pos rfl] at H; exact H
       clear H
       have H := H1
       clear H1
       obtain rfl := Option.some.inj H
       obtain ⟨z27_0, z27_1, f27_0, f27_1⟩ := kk2 BK104.out
       go_wp2_with (first | (go_at_call 40; (with_reducible refine (any_view.calls _ _ l0_1 gb104 A0_0 c0_0 l0_0 A0_1 c0_1 l0_1 true _ ?side1 ?side2 ?side3 ?side4 ?side5 ?side6 ?side7 A25.out).mono ?_); (case side1 => repeat (first | exact (Kd.C_below HR0_1.out HB.out) | (with_reducible first | refine ca_ ?_ _ | refine cn_ ?_ _ | refine cd_ ?_))); (case side2 => exact HC0_1.out); (case side3 => repeat (first | exact (Kd.C_below HR0_0.out HB.out) | (with_reducible first | refine ca_ ?_ _ | refine cn_ ?_ _ | refine cd_ ?_))); (case side4 => exact HC0_0.out); (case side5 => repeat (first | exact (Kd.C_below HR0_1.out HB.out) | (with_reducible first | refine ca_ ?_ _ | refine cn_ ?_ _ | refine cd_ ?_))); (case side6 => exact HC0_1.out); (case side7 => (with_reducible repeat first | apply kn_ | apply kd_ | apply ka_); exact BK104.out); rintro e w28 ⟨rfl, hb⟩; have n0_ := ak (blk_below (by (with_reducible repeat first | apply kn_ | apply kd_ | apply ka_); exact BK104.out) hb); have n1_ := ak (below_step (by repeat (first | (with_reducible first | exact HB.out | apply ba_ | apply bn_ | apply b1_ | refine bs_ ?_ GE104.out) | exact HB.out)) hb); clear BK104 HB; have BK104 := n0_; have HB := n1_; clear n0_ n1_; (try clear hb); (try clear hb2); (try clear hk); (try clear hi); (try clear A25)) | (go_step3))
       (try rw [Exit.noGoto_ret]); go_ret
       exact ⟨by first | rfl | (simp [errW_none, errW_some] <;> rfl) | (simp [*, errW_none, errW_some] <;> rfl) | (simp [Int.tdiv_eq_ediv_of_nonneg]; done), by repeat (first | (with_reducible first | exact HB.out | apply ba_ | apply bn_ | apply b1_ | refine bs_ ?_ GE104.out) | exact HB.out)⟩
      replace c26 := Bool.eq_false_iff.mpr c26
      subst c26
      have H1 : (some 0) = some r := by rw [if_neg (show ¬ (false = true) by decide)] at H; exact H
      clear H
      have H := H1
      clear H1
      obtain rfl := Option.some.inj H
      obtain ⟨z29_0, z29_1, f29_0, f29_1⟩ := kk2 BK104.out
      go_wp2_with (first | (go_at_call 40; (with_reducible refine (any_view.calls _ _ l0_1 gb104 A0_0 c0_0 l0_0 A0_1 c0_1 l0_1 false _ ?side1 ?side2 ?side3 ?side4 ?side5 ?side6 ?side7 A25.out).mono ?_); (case side1 => repeat (first | exact (Kd.C_below HR0_1.out HB.out) | (with_reducible first | refine ca_ ?_ _ | refine cn_ ?_ _ | refine cd_ ?_))); (case side2 => exact HC0_1.out); (case side3 => repeat (first | exact (Kd.C_below HR0_0.out HB.out) | (with_reducible first | refine ca_ ?_ _ | refine cn_ ?_ _ | refine cd_ ?_))); (case side4 => exact HC0_0.out); (case side5 => repeat (first | exact (Kd.C_below HR0_1.out HB.out) | (with_reducible first | refine ca_ ?_ _ | refine cn_ ?_ _ | refine cd_ ?_))); (case side6 => exact HC0_1.out); (case side7 => (with_reducible repeat first | apply kn_ | apply kd_ | apply ka_); exact BK104.out); rintro e w30 ⟨rfl, hb⟩; have n0_ := ak (blk_below (by (with_reducible repeat first | apply kn_ | apply kd_ | apply ka_); exact BK104.out) hb); have n1_ := ak (below_step (by repeat (first | (with_reducible first | exact HB.out | apply ba_ | apply bn_ | apply b1_ | refine bs_ ?_ GE104.out) | exact HB.out)) hb); clear BK104 HB; have BK104 := n0_; have HB := n1_; clear n0_ n1_; (try clear hb); (try clear hb2); (try clear hk); (try clear hi); (try clear A25)) | (go_step3))
      (try rw [Exit.noGoto_ret]); go_ret
      exact ⟨by first | rfl | (simp [errW_none, errW_some] <;> rfl) | (simp [*, errW_none, errW_some] <;> rfl) | (simp [Int.tdiv_eq_ediv_of_nonneg]; done), by repeat (first | (with_reducible first | exact HB.out | apply ba_ | apply bn_ | apply b1_ | refine bs_ ?_ GE104.out) | exact HB.out)⟩
     subst c7
     have H1 : (if 0 ≤ x4_1 then (if x4_1 < (l0_0.length : Int) then ((mark_cell.f ((rd_T56 l0_0 x4_1).f0) ((rd_T56 l0_0 x4_1).f1)).bind fun t107 => (mark_CheckView.l1 kj3 t107 x4_1 ((rd_T56 l0_0 x4_1).f1) (((rd_T56 l0_0 x4_1).f1).length : Int) 0 l0_0 l0_1)) else (none)) else (none)) = some r := by rw [if_pos rfl] at H; exact H
     clear H
     have H := H1
     clear H1
     by_cases c8 : 0 ≤ x4_1; rotate_left
     ·rw [if_neg c8] at H
      exact absurd H (by simp)
     rw [if_pos c8] at H
     have c8b0 : decide (0 ≤ x4_1) = true := decide_eq_true c8
     clear c8
     by_cases c9 : x4_1 < (l0_0.length : Int); rotate_left
     ·rw [if_neg c9] at H
      exact absurd H (by simp)
     rw [if_pos c9] at H
     have c9b0 : decide (x4_1 < (l0_0.length : Int)) = true := decide_eq_true c9
     clear c9
     replace H := Option.bind_eq_some_iff.mp H
     obtain ⟨t107, A100, H⟩ := H
     replace H : (mark_CheckView.l1 kj3 t107 x4_1 ((rd_T56 l0_0 x4_1).f1) (((rd_T56 l0_0 x4_1).f1).length : Int) 0 l0_0 l0_1) = some r := H
     have A10 := ak A100
     clear A100
     have H' := ak H
     clear H
     obtain ⟨z11_0, z11_1, f11_0, f11_1⟩ := kk2 BK104.out
     have p106 : 0 ≤ (x4_1 : Int) := of_decide_eq_true (by first | (with_reducible assumption) | assumption)
     have q106 : x4_1 < (l0_0.length : Int) := of_decide_eq_true (by first | (with_reducible assumption) | assumption)
     obtain ⟨ad106, A106_1, c106_1, e106, hx106_0, hx106_1, hl106_1, hi106_1⟩ := at_T56 HR0_0.out x4_1 p106 q106
     cases e106
     replace hx106_0 := (HB.out.cell (World.block_lt_of_cell? w _ hx106_0)).trans hx106_0
     replace hx106_1 := (HB.out.cell (World.block_lt_of_cell? w _ hx106_1)).trans hx106_1
     have HR106_1 := ak hi106_1
     have HC106_1 := ak hl106_1
     clear hi106_1 hl106_1
     replace p106 := eq_true p106
     replace q106 := eq_true q106
     go_wp2_with (first | ((with_reducible refine gate_callee (f := 38) rfl ?_); refine goesL_ (some 26) rfl rfl Try.func38 (by kernel_rfl) rfl #[.agg #[.int .i64 ((rd_T56 l0_0 x4_1).f0), .slice A106_1 ((rd_T56 l0_0 x4_1).f1).length c106_1]] rfl (by (try simp only [List.map_toArray, List.map_cons, List.map_nil]); first | done | rfl | (simp only [List.length_drop, List.length_take]; rfl)) ?_; (with_reducible refine (mark_cell.calls ((rd_T56 l0_0 x4_1).f0) _ _ ((rd_T56 l0_0 x4_1).f1) t107 _ ?side1 ?side2 A10.out).mono ?_); (case side1 => repeat (first | exact (Kd.C_below HR106_1.out HB.out) | (with_reducible first | refine ca_ ?_ _ | refine cn_ ?_ _ | refine cd_ ?_))); (case side2 => exact HC106_1.out); rintro e w12 ⟨rfl, hb⟩; refine ⟨_, rfl, ?_⟩; have n0_ := ak (blk_below (by (with_reducible repeat first | apply kn_ | apply kd_ | apply ka_); exact BK104.out) hb); have n1_ := ak (below_step (by repeat (first | (with_reducible first | exact HB.out | apply ba_ | apply bn_ | apply b1_ | refine bs_ ?_ GE104.out) | exact HB.out)) hb); clear BK104 HB; have BK104 := n0_; have HB := n1_; clear n0_ n1_; (try clear hb); (try clear hb2); (try clear hk); (try clear hi); (try clear A10); obtain ⟨z13_0, z13_1, f13_0, f13_1⟩ := kk2 BK104.out; have p108 : 0 ≤ (x4_1 : Int) := of_decide_eq_true (by first | (with_reducible assumption) | assumption); have q108 : x4_1 < (l0_0.length : Int) := of_decide_eq_true (by first | (with_reducible assumption) | assumption); obtain ⟨ad108, A108_1, c108_1, e108, hx108_0, hx108_1, hl108_1, hi108_1⟩ := at_T56 HR0_0.out x4_1 p108 q108; obtain rfl : ad106 = ad108 := (by injection e108); replace hx108_0 := (HB.out.cell (World.block_lt_of_cell? w _ hx108_0)).trans hx108_0; replace hx108_1 := (HB.out.cell (World.block_lt_of_cell? w _ hx108_1)).trans hx108_1; have HR108_1 := ak hi108_1; have HC108_1 := ak hl108_1; clear hi108_1 hl108_1; replace p108 := eq_true p108; replace q108 := eq_true q108) | (go_step3))
     go_loopg [3, 34] kj3 (fun kq v3 v34 w' => ∃ (x3_3 : Bool) (x34_3 : Int), v3 = .bool x3_3 ∧ v34 = .int .i64 x34_3 ∧ Aside0 (mark_CheckView.l1 kq x3_3 x4_1 ((rd_T56 l0_0 x4_1).f1) (((rd_T56 l0_0 x4_1).f1).length : Int) x34_3 l0_0 l0_1 = some r) ∧ Aside0 (kq ≤ kj3) ∧ Aside0 (w'.heap[gb104]? = some (.cells #[(.slice (some ad106) l0_0.length c0_0), (.slice A0_1 l0_1.length c0_1)] 25 (0, 0))) ∧ Aside0 (Below w.heap.size w w'))
     case atStart => exact ⟨(t107), (0), (by first | rfl | (simp; done) | (simp [*]; done) | (simp [Int.tdiv_eq_ediv_of_nonneg]; done)), (by first | rfl | (simp; done) | (simp [*]; done) | (simp [Int.tdiv_eq_ediv_of_nonneg]; done)), H', ⟨Nat.le_refl _⟩, ⟨by (with_reducible repeat first | apply kn_ | apply kd_ | apply ka_); exact BK104.out⟩, ⟨by repeat (first | (with_reducible first | exact HB.out | apply ba_ | apply bn_ | apply b1_ | refine bs_ ?_ GE104.out) | exact HB.out)⟩⟩
     case round =>
      clear H'
      (try clear c1); (try clear p1); (try clear q1); (try clear hx1); (try clear p2); (try clear c3); (try clear p3); (try clear c5); (try clear c7); (try clear c8); (try clear c8b0); (try clear c9); (try clear c9b0); (try clear c10); (try clear p10); (try clear q10); (try clear hx10); (try clear z11_0 z11_1); (try clear z13_0 z13_1); (try clear z3_0 z3_1); (try clear z6_0 z6_1); (try clear f11_0 f11_1); (try clear f13_0 f13_1); (try clear f3_0 f3_1); (try clear f6_0 f6_1); (try clear hx106_0); (try clear hx106_1); (try clear hx108_0); (try clear hx108_1); (try clear p106); (try clear p108); (try clear p2); (try clear p3); (try clear q106); (try clear q108)
      obtain ⟨x3_3, x34_3, rfl, rfl, HA, HK3, BK104, HB⟩ := hrel
      cases gk with
      | zero => exact absurd HA.out (by simp [mark_CheckView.l1])
      | succ k3 =>
       have H := HA.out
       clear HA
       simp only [mark_CheckView.l1] at H
       by_cases c14 : x34_3 < (((rd_T56 l0_0 x4_1).f1).length : Int); rotate_left
       ·rw [if_neg c14] at H
        have c14b0 : decide (x34_3 < (((rd_T56 l0_0 x4_1).f1).length : Int)) = false := decide_eq_false c14
        clear c14
        have H' := ak H
        clear H
        go_wp2_with (first | (go_step3))
        go_roundg k3
        case measure => have := HK1.out; have := HJ3.out; have := HK3.out; omega
        case rel => exact ⟨(x3_3), (wrap64 (x4_1 + 1)), (by first | rfl | (simp; done) | (simp [*]; done) | (simp [Int.tdiv_eq_ediv_of_nonneg]; done)), (by first | rfl | (simp; done) | (simp [*]; done) | (simp [Int.tdiv_eq_ediv_of_nonneg]; done)), H', ⟨by have := HK1.out; have := HJ3.out; have := HK3.out; omega⟩, ⟨by (with_reducible repeat first | apply kn_ | apply kd_ | apply ka_); exact BK104.out⟩, ⟨by repeat (first | (with_reducible first | exact HB.out | apply ba_ | apply bn_ | apply b1_ | refine bs_ ?_ GE104.out) | exact HB.out)⟩⟩
       rw [if_pos c14] at H
       have c14b0 : decide (x34_3 < (((rd_T56 l0_0 x4_1).f1).length : Int)) = true := decide_eq_true c14
       clear c14
       by_cases c15 : 0 ≤ x34_3; rotate_left
       ·rw [if_neg c15] at H
        exact absurd H (by simp)
       rw [if_pos c15] at H
       have c15b0 : decide (0 ≤ x34_3) = true := decide_eq_true c15
       clear c15
       by_cases c16 : x34_3 < (((rd_T56 l0_0 x4_1).f1).length : Int); rotate_left
       ·rw [if_neg c16] at H
        exact absurd H (by simp)
       rw [if_pos c16] at H
       have c16b0 : decide (x34_3 < (((rd_T56 l0_0 x4_1).f1).length : Int)) = true := decide_eq_true c16
       clear c16
       by_cases c17 : (rd ((rd_T56 l0_0 x4_1).f1) x34_3) = (-1)
       ·rw [if_pos c17] at H
        have c17b0 : ((rd ((rd_T56 l0_0 x4_1).f1) x34_3) == (-1)) = true := beq_iff_eq.mpr c17
        have c17b1 : ((rd ((rd_T56 l0_0 x4_1).f1) x34_3) != (-1)) = false := bne_eq_false_iff_eq.mpr c17
        clear c17
        have H' := ak H
        clear H
        have p109 : 0 ≤ (x34_3 : Int) := of_decide_eq_true (by first | (with_reducible assumption) | assumption)
        have q109 : x34_3 < (((rd_T56 l0_0 x4_1).f1).length : Int) := of_decide_eq_true (by first | (with_reducible assumption) | assumption)
        obtain ⟨ad109, e109, hx109_0⟩ := Kd.at_int HR108_1.out x34_3 p109 q109
        cases e109
        replace hx109_0 := (HB.out.cell (World.block_lt_of_cell? w _ hx109_0)).trans hx109_0
        replace p109 := eq_true p109
        replace q109 := eq_true q109
        go_wp2_with (first | (go_step3))
        go_roundg k3
        case measure => have := HK1.out; have := HJ3.out; have := HK3.out; omega
        case rel => exact ⟨(x3_3), (wrap64 (x34_3 + 1)), (by first | rfl | (simp; done) | (simp [*]; done) | (simp [Int.tdiv_eq_ediv_of_nonneg]; done)), (by first | rfl | (simp; done) | (simp [*]; done) | (simp [Int.tdiv_eq_ediv_of_nonneg]; done)), H', ⟨by have := HK1.out; have := HJ3.out; have := HK3.out; omega⟩, ⟨by (with_reducible repeat first | apply kn_ | apply kd_ | apply ka_); exact BK104.out⟩, ⟨by repeat (first | (with_reducible first | exact HB.out | apply ba_ | apply bn_ | apply b1_ | refine bs_ ?_ GE104.out) | exact HB.out)⟩⟩
       rw [if_neg c17] at H
       have c17b0 : ((rd ((rd_T56 l0_0 x4_1).f1) x34_3) == (-1)) = false := beq_eq_false_iff_ne.mpr c17
       have c17b1 : ((rd ((rd_T56 l0_0 x4_1).f1) x34_3) != (-1)) = true := bne_iff_ne.mpr c17
       replace H := Option.bind_eq_some_iff.mp H
       obtain ⟨t110, A180, H⟩ := H
       replace H : (if t110 = true then (mark_CheckView.l1 k3 x3_3 x4_1 ((rd_T56 l0_0 x4_1).f1) (((rd_T56 l0_0 x4_1).f1).length : Int) (wrap64 (x34_3 + 1)) l0_0 l0_1) else (some 190)) = some r := H
       have A18 := ak A180
       clear A180
       by_cases c19 : t110 = true; rotate_left
       ·replace c19 := Bool.eq_false_iff.mpr c19
        subst c19
        have H1 : (some 190) = some r := by rw [if_neg (show ¬ (false = true) by decide)] at H; exact H
        clear H
        have H := H1
        clear H1
        obtain rfl := Option.some.inj H
        have p109 : 0 ≤ (x34_3 : Int) := of_decide_eq_true (by first | (with_reducible assumption) | assumption)
        have q109 : x34_3 < (((rd_T56 l0_0 x4_1).f1).length : Int) := of_decide_eq_true (by first | (with_reducible assumption) | assumption)
        obtain ⟨ad109, e109, hx109_0⟩ := Kd.at_int HR108_1.out x34_3 p109 q109
        cases e109
        replace hx109_0 := (HB.out.cell (World.block_lt_of_cell? w _ hx109_0)).trans hx109_0
        replace p109 := eq_true p109
        replace q109 := eq_true q109
        obtain ⟨z22_0, z22_1, f22_0, f22_1⟩ := kk2 BK104.out
        go_wp2_with (first | (go_at_call 39; (with_reducible refine (mark_there.calls _ _ l0_0 _ _ l0_1 (rd ((rd_T56 l0_0 x4_1).f1) x34_3) false _ ?side1 ?side2 ?side3 ?side4 A18.out).mono ?_); (case side1 => repeat (first | exact (Kd.C_below HR0_0.out HB.out) | (with_reducible first | refine ca_ ?_ _ | refine cn_ ?_ _ | refine cd_ ?_))); (case side2 => exact HC0_0.out); (case side3 => repeat (first | exact (Kd.C_below HR0_1.out HB.out) | (with_reducible first | refine ca_ ?_ _ | refine cn_ ?_ _ | refine cd_ ?_))); (case side4 => exact HC0_1.out); rintro e w23 ⟨rfl, hb⟩; have n0_ := ak (blk_below (by (with_reducible repeat first | apply kn_ | apply kd_ | apply ka_); exact BK104.out) hb); have n1_ := ak (below_step (by repeat (first | (with_reducible first | exact HB.out | apply ba_ | apply bn_ | apply b1_ | refine bs_ ?_ GE104.out) | exact HB.out)) hb); clear BK104 HB; have BK104 := n0_; have HB := n1_; clear n0_ n1_; (try clear hb); (try clear hb2); (try clear hk); (try clear hi); (try clear A18)) | (go_step3))
        (try rw [Exit.noGoto_ret]); go_ret
        exact ⟨by first | rfl | (simp [errW_none, errW_some] <;> rfl) | (simp [*, errW_none, errW_some] <;> rfl) | (simp [Int.tdiv_eq_ediv_of_nonneg]; done), by repeat (first | (with_reducible first | exact HB.out | apply ba_ | apply bn_ | apply b1_ | refine bs_ ?_ GE104.out) | exact HB.out)⟩
       subst c19
       have H1 : (mark_CheckView.l1 k3 x3_3 x4_1 ((rd_T56 l0_0 x4_1).f1) (((rd_T56 l0_0 x4_1).f1).length : Int) (wrap64 (x34_3 + 1)) l0_0 l0_1) = some r := by rw [if_pos rfl] at H; exact H
       clear H
       have H := H1
       clear H1
       have H' := ak H
       clear H
       have p109 : 0 ≤ (x34_3 : Int) := of_decide_eq_true (by first | (with_reducible assumption) | assumption)
       have q109 : x34_3 < (((rd_T56 l0_0 x4_1).f1).length : Int) := of_decide_eq_true (by first | (with_reducible assumption) | assumption)
       obtain ⟨ad109, e109, hx109_0⟩ := Kd.at_int HR108_1.out x34_3 p109 q109
       cases e109
       replace hx109_0 := (HB.out.cell (World.block_lt_of_cell? w _ hx109_0)).trans hx109_0
       replace p109 := eq_true p109
       replace q109 := eq_true q109
       obtain ⟨z20_0, z20_1, f20_0, f20_1⟩ := kk2 BK104.out
       go_wp2_with (first | (go_at_call 39; (with_reducible refine (mark_there.calls _ _ l0_0 _ _ l0_1 (rd ((rd_T56 l0_0 x4_1).f1) x34_3) true _ ?side1 ?side2 ?side3 ?side4 A18.out).mono ?_); (case side1 => repeat (first | exact (Kd.C_below HR0_0.out HB.out) | (with_reducible first | refine ca_ ?_ _ | refine cn_ ?_ _ | refine cd_ ?_))); (case side2 => exact HC0_0.out); (case side3 => repeat (first | exact (Kd.C_below HR0_1.out HB.out) | (with_reducible first | refine ca_ ?_ _ | refine cn_ ?_ _ | refine cd_ ?_))); (case side4 => exact HC0_1.out); rintro e w21 ⟨rfl, hb⟩; have n0_ := ak (blk_below (by (with_reducible repeat first | apply kn_ | apply kd_ | apply ka_); exact BK104.out) hb); have n1_ := ak (below_step (by repeat (first | (with_reducible first | exact HB.out | apply ba_ | apply bn_ | apply b1_ | refine bs_ ?_ GE104.out) | exact HB.out)) hb); clear BK104 HB; have BK104 := n0_; have HB := n1_; clear n0_ n1_; (try clear hb); (try clear hb2); (try clear hk); (try clear hi); (try clear A18)) | (go_step3))
       go_roundg k3
       case measure => have := HK1.out; have := HJ3.out; have := HK3.out; omega
       case rel => exact ⟨(x3_3), (wrap64 (x34_3 + 1)), (by first | rfl | (simp; done) | (simp [*]; done) | (simp [Int.tdiv_eq_ediv_of_nonneg]; done)), (by first | rfl | (simp; done) | (simp [*]; done) | (simp [Int.tdiv_eq_ediv_of_nonneg]; done)), H', ⟨by have := HK1.out; have := HJ3.out; have := HK3.out; omega⟩, ⟨by (with_reducible repeat first | apply kn_ | apply kd_ | apply ka_); exact BK104.out⟩, ⟨by repeat (first | (with_reducible first | exact HB.out | apply ba_ | apply bn_ | apply b1_ | refine bs_ ?_ GE104.out) | exact HB.out)⟩⟩
/-! ### mark_New: function 14 -/
def mark_New.f (k : Nat) (l0_0 : List (S56)) (l0_1 : List Int) (a1 : Int) : Option (Int × Int × List Bool × List Int × Bool × Bool × Bool × Int) := (mark_CheckView.f k l0_0 l0_1).bind fun t113 => (if t113 = 0 then (if a1 < 1 then (some (0, 0, ([] : List Bool), ([] : List Int), false, false, false, 1)) else (if a1 > 256 then (some (0, 0, ([] : List Bool), ([] : List Int), false, false, false, 1)) else (if 0 ≤ (l0_0.length : Int) then (if ((l0_0.length : Int) : Int).toNat ≤ 281474976710656 then (some (0, 0, (List.replicate ((l0_0.length : Int) : Int).toNat false), ([] : List Int), false, false, false, 0)) else (none)) else (none)))) else (some (0, 0, ([] : List Bool), ([] : List Int), false, false, false, t113)))
theorem mark_New.mono : ∀ a0 a1 a2 k, LeO (mark_New.f k a0 a1 a2) (mark_New.f (k + 1) a0 a1 a2) := by
 intro a0 a1 a2 k
 unfold mark_New.f
 repeat' first | (with_reducible first | exact mark_CheckView.mono _ _ _ | exact LeO.refl _ | exact LeO.none _ | refine LeO.ite ?_ ?_ | refine LeO.bind ?_ (fun _ => ?_)) | exact mark_CheckView.mono _ _ _ | exact LeO.none _ | refine LeO.ite ?_ ?_ | refine LeO.bind ?_ (fun _ => ?_)
set_option maxHeartbeats 8000000 in
set_option maxRecDepth 100000 in
theorem mark_New.calls (k : Nat) (A0_0 : Option Addr) (c0_0 : Nat) (l0_0 : List (S56)) (A0_1 : Option Addr) (c0_1 : Nat) (l0_1 : List Int) (a1 : Int) (r1 : Int) (r2 : Int) (r3 : List Bool) (r4 : List Int) (r5 : Bool) (r6 : Bool) (r7 : Bool) (r8 : Int) (w : World) (hr0_0 : Kd.C k56 w A0_0 l0_0.length l0_0) (hc0_0 : l0_0.length ≤ c0_0) (hr0_1 : Kd.C (Kd.int .i64) w A0_1 l0_1.length l0_1) (hc0_1 : l0_1.length ≤ c0_1) (h : mark_New.f k l0_0 l0_1 a1 = some (r1, r2, r3, r4, r5, r6, r7, r8)) :
  Calls Try.prog 14 #[.agg #[.slice A0_0 l0_0.length c0_0, .slice A0_1 l0_1.length c0_1], .int .i64 a1] w fun e w' => ∃ v2_ v3_ : Value, e = .returned (.tuple #[.agg #[.int .i64 r1, .int .i64 r2, v2_, v3_, .bool r5, .bool r6, .bool r7], .int .i64 r8]) ∧ Kd.R Kd.bool 4 w' w.heap.size (fun _ => True) v2_ r3 ∧ Kd.R (Kd.int .i64) 3 w' w.heap.size (fun _ => True) v3_ r4 ∧ Below w.heap.size w w' := by
 have hu25 := Try.underlying25
 have hu28 := Try.underlying28
 have HR0_0 := ak hr0_0
 have HC0_0 := ak hc0_0
 clear hr0_0 hc0_0
 have HR0_1 := ak hr0_1
 have HC0_1 := ak hc0_1
 clear hr0_1 hc0_1
 have HB := ak (Below.refl w.heap.size w)
 have H : ((mark_CheckView.f k l0_0 l0_1).bind fun t113 => (if t113 = 0 then (if a1 < 1 then (some (0, 0, ([] : List Bool), ([] : List Int), false, false, false, 1)) else (if a1 > 256 then (some (0, 0, ([] : List Bool), ([] : List Int), false, false, false, 1)) else (if 0 ≤ (l0_0.length : Int) then (if ((l0_0.length : Int) : Int).toNat ≤ 281474976710656 then (some (0, 0, (List.replicate ((l0_0.length : Int) : Int).toNat false), ([] : List Int), false, false, false, 0)) else (none)) else (none)))) else (some (0, 0, ([] : List Bool), ([] : List Int), false, false, false, t113)))) = some (r1, r2, r3, r4, r5, r6, r7, r8) := h
 clear h
 replace H := Option.bind_eq_some_iff.mp H
 obtain ⟨t113, A30, H⟩ := H
 replace H : (if t113 = 0 then (if a1 < 1 then (some (0, 0, ([] : List Bool), ([] : List Int), false, false, false, 1)) else (if a1 > 256 then (some (0, 0, ([] : List Bool), ([] : List Int), false, false, false, 1)) else (if 0 ≤ (l0_0.length : Int) then (if ((l0_0.length : Int) : Int).toNat ≤ 281474976710656 then (some (0, 0, (List.replicate ((l0_0.length : Int) : Int).toNat false), ([] : List Int), false, false, false, 0)) else (none)) else (none)))) else (some (0, 0, ([] : List Bool), ([] : List Int), false, false, false, t113))) = some (r1, r2, r3, r4, r5, r6, r7, r8) := H
 have A3 := ak A30
 clear A30
 by_cases c4 : t113 = 0; rotate_left
 ·rw [if_neg c4] at H
  have c4b0 : (t113 == 0) = false := beq_eq_false_iff_ne.mpr c4
  have c4b1 : (t113 != 0) = true := bne_iff_ne.mpr c4
  simp only [Option.some.injEq, Prod.mk.injEq] at H
  obtain ⟨rfl, rfl, rfl, rfl, rfl, rfl, rfl, rfl⟩ := H
  go_enter Try.func14, Try.ntmps14
  go_wp2_with (first | ((with_reducible refine gate_dst (N := 2) rfl ?_); refine box_event ?hg (N := 2) ?hd (cs := #[.slice A0_0 l0_0.length c0_0, .slice A0_1 l0_1.length c0_1]) (t := 25) ?hr ?_; (case hd => rfl); (case hg => rfl); (case hr => first | (go_simp; done) | (go_simp; rfl)); intro gb111 hg w31 hbox hb; have n0_ := ak (below_step (by repeat (first | (with_reducible first | exact HB.out | apply ba_ | apply bn_ | apply b1_) | exact HB.out)) hb); have n1_ := ak (hbox); have n2_ := ak ((by rw [hg]; exact (below_size (by repeat (first | (with_reducible first | exact HB.out | apply ba_ | apply bn_ | apply b1_) | exact HB.out))) : w.heap.size ≤ gb111)); have n3_ := n2_; clear HB; have HB := n0_; have BK111 := n1_; have GW111 := n2_; have GE111 := n3_; clear n0_ n1_ n2_ n3_ hb hbox hg) | ((with_reducible refine gate_dst (N := 4) rfl ?_); refine box_event ?hg (N := 4) ?hd (cs := #[.int .i64 0, .int .i64 0, .slice none 0 0, .slice none 0 0, .bool false, .bool false, .bool false]) (t := 28) ?hr ?_; (case hd => rfl); (case hg => rfl); (case hr => first | (go_simp; done) | (go_simp; rfl)); intro gb112 hg w32 hbox hb; have n0_ := ak (blk_below (by (with_reducible repeat first | apply kn_ | apply kd_ | apply ka_); exact BK111.out) hb); have n1_ := ak (below_step (by repeat (first | (with_reducible first | exact HB.out | apply ba_ | apply bn_ | apply b1_ | refine bs_ ?_ GE111.out) | exact HB.out)) hb); have n2_ := ak (hbox); have n3_ := ak ((by rw [hg]; exact (below_size (by repeat (first | (with_reducible first | exact HB.out | apply ba_ | apply bn_ | apply b1_ | refine bs_ ?_ GE111.out) | exact HB.out))) : w.heap.size ≤ gb112)); have n4_ := n3_; have n5_ := ak ((by rw [hg]; exact Nat.ne_of_lt (blk_lt (g := gb111) (o := .cells #[.slice A0_0 l0_0.length c0_0, .slice A0_1 l0_1.length c0_1] 25 (0, 0)) (by (with_reducible repeat first | apply kn_ | apply kd_ | apply ka_); exact BK111.out)) : gb111 ≠ gb112)); have n6_ := ak ((by rw [hg]; exact Nat.ne_of_gt (blk_lt (g := gb111) (o := .cells #[.slice A0_0 l0_0.length c0_0, .slice A0_1 l0_1.length c0_1] 25 (0, 0)) (by (with_reducible repeat first | apply kn_ | apply kd_ | apply ka_); exact BK111.out)) : gb112 ≠ gb111)); clear BK111 HB; have BK111 := n0_; have HB := n1_; have BK112 := n2_; have GW112 := n3_; have GE112 := n4_; have NB111_112 := n5_; have NB112_111 := n6_; clear n0_ n1_ n2_ n3_ n4_ n5_ n6_ hb hbox hg; have hnb33 := NB111_112.out; have hnc33 := NB112_111.out; obtain ⟨z34_0, z34_1, f34_0, f34_1⟩ := kk2 BK111.out) | ((with_reducible refine gate_callee (f := 16) rfl ?_); refine goesL_ (some 8) rfl rfl Try.func16 (by kernel_rfl) rfl #[.agg #[.slice A0_0 l0_0.length c0_0, .slice A0_1 l0_1.length c0_1]] rfl (by (try simp only [List.map_toArray, List.map_cons, List.map_nil]); first | done | rfl | (simp only [List.length_drop, List.length_take]; rfl)) ?_; (with_reducible refine (mark_CheckView.calls k _ _ l0_0 _ _ l0_1 t113 _ ?side1 ?side2 ?side3 ?side4 A3.out).mono ?_); (case side1 => repeat (first | exact (Kd.C_below HR0_0.out HB.out) | (with_reducible first | refine ca_ ?_ _ | refine cn_ ?_ _ | refine cd_ ?_))); (case side2 => exact HC0_0.out); (case side3 => repeat (first | exact (Kd.C_below HR0_1.out HB.out) | (with_reducible first | refine ca_ ?_ _ | refine cn_ ?_ _ | refine cd_ ?_))); (case side4 => exact HC0_1.out); rintro e w35 ⟨rfl, hb⟩; refine ⟨_, rfl, ?_⟩; have n0_ := ak (blk_below (by (with_reducible repeat first | apply kn_ | apply kd_ | apply ka_); exact BK111.out) hb); have n1_ := ak (blk_below (by (with_reducible repeat first | apply kn_ | apply kd_ | apply ka_); exact BK112.out) hb); have n2_ := ak (below_step (by repeat (first | (with_reducible first | exact HB.out | apply ba_ | apply bn_ | apply b1_ | refine bs_ ?_ GE111.out | refine bs_ ?_ GE112.out) | exact HB.out)) hb); clear BK111 BK112 HB; have BK111 := n0_; have BK112 := n1_; have HB := n2_; clear n0_ n1_ n2_; (try clear hb); (try clear hb2); (try clear hk); (try clear hi); (try clear A3); obtain ⟨z36_0, z36_1, z36_2, z36_3, z36_4, z36_5, z36_6, f36_0, f36_1, f36_2, f36_3, f36_4, f36_5, f36_6⟩ := kk7 BK112.out))
  refine bodyPost_ret (results_ct rfl _ _ gb112 28 #[.int .i64 0, .int .i64 0, .slice none 0 0, .slice none 0 0, .bool false, .bool false, .bool false] (0, 0) _ rfl (by (with_reducible repeat first | apply kn_ | apply kd_ | apply ka_); refine blk_put (cs := #[.int .i64 0, .int .i64 0, .slice none 0 0, .slice none 0 0, .bool false, .bool false, .bool false]) ?_ 6 _ rfl; (with_reducible repeat first | apply kn_ | apply kd_ | apply ka_); refine blk_put (cs := #[.int .i64 0, .int .i64 0, .slice none 0 0, .slice none 0 0, .bool false, .bool false, .bool false]) ?_ 5 _ rfl; (with_reducible repeat first | apply kn_ | apply kd_ | apply ka_); refine blk_put (cs := #[.int .i64 0, .int .i64 0, .slice none 0 0, .slice none 0 0, .bool false, .bool false, .bool false]) ?_ 4 _ rfl; (with_reducible repeat first | apply kn_ | apply kd_ | apply ka_); refine blk_put (cs := #[.int .i64 0, .int .i64 0, .slice none 0 0, .slice none 0 0, .bool false, .bool false, .bool false]) ?_ 3 _ rfl; (with_reducible repeat first | apply kn_ | apply kd_ | apply ka_); refine blk_put (cs := #[.int .i64 0, .int .i64 0, .slice none 0 0, .slice none 0 0, .bool false, .bool false, .bool false]) ?_ 2 _ rfl; (with_reducible repeat first | apply kn_ | apply kd_ | apply ka_); refine blk_put (cs := #[.int .i64 0, .int .i64 0, .slice none 0 0, .slice none 0 0, .bool false, .bool false, .bool false]) ?_ 1 _ rfl; (with_reducible repeat first | apply kn_ | apply kd_ | apply ka_); refine blk_put (cs := #[.int .i64 0, .int .i64 0, .slice none 0 0, .slice none 0 0, .bool false, .bool false, .bool false]) ?_ 0 _ rfl; (with_reducible repeat first | apply kn_ | apply kd_ | apply ka_); exact BK112.out) Try.underlying28 rfl (by kernel_rfl)) rfl ?_
  exact ⟨_, _, by first | rfl | (simp [errW_none, errW_some] <;> rfl) | (simp [*, errW_none, errW_some] <;> rfl) | (simp [Int.tdiv_eq_ediv_of_nonneg]; done), by first | exact Kd.R_nil _ _ _ _ _ | exact Kd.N_nil _ _ _ _ _ | exact Kd.V_nil _ _ _ _ _ | exact Kd.Q_nil _ _ _ _ _ | exact Kd.S_nil _ _ _ _ _, by first | exact Kd.R_nil _ _ _ _ _ | exact Kd.N_nil _ _ _ _ _ | exact Kd.V_nil _ _ _ _ _ | exact Kd.Q_nil _ _ _ _ _ | exact Kd.S_nil _ _ _ _ _, by repeat (first | (with_reducible first | exact HB.out | apply ba_ | apply bn_ | apply b1_ | refine bs_ ?_ GE111.out | refine bs_ ?_ GE112.out) | exact HB.out)⟩
 rw [if_pos c4] at H
 have c4b0 : (t113 == 0) = true := beq_iff_eq.mpr c4
 have c4b1 : (t113 != 0) = false := bne_eq_false_iff_eq.mpr c4
 clear c4
 by_cases c5 : a1 < 1
 ·rw [if_pos c5] at H
  have c5b0 : decide (a1 < 1) = true := decide_eq_true c5
  clear c5
  simp only [Option.some.injEq, Prod.mk.injEq] at H
  obtain ⟨rfl, rfl, rfl, rfl, rfl, rfl, rfl, rfl⟩ := H
  go_enter Try.func14, Try.ntmps14
  go_wp2_with (first | ((with_reducible refine gate_dst (N := 2) rfl ?_); refine box_event ?hg (N := 2) ?hd (cs := #[.slice A0_0 l0_0.length c0_0, .slice A0_1 l0_1.length c0_1]) (t := 25) ?hr ?_; (case hd => rfl); (case hg => rfl); (case hr => first | (go_simp; done) | (go_simp; rfl)); intro gb111 hg w6 hbox hb; have n0_ := ak (below_step (by repeat (first | (with_reducible first | exact HB.out | apply ba_ | apply bn_ | apply b1_) | exact HB.out)) hb); have n1_ := ak (hbox); have n2_ := ak ((by rw [hg]; exact (below_size (by repeat (first | (with_reducible first | exact HB.out | apply ba_ | apply bn_ | apply b1_) | exact HB.out))) : w.heap.size ≤ gb111)); have n3_ := n2_; clear HB; have HB := n0_; have BK111 := n1_; have GW111 := n2_; have GE111 := n3_; clear n0_ n1_ n2_ n3_ hb hbox hg) | ((with_reducible refine gate_dst (N := 4) rfl ?_); refine box_event ?hg (N := 4) ?hd (cs := #[.int .i64 0, .int .i64 0, .slice none 0 0, .slice none 0 0, .bool false, .bool false, .bool false]) (t := 28) ?hr ?_; (case hd => rfl); (case hg => rfl); (case hr => first | (go_simp; done) | (go_simp; rfl)); intro gb112 hg w7 hbox hb; have n0_ := ak (blk_below (by (with_reducible repeat first | apply kn_ | apply kd_ | apply ka_); exact BK111.out) hb); have n1_ := ak (below_step (by repeat (first | (with_reducible first | exact HB.out | apply ba_ | apply bn_ | apply b1_ | refine bs_ ?_ GE111.out) | exact HB.out)) hb); have n2_ := ak (hbox); have n3_ := ak ((by rw [hg]; exact (below_size (by repeat (first | (with_reducible first | exact HB.out | apply ba_ | apply bn_ | apply b1_ | refine bs_ ?_ GE111.out) | exact HB.out))) : w.heap.size ≤ gb112)); have n4_ := n3_; have n5_ := ak ((by rw [hg]; exact Nat.ne_of_lt (blk_lt (g := gb111) (o := .cells #[.slice A0_0 l0_0.length c0_0, .slice A0_1 l0_1.length c0_1] 25 (0, 0)) (by (with_reducible repeat first | apply kn_ | apply kd_ | apply ka_); exact BK111.out)) : gb111 ≠ gb112)); have n6_ := ak ((by rw [hg]; exact Nat.ne_of_gt (blk_lt (g := gb111) (o := .cells #[.slice A0_0 l0_0.length c0_0, .slice A0_1 l0_1.length c0_1] 25 (0, 0)) (by (with_reducible repeat first | apply kn_ | apply kd_ | apply ka_); exact BK111.out)) : gb112 ≠ gb111)); clear BK111 HB; have BK111 := n0_; have HB := n1_; have BK112 := n2_; have GW112 := n3_; have GE112 := n4_; have NB111_112 := n5_; have NB112_111 := n6_; clear n0_ n1_ n2_ n3_ n4_ n5_ n6_ hb hbox hg; have hnb8 := NB111_112.out; have hnc8 := NB112_111.out; obtain ⟨z9_0, z9_1, f9_0, f9_1⟩ := kk2 BK111.out) | ((with_reducible refine gate_callee (f := 16) rfl ?_); refine goesL_ (some 8) rfl rfl Try.func16 (by kernel_rfl) rfl #[.agg #[.slice A0_0 l0_0.length c0_0, .slice A0_1 l0_1.length c0_1]] rfl (by (try simp only [List.map_toArray, List.map_cons, List.map_nil]); first | done | rfl | (simp only [List.length_drop, List.length_take]; rfl)) ?_; (with_reducible refine (mark_CheckView.calls k _ _ l0_0 _ _ l0_1 t113 _ ?side1 ?side2 ?side3 ?side4 A3.out).mono ?_); (case side1 => repeat (first | exact (Kd.C_below HR0_0.out HB.out) | (with_reducible first | refine ca_ ?_ _ | refine cn_ ?_ _ | refine cd_ ?_))); (case side2 => exact HC0_0.out); (case side3 => repeat (first | exact (Kd.C_below HR0_1.out HB.out) | (with_reducible first | refine ca_ ?_ _ | refine cn_ ?_ _ | refine cd_ ?_))); (case side4 => exact HC0_1.out); rintro e w10 ⟨rfl, hb⟩; refine ⟨_, rfl, ?_⟩; have n0_ := ak (blk_below (by (with_reducible repeat first | apply kn_ | apply kd_ | apply ka_); exact BK111.out) hb); have n1_ := ak (blk_below (by (with_reducible repeat first | apply kn_ | apply kd_ | apply ka_); exact BK112.out) hb); have n2_ := ak (below_step (by repeat (first | (with_reducible first | exact HB.out | apply ba_ | apply bn_ | apply b1_ | refine bs_ ?_ GE111.out | refine bs_ ?_ GE112.out) | exact HB.out)) hb); clear BK111 BK112 HB; have BK111 := n0_; have BK112 := n1_; have HB := n2_; clear n0_ n1_ n2_; (try clear hb); (try clear hb2); (try clear hk); (try clear hi); (try clear A3); obtain ⟨z11_0, z11_1, z11_2, z11_3, z11_4, z11_5, z11_6, f11_0, f11_1, f11_2, f11_3, f11_4, f11_5, f11_6⟩ := kk7 BK112.out))
  refine bodyPost_ret (results_ct rfl _ _ gb112 28 #[.int .i64 0, .int .i64 0, .slice none 0 0, .slice none 0 0, .bool false, .bool false, .bool false] (0, 0) _ rfl (by (with_reducible repeat first | apply kn_ | apply kd_ | apply ka_); refine blk_put (cs := #[.int .i64 0, .int .i64 0, .slice none 0 0, .slice none 0 0, .bool false, .bool false, .bool false]) ?_ 6 _ rfl; (with_reducible repeat first | apply kn_ | apply kd_ | apply ka_); refine blk_put (cs := #[.int .i64 0, .int .i64 0, .slice none 0 0, .slice none 0 0, .bool false, .bool false, .bool false]) ?_ 5 _ rfl; (with_reducible repeat first | apply kn_ | apply kd_ | apply ka_); refine blk_put (cs := #[.int .i64 0, .int .i64 0, .slice none 0 0, .slice none 0 0, .bool false, .bool false, .bool false]) ?_ 4 _ rfl; (with_reducible repeat first | apply kn_ | apply kd_ | apply ka_); refine blk_put (cs := #[.int .i64 0, .int .i64 0, .slice none 0 0, .slice none 0 0, .bool false, .bool false, .bool false]) ?_ 3 _ rfl; (with_reducible repeat first | apply kn_ | apply kd_ | apply ka_); refine blk_put (cs := #[.int .i64 0, .int .i64 0, .slice none 0 0, .slice none 0 0, .bool false, .bool false, .bool false]) ?_ 2 _ rfl; (with_reducible repeat first | apply kn_ | apply kd_ | apply ka_); refine blk_put (cs := #[.int .i64 0, .int .i64 0, .slice none 0 0, .slice none 0 0, .bool false, .bool false, .bool false]) ?_ 1 _ rfl; (with_reducible repeat first | apply kn_ | apply kd_ | apply ka_); refine blk_put (cs := #[.int .i64 0, .int .i64 0, .slice none 0 0, .slice none 0 0, .bool false, .bool false, .bool false]) ?_ 0 _ rfl; (with_reducible repeat first | apply kn_ | apply kd_ | apply ka_); exact BK112.out) Try.underlying28 rfl (by kernel_rfl)) rfl ?_
  exact ⟨_, _, by first | rfl | (simp [errW_none, errW_some] <;> rfl) | (simp [*, errW_none, errW_some] <;> rfl) | (simp [Int.tdiv_eq_ediv_of_nonneg]; done), by first | exact Kd.R_nil _ _ _ _ _ | exact Kd.N_nil _ _ _ _ _ | exact Kd.V_nil _ _ _ _ _ | exact Kd.Q_nil _ _ _ _ _ | exact Kd.S_nil _ _ _ _ _, by first | exact Kd.R_nil _ _ _ _ _ | exact Kd.N_nil _ _ _ _ _ | exact Kd.V_nil _ _ _ _ _ | exact Kd.Q_nil _ _ _ _ _ | exact Kd.S_nil _ _ _ _ _, by repeat (first | (with_reducible first | exact HB.out | apply ba_ | apply bn_ | apply b1_ | refine bs_ ?_ GE111.out | refine bs_ ?_ GE112.out) | exact HB.out)⟩
 rw [if_neg c5] at H
 have c5b0 : decide (a1 < 1) = false := decide_eq_false c5
 clear c5
 by_cases c12 : a1 > 256
 ·rw [if_pos c12] at H
  have c12b0 : decide (256 < a1) = true := decide_eq_true c12
  clear c12
  simp only [Option.some.injEq, Prod.mk.injEq] at H
  obtain ⟨rfl, rfl, rfl, rfl, rfl, rfl, rfl, rfl⟩ := H
  go_enter Try.func14, Try.ntmps14
  go_wp2_with (first | ((with_reducible refine gate_dst (N := 2) rfl ?_); refine box_event ?hg (N := 2) ?hd (cs := #[.slice A0_0 l0_0.length c0_0, .slice A0_1 l0_1.length c0_1]) (t := 25) ?hr ?_; (case hd => rfl); (case hg => rfl); (case hr => first | (go_simp; done) | (go_simp; rfl)); intro gb111 hg w13 hbox hb; have n0_ := ak (below_step (by repeat (first | (with_reducible first | exact HB.out | apply ba_ | apply bn_ | apply b1_) | exact HB.out)) hb); have n1_ := ak (hbox); have n2_ := ak ((by rw [hg]; exact (below_size (by repeat (first | (with_reducible first | exact HB.out | apply ba_ | apply bn_ | apply b1_) | exact HB.out))) : w.heap.size ≤ gb111)); have n3_ := n2_; clear HB; have HB := n0_; have BK111 := n1_; have GW111 := n2_; have GE111 := n3_; clear n0_ n1_ n2_ n3_ hb hbox hg) | ((with_reducible refine gate_dst (N := 4) rfl ?_); refine box_event ?hg (N := 4) ?hd (cs := #[.int .i64 0, .int .i64 0, .slice none 0 0, .slice none 0 0, .bool false, .bool false, .bool false]) (t := 28) ?hr ?_; (case hd => rfl); (case hg => rfl); (case hr => first | (go_simp; done) | (go_simp; rfl)); intro gb112 hg w14 hbox hb; have n0_ := ak (blk_below (by (with_reducible repeat first | apply kn_ | apply kd_ | apply ka_); exact BK111.out) hb); have n1_ := ak (below_step (by repeat (first | (with_reducible first | exact HB.out | apply ba_ | apply bn_ | apply b1_ | refine bs_ ?_ GE111.out) | exact HB.out)) hb); have n2_ := ak (hbox); have n3_ := ak ((by rw [hg]; exact (below_size (by repeat (first | (with_reducible first | exact HB.out | apply ba_ | apply bn_ | apply b1_ | refine bs_ ?_ GE111.out) | exact HB.out))) : w.heap.size ≤ gb112)); have n4_ := n3_; have n5_ := ak ((by rw [hg]; exact Nat.ne_of_lt (blk_lt (g := gb111) (o := .cells #[.slice A0_0 l0_0.length c0_0, .slice A0_1 l0_1.length c0_1] 25 (0, 0)) (by (with_reducible repeat first | apply kn_ | apply kd_ | apply ka_); exact BK111.out)) : gb111 ≠ gb112)); have n6_ := ak ((by rw [hg]; exact Nat.ne_of_gt (blk_lt (g := gb111) (o := .cells #[.slice A0_0 l0_0.length c0_0, .slice A0_1 l0_1.length c0_1] 25 (0, 0)) (by (with_reducible repeat first | apply kn_ | apply kd_ | apply ka_); exact BK111.out)) : gb112 ≠ gb111)); clear BK111 HB; have BK111 := n0_; have HB := n1_; have BK112 := n2_; have GW112 := n3_; have GE112 := n4_; have NB111_112 := n5_; have NB112_111 := n6_; clear n0_ n1_ n2_ n3_ n4_ n5_ n6_ hb hbox hg; have hnb15 := NB111_112.out; have hnc15 := NB112_111.out; obtain ⟨z16_0, z16_1, f16_0, f16_1⟩ := kk2 BK111.out) | ((with_reducible refine gate_callee (f := 16) rfl ?_); refine goesL_ (some 8) rfl rfl Try.func16 (by kernel_rfl) rfl #[.agg #[.slice A0_0 l0_0.length c0_0, .slice A0_1 l0_1.length c0_1]] rfl (by (try simp only [List.map_toArray, List.map_cons, List.map_nil]); first | done | rfl | (simp only [List.length_drop, List.length_take]; rfl)) ?_; (with_reducible refine (mark_CheckView.calls k _ _ l0_0 _ _ l0_1 t113 _ ?side1 ?side2 ?side3 ?side4 A3.out).mono ?_); (case side1 => repeat (first | exact (Kd.C_below HR0_0.out HB.out) | (with_reducible first | refine ca_ ?_ _ | refine cn_ ?_ _ | refine cd_ ?_))); (case side2 => exact HC0_0.out); (case side3 => repeat (first | exact (Kd.C_below HR0_1.out HB.out) | (with_reducible first | refine ca_ ?_ _ | refine cn_ ?_ _ | refine cd_ ?_))); (case side4 => exact HC0_1.out); rintro e w17 ⟨rfl, hb⟩; refine ⟨_, rfl, ?_⟩; have n0_ := ak (blk_below (by (with_reducible repeat first | apply kn_ | apply kd_ | apply ka_); exact BK111.out) hb); have n1_ := ak (blk_below (by (with_reducible repeat first | apply kn_ | apply kd_ | apply ka_); exact BK112.out) hb); have n2_ := ak (below_step (by repeat (first | (with_reducible first | exact HB.out | apply ba_ | apply bn_ | apply b1_ | refine bs_ ?_ GE111.out | refine bs_ ?_ GE112.out) | exact HB.out)) hb); clear BK111 BK112 HB; have BK111 := n0_; have BK112 := n1_; have HB := n2_; clear n0_ n1_ n2_; (try clear hb); (try clear hb2); (try clear hk); (try clear hi); (try clear A3); obtain ⟨z18_0, z18_1, z18_2, z18_3, z18_4, z18_5, z18_6, f18_0, f18_1, f18_2, f18_3, f18_4, f18_5, f18_6⟩ := kk7 BK112.out))
  refine bodyPost_ret (results_ct rfl _ _ gb112 28 #[.int .i64 0, .int .i64 0, .slice none 0 0, .slice none 0 0, .bool false, .bool false, .bool false] (0, 0) _ rfl (by (with_reducible repeat first | apply kn_ | apply kd_ | apply ka_); refine blk_put (cs := #[.int .i64 0, .int .i64 0, .slice none 0 0, .slice none 0 0, .bool false, .bool false, .bool false]) ?_ 6 _ rfl; (with_reducible repeat first | apply kn_ | apply kd_ | apply ka_); refine blk_put (cs := #[.int .i64 0, .int .i64 0, .slice none 0 0, .slice none 0 0, .bool false, .bool false, .bool false]) ?_ 5 _ rfl; (with_reducible repeat first | apply kn_ | apply kd_ | apply ka_); refine blk_put (cs := #[.int .i64 0, .int .i64 0, .slice none 0 0, .slice none 0 0, .bool false, .bool false, .bool false]) ?_ 4 _ rfl; (with_reducible repeat first | apply kn_ | apply kd_ | apply ka_); refine blk_put (cs := #[.int .i64 0, .int .i64 0, .slice none 0 0, .slice none 0 0, .bool false, .bool false, .bool false]) ?_ 3 _ rfl; (with_reducible repeat first | apply kn_ | apply kd_ | apply ka_); refine blk_put (cs := #[.int .i64 0, .int .i64 0, .slice none 0 0, .slice none 0 0, .bool false, .bool false, .bool false]) ?_ 2 _ rfl; (with_reducible repeat first | apply kn_ | apply kd_ | apply ka_); refine blk_put (cs := #[.int .i64 0, .int .i64 0, .slice none 0 0, .slice none 0 0, .bool false, .bool false, .bool false]) ?_ 1 _ rfl; (with_reducible repeat first | apply kn_ | apply kd_ | apply ka_); refine blk_put (cs := #[.int .i64 0, .int .i64 0, .slice none 0 0, .slice none 0 0, .bool false, .bool false, .bool false]) ?_ 0 _ rfl; (with_reducible repeat first | apply kn_ | apply kd_ | apply ka_); exact BK112.out) Try.underlying28 rfl (by kernel_rfl)) rfl ?_
  exact ⟨_, _, by first | rfl | (simp [errW_none, errW_some] <;> rfl) | (simp [*, errW_none, errW_some] <;> rfl) | (simp [Int.tdiv_eq_ediv_of_nonneg]; done), by first | exact Kd.R_nil _ _ _ _ _ | exact Kd.N_nil _ _ _ _ _ | exact Kd.V_nil _ _ _ _ _ | exact Kd.Q_nil _ _ _ _ _ | exact Kd.S_nil _ _ _ _ _, by first | exact Kd.R_nil _ _ _ _ _ | exact Kd.N_nil _ _ _ _ _ | exact Kd.V_nil _ _ _ _ _ | exact Kd.Q_nil _ _ _ _ _ | exact Kd.S_nil _ _ _ _ _, by repeat (first | (with_reducible first | exact HB.out | apply ba_ | apply bn_ | apply b1_ | refine bs_ ?_ GE111.out | refine bs_ ?_ GE112.out) | exact HB.out)⟩
 rw [if_neg c12] at H
 have c12b0 : decide (256 < a1) = false := decide_eq_false c12
 clear c12
 by_cases c19 : 0 ≤ (l0_0.length : Int); rotate_left
 ·rw [if_neg c19] at H
  exact absurd H (by simp)
 rw [if_pos c19] at H
 have c19b0 := eq_true c19
 have c19b1 : decide (0 ≤ (l0_0.length : Int)) = true := decide_eq_true c19
 clear c19
 by_cases c20 : ((l0_0.length : Int) : Int).toNat ≤ 281474976710656; rotate_left
 ·rw [if_neg c20] at H
  exact absurd H (by simp)
 rw [if_pos c20] at H
 have c20b0 := eq_true c20
 have c20b1 : decide (((l0_0.length : Int) : Int).toNat ≤ 281474976710656) = true := decide_eq_true c20
 clear c20
 obtain ⟨y114, hy114⟩ : ∃ y_ : List Bool, y_ = (List.replicate ((l0_0.length : Int) : Int).toNat false) := ⟨_, rfl⟩
 replace H : (some (0, 0, y114, ([] : List Int), false, false, false, 0)) = some (r1, r2, r3, r4, r5, r6, r7, r8) := by first | (rw [hy114]; with_reducible exact H) | (have H2_ := (Option.bind_some _ _).symm.trans H; rw [hy114]; with_reducible exact H2_) | (have H2_ := (Option.bind_some _ _).symm.trans H; with_reducible exact H2_) | with_reducible exact H | (rw [hy114]; exact H) | exact H
 have Ny114 := ak hy114
 clear hy114
 simp only [Option.some.injEq, Prod.mk.injEq] at H
 obtain ⟨rfl, rfl, rfl, rfl, rfl, rfl, rfl, rfl⟩ := H
 go_enter Try.func14, Try.ntmps14
 go_wp2_with (first | ((with_reducible refine gate_dst (N := 2) rfl ?_); refine box_event ?hg (N := 2) ?hd (cs := #[.slice A0_0 l0_0.length c0_0, .slice A0_1 l0_1.length c0_1]) (t := 25) ?hr ?_; (case hd => rfl); (case hg => rfl); (case hr => first | (go_simp; done) | (go_simp; rfl)); intro gb111 hg w21 hbox hb; have n0_ := ak (below_step (by repeat (first | (with_reducible first | exact HB.out | apply ba_ | apply bn_ | apply b1_) | exact HB.out)) hb); have n1_ := ak (hbox); have n2_ := ak ((by rw [hg]; exact (below_size (by repeat (first | (with_reducible first | exact HB.out | apply ba_ | apply bn_ | apply b1_) | exact HB.out))) : w.heap.size ≤ gb111)); have n3_ := n2_; clear HB; have HB := n0_; have BK111 := n1_; have GW111 := n2_; have GE111 := n3_; clear n0_ n1_ n2_ n3_ hb hbox hg) | ((with_reducible refine gate_dst (N := 4) rfl ?_); refine box_event ?hg (N := 4) ?hd (cs := #[.int .i64 0, .int .i64 0, .slice none 0 0, .slice none 0 0, .bool false, .bool false, .bool false]) (t := 28) ?hr ?_; (case hd => rfl); (case hg => rfl); (case hr => first | (go_simp; done) | (go_simp; rfl)); intro gb112 hg w22 hbox hb; have n0_ := ak (blk_below (by (with_reducible repeat first | apply kn_ | apply kd_ | apply ka_); exact BK111.out) hb); have n1_ := ak (below_step (by repeat (first | (with_reducible first | exact HB.out | apply ba_ | apply bn_ | apply b1_ | refine bs_ ?_ GE111.out) | exact HB.out)) hb); have n2_ := ak (hbox); have n3_ := ak ((by rw [hg]; exact (below_size (by repeat (first | (with_reducible first | exact HB.out | apply ba_ | apply bn_ | apply b1_ | refine bs_ ?_ GE111.out) | exact HB.out))) : w.heap.size ≤ gb112)); have n4_ := n3_; have n5_ := ak ((by rw [hg]; exact Nat.ne_of_lt (blk_lt (g := gb111) (o := .cells #[.slice A0_0 l0_0.length c0_0, .slice A0_1 l0_1.length c0_1] 25 (0, 0)) (by (with_reducible repeat first | apply kn_ | apply kd_ | apply ka_); exact BK111.out)) : gb111 ≠ gb112)); have n6_ := ak ((by rw [hg]; exact Nat.ne_of_gt (blk_lt (g := gb111) (o := .cells #[.slice A0_0 l0_0.length c0_0, .slice A0_1 l0_1.length c0_1] 25 (0, 0)) (by (with_reducible repeat first | apply kn_ | apply kd_ | apply ka_); exact BK111.out)) : gb112 ≠ gb111)); clear BK111 HB; have BK111 := n0_; have HB := n1_; have BK112 := n2_; have GW112 := n3_; have GE112 := n4_; have NB111_112 := n5_; have NB112_111 := n6_; clear n0_ n1_ n2_ n3_ n4_ n5_ n6_ hb hbox hg; have hnb23 := NB111_112.out; have hnc23 := NB112_111.out; obtain ⟨z24_0, z24_1, f24_0, f24_1⟩ := kk2 BK111.out) | ((with_reducible refine gate_callee (f := 16) rfl ?_); refine goesL_ (some 8) rfl rfl Try.func16 (by kernel_rfl) rfl #[.agg #[.slice A0_0 l0_0.length c0_0, .slice A0_1 l0_1.length c0_1]] rfl (by (try simp only [List.map_toArray, List.map_cons, List.map_nil]); first | done | rfl | (simp only [List.length_drop, List.length_take]; rfl)) ?_; (with_reducible refine (mark_CheckView.calls k _ _ l0_0 _ _ l0_1 t113 _ ?side1 ?side2 ?side3 ?side4 A3.out).mono ?_); (case side1 => repeat (first | exact (Kd.C_below HR0_0.out HB.out) | (with_reducible first | refine ca_ ?_ _ | refine cn_ ?_ _ | refine cd_ ?_))); (case side2 => exact HC0_0.out); (case side3 => repeat (first | exact (Kd.C_below HR0_1.out HB.out) | (with_reducible first | refine ca_ ?_ _ | refine cn_ ?_ _ | refine cd_ ?_))); (case side4 => exact HC0_1.out); rintro e w25 ⟨rfl, hb⟩; refine ⟨_, rfl, ?_⟩; have n0_ := ak (blk_below (by (with_reducible repeat first | apply kn_ | apply kd_ | apply ka_); exact BK111.out) hb); have n1_ := ak (blk_below (by (with_reducible repeat first | apply kn_ | apply kd_ | apply ka_); exact BK112.out) hb); have n2_ := ak (below_step (by repeat (first | (with_reducible first | exact HB.out | apply ba_ | apply bn_ | apply b1_ | refine bs_ ?_ GE111.out | refine bs_ ?_ GE112.out) | exact HB.out)) hb); clear BK111 BK112 HB; have BK111 := n0_; have BK112 := n1_; have HB := n2_; clear n0_ n1_ n2_; (try clear hb); (try clear hb2); (try clear hk); (try clear hi); (try clear A3); obtain ⟨z26_0, z26_1, f26_0, f26_1⟩ := kk2 BK111.out) | ((with_reducible refine gate_dst (N := 23) rfl ?_); refine Kd.R_make Kd.bool _ 4 rfl (N := 23) rfl 26 _ _ rfl (l0_0.length : Int) rfl rfl Try.underlying26 (.bool false) 1 info4 rfl (by decide) (by omega) false (ok := fun _ => True) (okp := fun _ => True) rfl (fun _ hk => hk) trivial (of_decide_eq_true (by first | (with_reducible assumption) | assumption)) (Nat.le_trans (Nat.mul_le_mul_right _ (of_decide_eq_true (by first | (with_reducible assumption) | assumption) : (l0_0.length : Int).toNat ≤ 281474976710656)) (by omega)) (Below.refl _ _) (Nat.le_refl _) ?_; intro v115 w27 ho28 hb hg_ hnew_; clear hg_ hnew_; (first | rw [← Ny114.out] at ho28 | (simp only [Int.reduceToNat] at ho28; rw [← Ny114.out] at ho28)); have n0_ := ak (Kd.R_lower ho28 (below_size (by repeat (first | (with_reducible first | exact HB.out | apply ba_ | apply bn_ | apply b1_ | refine bs_ ?_ GE111.out | refine bs_ ?_ GE112.out) | exact HB.out)))); have n1_ := ak (blk_below (by (with_reducible repeat first | apply kn_ | apply kd_ | apply ka_); exact BK111.out) hb); have n2_ := ak (blk_below (by (with_reducible repeat first | apply kn_ | apply kd_ | apply ka_); exact BK112.out) hb); have n3_ := ak (below_step (by repeat (first | (with_reducible first | exact HB.out | apply ba_ | apply bn_ | apply b1_ | refine bs_ ?_ GE111.out | refine bs_ ?_ GE112.out) | exact HB.out)) hb); clear BK111 BK112 HB; have HO116 := n0_; have BK111 := n1_; have BK112 := n2_; have HB := n3_; clear n0_ n1_ n2_ n3_ hb ho28; obtain ⟨Ao29, co29, eo29⟩ := Kd.R_slice HO116.out; subst eo29; obtain ⟨z30_0, z30_1, z30_2, z30_3, z30_4, z30_5, z30_6, f30_0, f30_1, f30_2, f30_3, f30_4, f30_5, f30_6⟩ := kk7 BK112.out))
 refine bodyPost_ret (results_ct rfl _ _ gb112 28 #[.int .i64 0, .int .i64 0, .slice Ao29 y114.length co29, .slice none 0 0, .bool false, .bool false, .bool false] (0, 0) _ rfl (by (with_reducible repeat first | apply kn_ | apply kd_ | apply ka_); refine blk_put (cs := #[.int .i64 0, .int .i64 0, .slice Ao29 y114.length co29, .slice none 0 0, .bool false, .bool false, .bool false]) ?_ 6 _ rfl; (with_reducible repeat first | apply kn_ | apply kd_ | apply ka_); refine blk_put (cs := #[.int .i64 0, .int .i64 0, .slice Ao29 y114.length co29, .slice none 0 0, .bool false, .bool false, .bool false]) ?_ 5 _ rfl; (with_reducible repeat first | apply kn_ | apply kd_ | apply ka_); refine blk_put (cs := #[.int .i64 0, .int .i64 0, .slice Ao29 y114.length co29, .slice none 0 0, .bool false, .bool false, .bool false]) ?_ 4 _ rfl; (with_reducible repeat first | apply kn_ | apply kd_ | apply ka_); refine blk_put (cs := #[.int .i64 0, .int .i64 0, .slice Ao29 y114.length co29, .slice none 0 0, .bool false, .bool false, .bool false]) ?_ 3 _ rfl; (with_reducible repeat first | apply kn_ | apply kd_ | apply ka_); refine blk_put (cs := #[.int .i64 0, .int .i64 0, .slice none 0 0, .slice none 0 0, .bool false, .bool false, .bool false]) ?_ 2 _ rfl; (with_reducible repeat first | apply kn_ | apply kd_ | apply ka_); refine blk_put (cs := #[.int .i64 0, .int .i64 0, .slice none 0 0, .slice none 0 0, .bool false, .bool false, .bool false]) ?_ 1 _ rfl; (with_reducible repeat first | apply kn_ | apply kd_ | apply ka_); refine blk_put (cs := #[.int .i64 0, .int .i64 0, .slice none 0 0, .slice none 0 0, .bool false, .bool false, .bool false]) ?_ 0 _ rfl; (with_reducible repeat first | apply kn_ | apply kd_ | apply ka_); exact BK112.out) Try.underlying28 rfl (by kernel_rfl)) rfl ?_
 exact ⟨_, _, by first | rfl | (simp [errW_none, errW_some] <;> rfl) | (simp [*, errW_none, errW_some] <;> rfl) | (simp [Int.tdiv_eq_ediv_of_nonneg]; done), by (with_reducible repeat (first | apply Kd.R_alloc | apply Kd.R_drewN | apply Kd.R_drew)); exact Kd.R_mono (Kd.R_far (p := ⟨gb112, 6, none⟩) (Kd.R_far (p := ⟨gb112, 5, none⟩) (Kd.R_far (p := ⟨gb112, 4, none⟩) (Kd.R_far (p := ⟨gb112, 3, none⟩) (Kd.R_far (p := ⟨gb112, 2, none⟩) (Kd.R_far (p := ⟨gb112, 1, none⟩) (Kd.R_far (p := ⟨gb112, 0, none⟩) (Kd.R_types HO116.out BK112.out (by decide)) (fun _ hk => hk.2) (.int .i64 0)) (fun _ hk => hk.2) (.int .i64 0)) (fun _ hk => hk.2) (.slice Ao29 y114.length co29)) (fun _ hk => hk.2) (.slice none 0 0)) (fun _ hk => hk.2) (.bool false)) (fun _ hk => hk.2) (.bool false)) (fun _ hk => hk.2) (.bool false)) (fun _ hk => trivial), by first | exact Kd.R_nil _ _ _ _ _ | exact Kd.N_nil _ _ _ _ _ | exact Kd.V_nil _ _ _ _ _ | exact Kd.Q_nil _ _ _ _ _ | exact Kd.S_nil _ _ _ _ _, by repeat (first | (with_reducible first | exact HB.out | apply ba_ | apply bn_ | apply b1_ | refine bs_ ?_ GE111.out | refine bs_ ?_ GE112.out) | exact HB.out)⟩
/-! ### slices_Index_int_int: function 51 -/
def slices_Index_int_int.l0 : Nat → List Int → Int → Int → Int → Option (Int)
 | 0, _, _, _, _ => none
 | k + 1, x0, x1, x7, x8 => if x8 < x7 then (if 0 ≤ x8 then (if x8 < (x0.length : Int) then (if x1 = (rd x0 x8) then (some x8) else (slices_Index_int_int.l0 k x0 x1 x7 (wrap64 (x8 + 1)))) else (none)) else (none)) else (some (-1))
def slices_Index_int_int.f (k : Nat) (l0 : List Int) (a1 : Int) : Option (Int) := slices_Index_int_int.l0 k l0 a1 (l0.length : Int) 0
theorem slices_Index_int_int.mono_l : ∀ k, (∀ y0 y1 y2 y3, LeO (slices_Index_int_int.l0 k y0 y1 y2 y3) (slices_Index_int_int.l0 (k + 1) y0 y1 y2 y3))
 | 0 => fun _ _ _ _ r h => by simp [slices_Index_int_int.l0] at h
 | k + 1 => by
  have ih0 := slices_Index_int_int.mono_l k
  ·intro y0 y1 y2 y3
   unfold slices_Index_int_int.l0
   repeat' first | (with_reducible first | exact ih0 _ _ _ _ | exact LeO.refl _ | exact LeO.none _ | refine LeO.ite ?_ ?_ | refine LeO.bind ?_ (fun _ => ?_)) | exact ih0 _ _ _ _ | exact LeO.none _ | refine LeO.ite ?_ ?_ | refine LeO.bind ?_ (fun _ => ?_)
theorem slices_Index_int_int.mono : ∀ a0 a1 k, LeO (slices_Index_int_int.f k a0 a1) (slices_Index_int_int.f (k + 1) a0 a1) := by
 intro a0 a1 k
 have ih0 := slices_Index_int_int.mono_l k
 unfold slices_Index_int_int.f
 repeat' first | (with_reducible first | exact ih0 _ _ _ _ | exact LeO.refl _ | exact LeO.none _ | refine LeO.ite ?_ ?_ | refine LeO.bind ?_ (fun _ => ?_)) | exact ih0 _ _ _ _ | exact LeO.none _ | refine LeO.ite ?_ ?_ | refine LeO.bind ?_ (fun _ => ?_)
set_option maxHeartbeats 8000000 in
set_option maxRecDepth 100000 in
theorem slices_Index_int_int.calls (k : Nat) (A0 : Option Addr) (c0 : Nat) (l0 : List Int) (a1 : Int) (r : Int) (w : World) (hr0 : Kd.C (Kd.int .i64) w A0 l0.length l0) (hc0 : l0.length ≤ c0) (h : slices_Index_int_int.f k l0 a1 = some r) :
  Calls Try.prog 51 #[.slice A0 l0.length c0, .int .i64 a1] w fun e w' => e = .returned (.int .i64 r) ∧ Drawn0 w w' := by
 have HR0 := ak hr0
 have HC0 := ak hc0
 clear hr0 hc0
 have H : (slices_Index_int_int.l0 k l0 a1 (l0.length : Int) 0) = some r := h
 clear h
 have H' := ak H
 clear H
 go_enter Try.func51, Try.ntmps51
 go_wp2
 go_loopg [8] k (fun kq v8 w' => ∃ (x8_1 : Int), v8 = .int .i64 x8_1 ∧ Aside0 (slices_Index_int_int.l0 kq l0 a1 (l0.length : Int) x8_1 = some r) ∧ Aside0 (kq ≤ k) ∧ Drawn0 w w')
 case atStart => exact ⟨(0), (by first | rfl | (simp; done) | (simp [*]; done) | (simp [Int.tdiv_eq_ediv_of_nonneg]; done)), H', ⟨Nat.le_refl _⟩, by repeat (first | exact Drawn0.refl _ | apply Drawn0.step)⟩
 case round =>
  clear H'
  try clear p2
  obtain ⟨x8_1, rfl, HA, HK1, ⟨m1, rfl⟩⟩ := hrel
  cases gk with
  | zero => exact absurd HA.out (by simp [slices_Index_int_int.l0])
  | succ k1 =>
   have H := HA.out
   clear HA
   simp only [slices_Index_int_int.l0] at H
   by_cases c3 : x8_1 < (l0.length : Int); rotate_left
   ·rw [if_neg c3] at H
    have c3b0 : decide (x8_1 < (l0.length : Int)) = false := decide_eq_false c3
    clear c3
    obtain rfl := Option.some.inj H
    go_wp2
    go_ret
    exact ⟨by first | rfl | (simp; done) | (simp [*]; done) | (simp [Int.tdiv_eq_ediv_of_nonneg]; done), by repeat (first | exact Drawn0.refl _ | apply Drawn0.step)⟩
   rw [if_pos c3] at H
   have c3b0 : decide (x8_1 < (l0.length : Int)) = true := decide_eq_true c3
   clear c3
   by_cases c4 : 0 ≤ x8_1; rotate_left
   ·rw [if_neg c4] at H
    exact absurd H (by simp)
   rw [if_pos c4] at H
   have c4b0 : decide (0 ≤ x8_1) = true := decide_eq_true c4
   clear c4
   by_cases c5 : x8_1 < (l0.length : Int); rotate_left
   ·rw [if_neg c5] at H
    exact absurd H (by simp)
   rw [if_pos c5] at H
   have c5b0 : decide (x8_1 < (l0.length : Int)) = true := decide_eq_true c5
   clear c5
   by_cases c6 : a1 = (rd l0 x8_1)
   ·rw [if_pos c6] at H
    have c6b0 : (a1 == (rd l0 x8_1)) = true := beq_iff_eq.mpr c6
    have c6b1 : (a1 != (rd l0 x8_1)) = false := bne_eq_false_iff_eq.mpr c6
    clear c6
    obtain rfl := Option.some.inj H
    have p117 : 0 ≤ (x8_1 : Int) := of_decide_eq_true (by first | (with_reducible assumption) | assumption)
    have q117 : x8_1 < (l0.length : Int) := of_decide_eq_true (by first | (with_reducible assumption) | assumption)
    obtain ⟨ad117, e117, hx117_0⟩ := Kd.at_int HR0.out x8_1 p117 q117
    cases e117
    replace p117 := eq_true p117
    replace q117 := eq_true q117
    go_wp2
    go_ret
    exact ⟨by first | rfl | (simp; done) | (simp [*]; done) | (simp [Int.tdiv_eq_ediv_of_nonneg]; done), by repeat (first | exact Drawn0.refl _ | apply Drawn0.step)⟩
   rw [if_neg c6] at H
   have c6b0 : (a1 == (rd l0 x8_1)) = false := beq_eq_false_iff_ne.mpr c6
   have c6b1 : (a1 != (rd l0 x8_1)) = true := bne_iff_ne.mpr c6
   have H' := ak H
   clear H
   have p117 : 0 ≤ (x8_1 : Int) := of_decide_eq_true (by first | (with_reducible assumption) | assumption)
   have q117 : x8_1 < (l0.length : Int) := of_decide_eq_true (by first | (with_reducible assumption) | assumption)
   obtain ⟨ad117, e117, hx117_0⟩ := Kd.at_int HR0.out x8_1 p117 q117
   cases e117
   replace p117 := eq_true p117
   replace q117 := eq_true q117
   go_wp2
   go_roundg k1
   case measure => have := HK1.out; omega
   case rel => exact ⟨(wrap64 (x8_1 + 1)), (by first | rfl | (simp; done) | (simp [*]; done) | (simp [Int.tdiv_eq_ediv_of_nonneg]; done)), H', ⟨by have := HK1.out; omega⟩, by repeat (first | exact Drawn0.refl _ | apply Drawn0.step)⟩
/-! ### slices_Contains_int_int: function 34 -/
def slices_Contains_int_int.f (k : Nat) (l0 : List Int) (a1 : Int) : Option (Bool) := (slices_Index_int_int.f k l0 a1).bind fun t118 => (some (decide (t118 ≥ 0)))
theorem slices_Contains_int_int.mono : ∀ a0 a1 k, LeO (slices_Contains_int_int.f k a0 a1) (slices_Contains_int_int.f (k + 1) a0 a1) := by
 intro a0 a1 k
 unfold slices_Contains_int_int.f
 repeat' first | (with_reducible first | exact slices_Index_int_int.mono _ _ _ | exact LeO.refl _ | exact LeO.none _ | refine LeO.ite ?_ ?_ | refine LeO.bind ?_ (fun _ => ?_)) | exact slices_Index_int_int.mono _ _ _ | exact LeO.none _ | refine LeO.ite ?_ ?_ | refine LeO.bind ?_ (fun _ => ?_)
set_option maxHeartbeats 8000000 in
set_option maxRecDepth 100000 in
theorem slices_Contains_int_int.calls (k : Nat) (A0 : Option Addr) (c0 : Nat) (l0 : List Int) (a1 : Int) (r : Bool) (w : World) (hr0 : Kd.C (Kd.int .i64) w A0 l0.length l0) (hc0 : l0.length ≤ c0) (h : slices_Contains_int_int.f k l0 a1 = some r) :
  Calls Try.prog 34 #[.slice A0 l0.length c0, .int .i64 a1] w fun e w' => e = .returned (.bool r) ∧ Drawn0 w w' := by
 have HR0 := ak hr0
 have HC0 := ak hc0
 clear hr0 hc0
 have H : ((slices_Index_int_int.f k l0 a1).bind fun t118 => (some (decide (t118 ≥ 0)))) = some r := h
 clear h
 replace H := Option.bind_eq_some_iff.mp H
 obtain ⟨t118, A30, H⟩ := H
 replace H : (some (decide (t118 ≥ 0))) = some r := H
 have A3 := ak A30
 clear A30
 obtain rfl := Option.some.inj H
 go_enter Try.func34, Try.ntmps34
 go_wp2_with (first | ((with_reducible refine gate_callee (f := 51) rfl ?_); refine goesL_ (some 7) rfl rfl Try.func51 (by kernel_rfl) rfl #[.slice A0 l0.length c0, .int .i64 a1] rfl (by (try simp only [List.map_toArray, List.map_cons, List.map_nil]); first | done | rfl | (simp only [List.length_drop, List.length_take]; rfl)) ?_; (with_reducible refine (slices_Index_int_int.calls k _ _ l0 a1 t118 _ ?side1 ?side2 A3.out).mono ?_); (case side1 => repeat (first | exact HR0.out | (with_reducible first | refine ca_ ?_ _ | refine cn_ ?_ _ | refine cd_ ?_))); (case side2 => exact HC0.out); rintro e w' ⟨rfl, ⟨nd, rfl⟩⟩; refine ⟨_, rfl, ?_⟩))
 go_ret
 exact ⟨by first | rfl | (simp; done) | (simp [*]; done) | (simp [Int.tdiv_eq_ediv_of_nonneg]; done), by repeat (first | exact Drawn0.refl _ | apply Drawn0.step)⟩
/-! ### mark_furthest: function 43 -/
def mark_furthest.f (l0_0 : List (S56)) (l0_1 : List Int) (a1_0 : Int) (a1_1 : Int) (l1_2 : List Bool) (l1_3 : List Int) (a1_4 : Bool) (a1_5 : Bool) (a1_6 : Bool) : Option (Int) := if a1_0 = 0 then (some (l0_1.length : Int)) else (if a1_0 = 1 then (if a1_6 = true then (some (l0_0.length : Int)) else (some 0)) else (if a1_0 = 2 then (some (l0_0.length : Int)) else (if a1_0 = 3 then (some 0) else (some (-1)))))
set_option maxHeartbeats 8000000 in
set_option maxRecDepth 100000 in
theorem mark_furthest.calls (A0_0 : Option Addr) (c0_0 : Nat) (l0_0 : List (S56)) (A0_1 : Option Addr) (c0_1 : Nat) (l0_1 : List Int) (a1_0 : Int) (a1_1 : Int) (A1_2 : Option Addr) (c1_2 : Nat) (l1_2 : List Bool) (A1_3 : Option Addr) (c1_3 : Nat) (l1_3 : List Int) (a1_4 : Bool) (a1_5 : Bool) (a1_6 : Bool) (r : Int) (w : World) (hr0_0 : Kd.C k56 w A0_0 l0_0.length l0_0) (hc0_0 : l0_0.length ≤ c0_0) (hr0_1 : Kd.C (Kd.int .i64) w A0_1 l0_1.length l0_1) (hc0_1 : l0_1.length ≤ c0_1) (hr1_2 : Kd.C Kd.bool w A1_2 l1_2.length l1_2) (hc1_2 : l1_2.length ≤ c1_2) (hr1_3 : Kd.C (Kd.int .i64) w A1_3 l1_3.length l1_3) (hc1_3 : l1_3.length ≤ c1_3) (h : mark_furthest.f l0_0 l0_1 a1_0 a1_1 l1_2 l1_3 a1_4 a1_5 a1_6 = some r) :
  Calls Try.prog 43 #[.agg #[.slice A0_0 l0_0.length c0_0, .slice A0_1 l0_1.length c0_1], .agg #[.int .i64 a1_0, .int .i64 a1_1, .slice A1_2 l1_2.length c1_2, .slice A1_3 l1_3.length c1_3, .bool a1_4, .bool a1_5, .bool a1_6]] w fun e w' => e = .returned (.int .i64 r) ∧ Below w.heap.size w w' := by
 have hu25 := Try.underlying25
 have hu28 := Try.underlying28
 have HR0_0 := ak hr0_0
 have HC0_0 := ak hc0_0
 clear hr0_0 hc0_0
 have HR0_1 := ak hr0_1
 have HC0_1 := ak hc0_1
 clear hr0_1 hc0_1
 have HR1_2 := ak hr1_2
 have HC1_2 := ak hc1_2
 clear hr1_2 hc1_2
 have HR1_3 := ak hr1_3
 have HC1_3 := ak hc1_3
 clear hr1_3 hc1_3
 have HB := ak (Below.refl w.heap.size w)
 have H : (if a1_0 = 0 then (some (l0_1.length : Int)) else (if a1_0 = 1 then (if a1_6 = true then (some (l0_0.length : Int)) else (some 0)) else (if a1_0 = 2 then (some (l0_0.length : Int)) else (if a1_0 = 3 then (some 0) else (some (-1)))))) = some r := h
 clear h
 by_cases c3 : a1_0 = 0
 ·rw [if_pos c3] at H
  have c3b0 : (a1_0 == 0) = true := beq_iff_eq.mpr c3
  have c3b1 : (a1_0 != 0) = false := bne_eq_false_iff_eq.mpr c3
  clear c3
  obtain rfl := Option.some.inj H
  go_enter Try.func43, Try.ntmps43
  go_wp2_with (first | ((with_reducible refine gate_dst (N := 2) rfl ?_); refine box_event ?hg (N := 2) ?hd (cs := #[.slice A0_0 l0_0.length c0_0, .slice A0_1 l0_1.length c0_1]) (t := 25) ?hr ?_; (case hd => rfl); (case hg => rfl); (case hr => first | (go_simp; done) | (go_simp; rfl)); intro gb119 hg w4 hbox hb; have n0_ := ak (below_step (by repeat (first | (with_reducible first | exact HB.out | apply ba_ | apply bn_ | apply b1_) | exact HB.out)) hb); have n1_ := ak (hbox); have n2_ := ak ((by rw [hg]; exact (below_size (by repeat (first | (with_reducible first | exact HB.out | apply ba_ | apply bn_ | apply b1_) | exact HB.out))) : w.heap.size ≤ gb119)); have n3_ := n2_; clear HB; have HB := n0_; have BK119 := n1_; have GW119 := n2_; have GE119 := n3_; clear n0_ n1_ n2_ n3_ hb hbox hg) | ((with_reducible refine gate_dst (N := 3) rfl ?_); refine box_event ?hg (N := 3) ?hd (cs := #[.int .i64 a1_0, .int .i64 a1_1, .slice A1_2 l1_2.length c1_2, .slice A1_3 l1_3.length c1_3, .bool a1_4, .bool a1_5, .bool a1_6]) (t := 28) ?hr ?_; (case hd => rfl); (case hg => rfl); (case hr => first | (go_simp; done) | (go_simp; rfl)); intro gb120 hg w5 hbox hb; have n0_ := ak (blk_below (by (with_reducible repeat first | apply kn_ | apply kd_ | apply ka_); exact BK119.out) hb); have n1_ := ak (below_step (by repeat (first | (with_reducible first | exact HB.out | apply ba_ | apply bn_ | apply b1_ | refine bs_ ?_ GE119.out) | exact HB.out)) hb); have n2_ := ak (hbox); have n3_ := ak ((by rw [hg]; exact (below_size (by repeat (first | (with_reducible first | exact HB.out | apply ba_ | apply bn_ | apply b1_ | refine bs_ ?_ GE119.out) | exact HB.out))) : w.heap.size ≤ gb120)); have n4_ := n3_; have n5_ := ak ((by rw [hg]; exact Nat.ne_of_lt (blk_lt (g := gb119) (o := .cells #[.slice A0_0 l0_0.length c0_0, .slice A0_1 l0_1.length c0_1] 25 (0, 0)) (by (with_reducible repeat first | apply kn_ | apply kd_ | apply ka_); exact BK119.out)) : gb119 ≠ gb120)); have n6_ := ak ((by rw [hg]; exact Nat.ne_of_gt (blk_lt (g := gb119) (o := .cells #[.slice A0_0 l0_0.length c0_0, .slice A0_1 l0_1.length c0_1] 25 (0, 0)) (by (with_reducible repeat first | apply kn_ | apply kd_ | apply ka_); exact BK119.out)) : gb120 ≠ gb119)); clear BK119 HB; have BK119 := n0_; have HB := n1_; have BK120 := n2_; have GW120 := n3_; have GE120 := n4_; have NB119_120 := n5_; have NB120_119 := n6_; clear n0_ n1_ n2_ n3_ n4_ n5_ n6_ hb hbox hg; have hnb6 := NB120_119.out; have hnc6 := NB119_120.out; obtain ⟨z7_0, z7_1, z7_2, z7_3, z7_4, z7_5, z7_6, f7_0, f7_1, f7_2, f7_3, f7_4, f7_5, f7_6⟩ := kk7 BK120.out; obtain ⟨z8_0, z8_1, f8_0, f8_1⟩ := kk2 BK119.out))
  go_ret
  exact ⟨by first | rfl | (simp [errW_none, errW_some] <;> rfl) | (simp [*, errW_none, errW_some] <;> rfl) | (simp [Int.tdiv_eq_ediv_of_nonneg]; done), by repeat (first | (with_reducible first | exact HB.out | apply ba_ | apply bn_ | apply b1_ | refine bs_ ?_ GE119.out | refine bs_ ?_ GE120.out) | exact HB.out)⟩
 rw [if_neg c3] at H
 have c3b0 : (a1_0 == 0) = false := beq_eq_false_iff_ne.mpr c3
 have c3b1 : (a1_0 != 0) = true := bne_iff_ne.mpr c3
 by_cases c9 : a1_0 = 1
 ·rw [if_pos c9] at H
  have c9b0 : (a1_0 == 1) = true := beq_iff_eq.mpr c9
  have c9b1 : (a1_0 != 1) = false := bne_eq_false_iff_eq.mpr c9
  clear c9
  by_cases c10 : a1_6 = true
  ·subst c10
   have H1 : (some (l0_0.length : Int)) = some r := by rw [if_pos rfl] at H; exact H
   clear H
   have H := H1
   clear H1
   obtain rfl := Option.some.inj H
   go_enter Try.func43, Try.ntmps43
   go_wp2_with (first | ((with_reducible refine gate_dst (N := 2) rfl ?_); refine box_event ?hg (N := 2) ?hd (cs := #[.slice A0_0 l0_0.length c0_0, .slice A0_1 l0_1.length c0_1]) (t := 25) ?hr ?_; (case hd => rfl); (case hg => rfl); (case hr => first | (go_simp; done) | (go_simp; rfl)); intro gb119 hg w11 hbox hb; have n0_ := ak (below_step (by repeat (first | (with_reducible first | exact HB.out | apply ba_ | apply bn_ | apply b1_) | exact HB.out)) hb); have n1_ := ak (hbox); have n2_ := ak ((by rw [hg]; exact (below_size (by repeat (first | (with_reducible first | exact HB.out | apply ba_ | apply bn_ | apply b1_) | exact HB.out))) : w.heap.size ≤ gb119)); have n3_ := n2_; clear HB; have HB := n0_; have BK119 := n1_; have GW119 := n2_; have GE119 := n3_; clear n0_ n1_ n2_ n3_ hb hbox hg) | ((with_reducible refine gate_dst (N := 3) rfl ?_); refine box_event ?hg (N := 3) ?hd (cs := #[.int .i64 a1_0, .int .i64 a1_1, .slice A1_2 l1_2.length c1_2, .slice A1_3 l1_3.length c1_3, .bool a1_4, .bool a1_5, .bool true]) (t := 28) ?hr ?_; (case hd => rfl); (case hg => rfl); (case hr => first | (go_simp; done) | (go_simp; rfl)); intro gb120 hg w12 hbox hb; have n0_ := ak (blk_below (by (with_reducible repeat first | apply kn_ | apply kd_ | apply ka_); exact BK119.out) hb); have n1_ := ak (below_step (by repeat (first | (with_reducible first | exact HB.out | apply ba_ | apply bn_ | apply b1_ | refine bs_ ?_ GE119.out) | exact HB.out)) hb); have n2_ := ak (hbox); have n3_ := ak ((by rw [hg]; exact (below_size (by repeat (first | (with_reducible first | exact HB.out | apply ba_ | apply bn_ | apply b1_ | refine bs_ ?_ GE119.out) | exact HB.out))) : w.heap.size ≤ gb120)); have n4_ := n3_; have n5_ := ak ((by rw [hg]; exact Nat.ne_of_lt (blk_lt (g := gb119) (o := .cells #[.slice A0_0 l0_0.length c0_0, .slice A0_1 l0_1.length c0_1] 25 (0, 0)) (by (with_reducible repeat first | apply kn_ | apply kd_ | apply ka_); exact BK119.out)) : gb119 ≠ gb120)); have n6_ := ak ((by rw [hg]; exact Nat.ne_of_gt (blk_lt (g := gb119) (o := .cells #[.slice A0_0 l0_0.length c0_0, .slice A0_1 l0_1.length c0_1] 25 (0, 0)) (by (with_reducible repeat first | apply kn_ | apply kd_ | apply ka_); exact BK119.out)) : gb120 ≠ gb119)); clear BK119 HB; have BK119 := n0_; have HB := n1_; have BK120 := n2_; have GW120 := n3_; have GE120 := n4_; have NB119_120 := n5_; have NB120_119 := n6_; clear n0_ n1_ n2_ n3_ n4_ n5_ n6_ hb hbox hg; have hnb13 := NB120_119.out; have hnc13 := NB119_120.out; obtain ⟨z14_0, z14_1, z14_2, z14_3, z14_4, z14_5, z14_6, f14_0, f14_1, f14_2, f14_3, f14_4, f14_5, f14_6⟩ := kk7 BK120.out; obtain ⟨z15_0, z15_1, f15_0, f15_1⟩ := kk2 BK119.out))
   go_ret
   exact ⟨by first | rfl | (simp [errW_none, errW_some] <;> rfl) | (simp [*, errW_none, errW_some] <;> rfl) | (simp [Int.tdiv_eq_ediv_of_nonneg]; done), by repeat (first | (with_reducible first | exact HB.out | apply ba_ | apply bn_ | apply b1_ | refine bs_ ?_ GE119.out | refine bs_ ?_ GE120.out) | exact HB.out)⟩
  replace c10 := Bool.eq_false_iff.mpr c10
  subst c10
  have H1 : (some 0) = some r := by rw [if_neg (show ¬ (false = true) by decide)] at H; exact H
  clear H
  have H := H1
  clear H1
  obtain rfl := Option.some.inj H
  go_enter Try.func43, Try.ntmps43
  go_wp2_with (first | ((with_reducible refine gate_dst (N := 2) rfl ?_); refine box_event ?hg (N := 2) ?hd (cs := #[.slice A0_0 l0_0.length c0_0, .slice A0_1 l0_1.length c0_1]) (t := 25) ?hr ?_; (case hd => rfl); (case hg => rfl); (case hr => first | (go_simp; done) | (go_simp; rfl)); intro gb119 hg w16 hbox hb; have n0_ := ak (below_step (by repeat (first | (with_reducible first | exact HB.out | apply ba_ | apply bn_ | apply b1_) | exact HB.out)) hb); have n1_ := ak (hbox); have n2_ := ak ((by rw [hg]; exact (below_size (by repeat (first | (with_reducible first | exact HB.out | apply ba_ | apply bn_ | apply b1_) | exact HB.out))) : w.heap.size ≤ gb119)); have n3_ := n2_; clear HB; have HB := n0_; have BK119 := n1_; have GW119 := n2_; have GE119 := n3_; clear n0_ n1_ n2_ n3_ hb hbox hg) | ((with_reducible refine gate_dst (N := 3) rfl ?_); refine box_event ?hg (N := 3) ?hd (cs := #[.int .i64 a1_0, .int .i64 a1_1, .slice A1_2 l1_2.length c1_2, .slice A1_3 l1_3.length c1_3, .bool a1_4, .bool a1_5, .bool false]) (t := 28) ?hr ?_; (case hd => rfl); (case hg => rfl); (case hr => first | (go_simp; done) | (go_simp; rfl)); intro gb120 hg w17 hbox hb; have n0_ := ak (blk_below (by (with_reducible repeat first | apply kn_ | apply kd_ | apply ka_); exact BK119.out) hb); have n1_ := ak (below_step (by repeat (first | (with_reducible first | exact HB.out | apply ba_ | apply bn_ | apply b1_ | refine bs_ ?_ GE119.out) | exact HB.out)) hb); have n2_ := ak (hbox); have n3_ := ak ((by rw [hg]; exact (below_size (by repeat (first | (with_reducible first | exact HB.out | apply ba_ | apply bn_ | apply b1_ | refine bs_ ?_ GE119.out) | exact HB.out))) : w.heap.size ≤ gb120)); have n4_ := n3_; have n5_ := ak ((by rw [hg]; exact Nat.ne_of_lt (blk_lt (g := gb119) (o := .cells #[.slice A0_0 l0_0.length c0_0, .slice A0_1 l0_1.length c0_1] 25 (0, 0)) (by (with_reducible repeat first | apply kn_ | apply kd_ | apply ka_); exact BK119.out)) : gb119 ≠ gb120)); have n6_ := ak ((by rw [hg]; exact Nat.ne_of_gt (blk_lt (g := gb119) (o := .cells #[.slice A0_0 l0_0.length c0_0, .slice A0_1 l0_1.length c0_1] 25 (0, 0)) (by (with_reducible repeat first | apply kn_ | apply kd_ | apply ka_); exact BK119.out)) : gb120 ≠ gb119)); clear BK119 HB; have BK119 := n0_; have HB := n1_; have BK120 := n2_; have GW120 := n3_; have GE120 := n4_; have NB119_120 := n5_; have NB120_119 := n6_; clear n0_ n1_ n2_ n3_ n4_ n5_ n6_ hb hbox hg; have hnb18 := NB120_119.out; have hnc18 := NB119_120.out; obtain ⟨z19_0, z19_1, z19_2, z19_3, z19_4, z19_5, z19_6, f19_0, f19_1, f19_2, f19_3, f19_4, f19_5, f19_6⟩ := kk7 BK120.out))
  go_ret
  exact ⟨by first | rfl | (simp [errW_none, errW_some] <;> rfl) | (simp [*, errW_none, errW_some] <;> rfl) | (simp [Int.tdiv_eq_ediv_of_nonneg]; done), by repeat (first | (with_reducible first | exact HB.out | apply ba_ | apply bn_ | apply b1_ | refine bs_ ?_ GE119.out | refine bs_ ?_ GE120.out) | exact HB.out)⟩
 rw [if_neg c9] at H
 have c9b0 : (a1_0 == 1) = false := beq_eq_false_iff_ne.mpr c9
 have c9b1 : (a1_0 != 1) = true := bne_iff_ne.mpr c9
 by_cases c20 : a1_0 = 2
 ·rw [if_pos c20] at H
  have c20b0 : (a1_0 == 2) = true := beq_iff_eq.mpr c20
  have c20b1 : (a1_0 != 2) = false := bne_eq_false_iff_eq.mpr c20
  clear c20
  obtain rfl := Option.some.inj H
  go_enter Try.func43, Try.ntmps43
  go_wp2_with (first | ((with_reducible refine gate_dst (N := 2) rfl ?_); refine box_event ?hg (N := 2) ?hd (cs := #[.slice A0_0 l0_0.length c0_0, .slice A0_1 l0_1.length c0_1]) (t := 25) ?hr ?_; (case hd => rfl); (case hg => rfl); (case hr => first | (go_simp; done) | (go_simp; rfl)); intro gb119 hg w21 hbox hb; have n0_ := ak (below_step (by repeat (first | (with_reducible first | exact HB.out | apply ba_ | apply bn_ | apply b1_) | exact HB.out)) hb); have n1_ := ak (hbox); have n2_ := ak ((by rw [hg]; exact (below_size (by repeat (first | (with_reducible first | exact HB.out | apply ba_ | apply bn_ | apply b1_) | exact HB.out))) : w.heap.size ≤ gb119)); have n3_ := n2_; clear HB; have HB := n0_; have BK119 := n1_; have GW119 := n2_; have GE119 := n3_; clear n0_ n1_ n2_ n3_ hb hbox hg) | ((with_reducible refine gate_dst (N := 3) rfl ?_); refine box_event ?hg (N := 3) ?hd (cs := #[.int .i64 a1_0, .int .i64 a1_1, .slice A1_2 l1_2.length c1_2, .slice A1_3 l1_3.length c1_3, .bool a1_4, .bool a1_5, .bool a1_6]) (t := 28) ?hr ?_; (case hd => rfl); (case hg => rfl); (case hr => first | (go_simp; done) | (go_simp; rfl)); intro gb120 hg w22 hbox hb; have n0_ := ak (blk_below (by (with_reducible repeat first | apply kn_ | apply kd_ | apply ka_); exact BK119.out) hb); have n1_ := ak (below_step (by repeat (first | (with_reducible first | exact HB.out | apply ba_ | apply bn_ | apply b1_ | refine bs_ ?_ GE119.out) | exact HB.out)) hb); have n2_ := ak (hbox); have n3_ := ak ((by rw [hg]; exact (below_size (by repeat (first | (with_reducible first | exact HB.out | apply ba_ | apply bn_ | apply b1_ | refine bs_ ?_ GE119.out) | exact HB.out))) : w.heap.size ≤ gb120)); have n4_ := n3_; have n5_ := ak ((by rw [hg]; exact Nat.ne_of_lt (blk_lt (g := gb119) (o := .cells #[.slice A0_0 l0_0.length c0_0, .slice A0_1 l0_1.length c0_1] 25 (0, 0)) (by (with_reducible repeat first | apply kn_ | apply kd_ | apply ka_); exact BK119.out)) : gb119 ≠ gb120)); have n6_ := ak ((by rw [hg]; exact Nat.ne_of_gt (blk_lt (g := gb119) (o := .cells #[.slice A0_0 l0_0.length c0_0, .slice A0_1 l0_1.length c0_1] 25 (0, 0)) (by (with_reducible repeat first | apply kn_ | apply kd_ | apply ka_); exact BK119.out)) : gb120 ≠ gb119)); clear BK119 HB; have BK119 := n0_; have HB := n1_; have BK120 := n2_; have GW120 := n3_; have GE120 := n4_; have NB119_120 := n5_; have NB120_119 := n6_; clear n0_ n1_ n2_ n3_ n4_ n5_ n6_ hb hbox hg; have hnb23 := NB120_119.out; have hnc23 := NB119_120.out; obtain ⟨z24_0, z24_1, z24_2, z24_3, z24_4, z24_5, z24_6, f24_0, f24_1, f24_2, f24_3, f24_4, f24_5, f24_6⟩ := kk7 BK120.out; obtain ⟨z25_0, z25_1, f25_0, f25_1⟩ := kk2 BK119.out))
  go_ret
  exact ⟨by first | rfl | (simp [errW_none, errW_some] <;> rfl) | (simp [*, errW_none, errW_some] <;> rfl) | (simp [Int.tdiv_eq_ediv_of_nonneg]; done), by repeat (first | (with_reducible first | exact HB.out | apply ba_ | apply bn_ | apply b1_ | refine bs_ ?_ GE119.out | refine bs_ ?_ GE120.out) | exact HB.out)⟩
 rw [if_neg c20] at H
 have c20b0 : (a1_0 == 2) = false := beq_eq_false_iff_ne.mpr c20
 have c20b1 : (a1_0 != 2) = true := bne_iff_ne.mpr c20
 by_cases c26 : a1_0 = 3; rotate_left
 ·rw [if_neg c26] at H
  have c26b0 : (a1_0 == 3) = false := beq_eq_false_iff_ne.mpr c26
  have c26b1 : (a1_0 != 3) = true := bne_iff_ne.mpr c26
  obtain rfl := Option.some.inj H
  go_enter Try.func43, Try.ntmps43
  go_wp2_with (first | ((with_reducible refine gate_dst (N := 2) rfl ?_); refine box_event ?hg (N := 2) ?hd (cs := #[.slice A0_0 l0_0.length c0_0, .slice A0_1 l0_1.length c0_1]) (t := 25) ?hr ?_; (case hd => rfl); (case hg => rfl); (case hr => first | (go_simp; done) | (go_simp; rfl)); intro gb119 hg w31 hbox hb; have n0_ := ak (below_step (by repeat (first | (with_reducible first | exact HB.out | apply ba_ | apply bn_ | apply b1_) | exact HB.out)) hb); have n1_ := ak (hbox); have n2_ := ak ((by rw [hg]; exact (below_size (by repeat (first | (with_reducible first | exact HB.out | apply ba_ | apply bn_ | apply b1_) | exact HB.out))) : w.heap.size ≤ gb119)); have n3_ := n2_; clear HB; have HB := n0_; have BK119 := n1_; have GW119 := n2_; have GE119 := n3_; clear n0_ n1_ n2_ n3_ hb hbox hg) | ((with_reducible refine gate_dst (N := 3) rfl ?_); refine box_event ?hg (N := 3) ?hd (cs := #[.int .i64 a1_0, .int .i64 a1_1, .slice A1_2 l1_2.length c1_2, .slice A1_3 l1_3.length c1_3, .bool a1_4, .bool a1_5, .bool a1_6]) (t := 28) ?hr ?_; (case hd => rfl); (case hg => rfl); (case hr => first | (go_simp; done) | (go_simp; rfl)); intro gb120 hg w32 hbox hb; have n0_ := ak (blk_below (by (with_reducible repeat first | apply kn_ | apply kd_ | apply ka_); exact BK119.out) hb); have n1_ := ak (below_step (by repeat (first | (with_reducible first | exact HB.out | apply ba_ | apply bn_ | apply b1_ | refine bs_ ?_ GE119.out) | exact HB.out)) hb); have n2_ := ak (hbox); have n3_ := ak ((by rw [hg]; exact (below_size (by repeat (first | (with_reducible first | exact HB.out | apply ba_ | apply bn_ | apply b1_ | refine bs_ ?_ GE119.out) | exact HB.out))) : w.heap.size ≤ gb120)); have n4_ := n3_; have n5_ := ak ((by rw [hg]; exact Nat.ne_of_lt (blk_lt (g := gb119) (o := .cells #[.slice A0_0 l0_0.length c0_0, .slice A0_1 l0_1.length c0_1] 25 (0, 0)) (by (with_reducible repeat first | apply kn_ | apply kd_ | apply ka_); exact BK119.out)) : gb119 ≠ gb120)); have n6_ := ak ((by rw [hg]; exact Nat.ne_of_gt (blk_lt (g := gb119) (o := .cells #[.slice A0_0 l0_0.length c0_0, .slice A0_1 l0_1.length c0_1] 25 (0, 0)) (by (with_reducible repeat first | apply kn_ | apply kd_ | apply ka_); exact BK119.out)) : gb120 ≠ gb119)); clear BK119 HB; have BK119 := n0_; have HB := n1_; have BK120 := n2_; have GW120 := n3_; have GE120 := n4_; have NB119_120 := n5_; have NB120_119 := n6_; clear n0_ n1_ n2_ n3_ n4_ n5_ n6_ hb hbox hg; have hnb33 := NB120_119.out; have hnc33 := NB119_120.out; obtain ⟨z34_0, z34_1, z34_2, z34_3, z34_4, z34_5, z34_6, f34_0, f34_1, f34_2, f34_3, f34_4, f34_5, f34_6⟩ := kk7 BK120.out))
  go_ret
  exact ⟨by first | rfl | (simp [errW_none, errW_some] <;> rfl) | (simp [*, errW_none, errW_some] <;> rfl) | (simp [Int.tdiv_eq_ediv_of_nonneg]; done), by repeat (first | (with_reducible first | exact HB.out | apply ba_ | apply bn_ | apply b1_ | refine bs_ ?_ GE119.out | refine bs_ ?_ GE120.out) | exact HB.out)⟩
 rw [if_pos c26] at H
 have c26b0 : (a1_0 == 3) = true := beq_iff_eq.mpr c26
 have c26b1 : (a1_0 != 3) = false := bne_eq_false_iff_eq.mpr c26
 clear c26
 obtain rfl := Option.some.inj H
 go_enter Try.func43, Try.ntmps43
 go_wp2_with (first | ((with_reducible refine gate_dst (N := 2) rfl ?_); refine box_event ?hg (N := 2) ?hd (cs := #[.slice A0_0 l0_0.length c0_0, .slice A0_1 l0_1.length c0_1]) (t := 25) ?hr ?_; (case hd => rfl); (case hg => rfl); (case hr => first | (go_simp; done) | (go_simp; rfl)); intro gb119 hg w27 hbox hb; have n0_ := ak (below_step (by repeat (first | (with_reducible first | exact HB.out | apply ba_ | apply bn_ | apply b1_) | exact HB.out)) hb); have n1_ := ak (hbox); have n2_ := ak ((by rw [hg]; exact (below_size (by repeat (first | (with_reducible first | exact HB.out | apply ba_ | apply bn_ | apply b1_) | exact HB.out))) : w.heap.size ≤ gb119)); have n3_ := n2_; clear HB; have HB := n0_; have BK119 := n1_; have GW119 := n2_; have GE119 := n3_; clear n0_ n1_ n2_ n3_ hb hbox hg) | ((with_reducible refine gate_dst (N := 3) rfl ?_); refine box_event ?hg (N := 3) ?hd (cs := #[.int .i64 a1_0, .int .i64 a1_1, .slice A1_2 l1_2.length c1_2, .slice A1_3 l1_3.length c1_3, .bool a1_4, .bool a1_5, .bool a1_6]) (t := 28) ?hr ?_; (case hd => rfl); (case hg => rfl); (case hr => first | (go_simp; done) | (go_simp; rfl)); intro gb120 hg w28 hbox hb; have n0_ := ak (blk_below (by (with_reducible repeat first | apply kn_ | apply kd_ | apply ka_); exact BK119.out) hb); have n1_ := ak (below_step (by repeat (first | (with_reducible first | exact HB.out | apply ba_ | apply bn_ | apply b1_ | refine bs_ ?_ GE119.out) | exact HB.out)) hb); have n2_ := ak (hbox); have n3_ := ak ((by rw [hg]; exact (below_size (by repeat (first | (with_reducible first | exact HB.out | apply ba_ | apply bn_ | apply b1_ | refine bs_ ?_ GE119.out) | exact HB.out))) : w.heap.size ≤ gb120)); have n4_ := n3_; have n5_ := ak ((by rw [hg]; exact Nat.ne_of_lt (blk_lt (g := gb119) (o := .cells #[.slice A0_0 l0_0.length c0_0, .slice A0_1 l0_1.length c0_1] 25 (0, 0)) (by (with_reducible repeat first | apply kn_ | apply kd_ | apply ka_); exact BK119.out)) : gb119 ≠ gb120)); have n6_ := ak ((by rw [hg]; exact Nat.ne_of_gt (blk_lt (g := gb119) (o := .cells #[.slice A0_0 l0_0.length c0_0, .slice A0_1 l0_1.length c0_1] 25 (0, 0)) (by (with_reducible repeat first | apply kn_ | apply kd_ | apply ka_); exact BK119.out)) : gb120 ≠ gb119)); clear BK119 HB; have BK119 := n0_; have HB := n1_; have BK120 := n2_; have GW120 := n3_; have GE120 := n4_; have NB119_120 := n5_; have NB120_119 := n6_; clear n0_ n1_ n2_ n3_ n4_ n5_ n6_ hb hbox hg; have hnb29 := NB120_119.out; have hnc29 := NB119_120.out; obtain ⟨z30_0, z30_1, z30_2, z30_3, z30_4, z30_5, z30_6, f30_0, f30_1, f30_2, f30_3, f30_4, f30_5, f30_6⟩ := kk7 BK120.out))
 go_ret
 exact ⟨by first | rfl | (simp [errW_none, errW_some] <;> rfl) | (simp [*, errW_none, errW_some] <;> rfl) | (simp [Int.tdiv_eq_ediv_of_nonneg]; done), by repeat (first | (with_reducible first | exact HB.out | apply ba_ | apply bn_ | apply b1_ | refine bs_ ?_ GE119.out | refine bs_ ?_ GE120.out) | exact HB.out)⟩
/-! ### mark_Check: function 18 -/
theorem int_info : (Try.prog.info? 3).map (fun i => (i.zero, i.size, i.bytes)) = some (some (.int .i64 0), (Kd.int .i64).sz, 8) := by kernel_rfl
/-! #### a region that draws, walked in the order of its text: what came up stands in front -/
section
variable {P : Program} {ops : Array Oper} {Q : Exit → Act → World → Prop} {md : Region.Mode} {S : World → Prop} {ds : List Nat}
def preL (n i : Nat) : Array Bool := (List.replicate i true ++ List.replicate (n - i) false).toArray
theorem startL {id n : Nat} {a : Act} {w : World} (hm : P.follows .mixedOrders = true) (hn : ops.size = n) (hS : S w.drew)
  (h : S w.drew → wpAnyLast P .any ops Q S ds n (preL n 0) a w.drew) : (Code.region id ops true).wp P Q a w :=
 start_ (preL n 0) hm hn (by simp [preL]) hS h
theorem pureL {n i : Nat} {N : Option Tmp} {oi : Oper} {v : Value} {fuel : Nat} {a : Act} {w : World} (hi : ops[i]? = some oi) (hN : oi.dst = N) (hc : anyB md ops (preL n i) (preL n (i + 1)) i = true)
  (hQ : ∀ c a w, Q (.panic c) (a.put oi.dst v) w → Q (.panic c) a w) (hw : Region.wanted oi (yielded ops a.tmps) = true) (hy : ∀ w, (execOp a.eval oi).run P w = .ok (.value v) w) {a' : Act} (ha : a.put N v = a')
  (h : wpAnyLast P md ops Q S ds fuel (preL n (i + 1)) a' w) : wpAnyLast P md ops Q S ds (fuel + 1) (preL n i) a w :=
 pure_ _ hi hN hc hQ (.inl ⟨hw, hy⟩) ha h
theorem offL {n i : Nat} {N : Option Tmp} {oi : Oper} {fuel : Nat} {a : Act} {w : World} (hi : ops[i]? = some oi) (hN : oi.dst = N) (hc : anyB md ops (preL n i) (preL n (i + 1)) i = true)
  (hQ : ∀ c a w, Q (.panic c) (a.put oi.dst undef) w → Q (.panic c) a w) (hw : Region.wanted oi (yielded ops a.tmps) = false) {a' : Act} (ha : a.put N undef = a')
  (h : wpAnyLast P md ops Q S ds fuel (preL n (i + 1)) a' w) : wpAnyLast P md ops Q S ds (fuel + 1) (preL n i) a w :=
 pure_ _ hi hN hc hQ (.inr ⟨hw, rfl⟩) ha h
theorem takeL {n i : Nat} {N : Option Tmp} {oi : Oper} {v : Value} {fuel : Nat} {a : Act} {w : World} (hi : ops[i]? = some oi) (hN : oi.dst = N) (hc : takeB md ops ds (preL n i) (preL n (i + 1)) i = true)
  (hQ : ∀ c a w, Q (.panic c) (a.put oi.dst v) w → Q (.panic c) a w) (hS : S w) (hw : Region.wanted oi (yielded ops a.tmps) = true) (hy : ∀ w, S w → (execOp a.eval oi).run P w = .ok (.value v) w) {a' : Act} (ha : a.put N v = a')
  (h : wpAnyLast P md ops Q S ds fuel (preL n (i + 1)) a' w) : wpAnyLast P md ops Q S ds (fuel + 1) (preL n i) a w :=
 take_ _ hi hN hc hQ (.inl ⟨hw, hy⟩) hS ha h
theorem doneL {n i : Nat} {fuel : Nat} {a : Act} {w : World} (hr : (Region.ready md ops (preL n i) == []) = true) (h : Q .normal a w) : wpAnyLast P md ops Q S ds fuel (preL n i) a w := done_ hr h
end
section
variable {P : Program} {ops : Array Oper} {Q : Exit → Act → World → Prop} {md : Region.Mode} {S : World → Prop} {ds : List Nat}
theorem oneL {n i : Nat} {N : Option Tmp} {oi : Oper} {fuel : Nat} {a : Act} {w : World} (hi : ops[i]? = some oi) (hN : oi.dst = N) (hc : readyB md ops (preL n i) (preL n (i + 1)) i = true) (hd : i ∉ ds)
  (h : ∀ K : Act → World → Prop, Shut (∀ a' w', S w' → (S w' → wpAnyLast P md ops Q S ds fuel (preL n (i + 1)) a' w') → K a' w') → if Region.wanted oi (yielded ops a.tmps) = true then Oper.wp P oi a w K Q else K (a.put N undef) w) :
  wpAnyLast P md ops Q S ds (fuel + 1) (preL n i) a w := one_ _ hi hN hc hd h
end
def furth (lc : List S56) (lr : List Int) (ph : Int) (sc : Bool) : Int := if ph = 0 then (lr.length : Int) else if ph = 1 then (if sc = true then (lc.length : Int) else 0) else if ph = 2 then (lc.length : Int) else if ph = 3 then 0 else -1
def chkBad (lc : List S56) (lr : List Int) (room ph at_ : Int) (m : List Bool) (st : List Int) (sc : Bool) : Bool :=
 decide (at_ < 0) || decide (furth lc lr ph sc < at_) || decide (m.length ≠ lc.length) || decide (room < (st.length : Int)) || (decide (ph = 2 ∨ ph = 3) && decide (0 < st.length)) || (sc && decide (ph ≠ 1))
def chkMarks (lc : List S56) : List Bool → Nat → Bool
 | [], _ => false
 | b :: m, j => (b && decide ((rd_T56 lc (j : Int)).f0 = 0)) || chkMarks lc m (j + 1)
def isThere (lc : List S56) (i : Int) : Bool := decide (0 ≤ i ∧ i < (lc.length : Int) ∧ (rd_T56 lc i).f0 ≠ 0)
/-- From the stack's j-th on: is one of them no cell, not marked, or there before. -/
def chkStack (lc : List S56) (m : List Bool) (st : List Int) : List Int → Nat → Bool
 | [], _ => false
 | i :: l, j => (!isThere lc i || !rdOf false m i || (st.take j).contains i) || chkStack lc m st l (j + 1)
def chkRest (lc : List S56) (lr : List Int) (room ph at_ : Int) (m : List Bool) (st : List Int) (sc : Bool) : Int :=
 if chkBad lc lr room ph at_ m st sc = true then 191 else if chkMarks lc m 0 = true then 191 else if chkStack lc m st st 0 = true then 191 else 0
def mark_Check.f (k : Nat) (lc : List S56) (lr : List Int) (room ph at_ : Int) (m : List Bool) (st : List Int) (ov ag sc : Bool) : Option Int :=
 (mark_New.f k lc lr room).bind fun q => if q.2.2.2.2.2.2.2 = 0 then some (chkRest lc lr room ph at_ m st sc) else some q.2.2.2.2.2.2.2
theorem mark_Check.mono : ∀ a0 a1 a2 a3 a4 a5 a6 a7 a8 a9 k, LeO (mark_Check.f k a0 a1 a2 a3 a4 a5 a6 a7 a8 a9) (mark_Check.f (k + 1) a0 a1 a2 a3 a4 a5 a6 a7 a8 a9) :=
 fun _ _ _ _ _ _ _ _ _ _ k => LeO.bind (mark_New.mono _ _ _ k) (fun _ => LeO.refl _)
theorem index_at (st : List Int) (hst : st.length ≤ 9223372036854775807) (a : Int) : ∀ (m j k : Nat), j + m = st.length → m < k → ∃ t, slices_Index_int_int.l0 k st a (st.length : Int) (j : Int) = some t ∧ decide (t ≥ 0) = (st.drop j).contains a
 | 0, j, k, hj, hk => by
  obtain ⟨k, rfl⟩ : ∃ k', k = k' + 1 := ⟨k - 1, by omega⟩
  refine ⟨-1, by rw [slices_Index_int_int.l0, if_neg (by omega)], ?_⟩
  rw [List.drop_eq_nil_of_le (by omega)]; rfl
 | m + 1, j, k, hj, hk => by
  obtain ⟨k, rfl⟩ : ∃ k', k = k' + 1 := ⟨k - 1, by omega⟩
  have hlt : j < st.length := by omega
  obtain ⟨t, h1, h2⟩ := index_at st hst a m (j + 1) k (by omega) (by omega)
  by_cases h : a = rd st (j : Int)
  ·refine ⟨j, by rw [slices_Index_int_int.l0, if_pos (by omega), if_pos (by omega), if_pos (by omega), if_pos h], ?_⟩
   rw [List.drop_eq_getElem_cons hlt, List.contains_cons, show st[j] = rd st (j : Int) from by simp [rd, hlt], ← h]
   simp
  refine ⟨t, ?_, ?_⟩
  ·rw [slices_Index_int_int.l0, if_pos (by omega), if_pos (by omega), if_pos (by omega), if_neg h, show wrap64 ((j : Int) + 1) = ((j + 1 : Nat) : Int) from by unfold wrap64; omega]
   exact h1
  ·rw [h2, List.drop_eq_getElem_cons hlt, List.contains_cons, show st[j] = rd st (j : Int) from by simp [rd, hlt], beq_eq_false_iff_ne.2 h, Bool.false_or]
theorem contains_at (st : List Int) (hst : st.length ≤ 9223372036854775807) (a : Int) : slices_Contains_int_int.f (st.length + 1) st a = some (st.contains a) := by
 obtain ⟨t, h1, h2⟩ := index_at st hst a st.length 0 (st.length + 1) (by omega) (by omega)
 unfold slices_Contains_int_int.f slices_Index_int_int.f
 have h1' : slices_Index_int_int.l0 (st.length + 1) st a (st.length : Int) 0 = some t := h1
 rw [h1', Option.bind_some, h2, List.drop_zero]
theorem there_at (lc : List S56) (lr : List Int) (i : Int) : mark_there.f lc lr i = some (isThere lc i) := by
 unfold mark_there.f isThere
 by_cases h0 : 0 ≤ i; rotate_left
 ·rw [if_neg (by omega)]; simp [h0]
 by_cases h1 : i < (lc.length : Int)
 ·rw [if_pos h0, if_pos h1, if_pos h0]
  by_cases h2 : (rd_T56 lc i).f0 = 0; rotate_left
  ·simp [h0, h1, h2]
  rw [h2]; simp
 ·rw [if_pos h0, if_neg h1]; simp [h1]
theorem furth_at (lc : List S56) (lr : List Int) (ph at_ : Int) (m : List Bool) (st : List Int) (ov ag sc : Bool) : mark_furthest.f lc lr ph at_ m st ov ag sc = some (furth lc lr ph sc) := by
 unfold mark_furthest.f furth
 repeat (first | rfl | split)
set_option maxHeartbeats 8000000 in
set_option maxRecDepth 100000 in
theorem mark_Check.calls (k : Nat) (A0 : Option Addr) (c0 : Nat) (lc : List S56) (A1 : Option Addr) (c1 : Nat) (lr : List Int) (room ph at_ : Int) (A2 : Option Addr) (c2 : Nat) (m : List Bool) (A3 : Option Addr) (c3 : Nat) (st : List Int) (ov ag sc : Bool) (r : Int) (w : World)
  (hr0 : Kd.C k56 w A0 lc.length lc) (hc0 : lc.length ≤ c0) (hr1 : Kd.C (Kd.int .i64) w A1 lr.length lr) (hc1 : lr.length ≤ c1) (hr2 : Kd.C Kd.bool w A2 m.length m) (hc2 : m.length ≤ c2) (hr3 : Kd.C (Kd.int .i64) w A3 st.length st) (hc3 : st.length ≤ c3)
  (h : mark_Check.f k lc lr room ph at_ m st ov ag sc = some r) :
  Calls Try.prog 18 #[.agg #[.slice A0 lc.length c0, .slice A1 lr.length c1], .int .i64 room, .agg #[.int .i64 ph, .int .i64 at_, .slice A2 m.length c2, .slice A3 st.length c3, .bool ov, .bool ag, .bool sc]] w fun e w' => e = .returned (.int .i64 r) ∧ Below w.heap.size w w' := by
 have hu25 := Try.underlying25
 have hu28 := Try.underlying28
 obtain ⟨⟨p1, p2, p3, p4, p5, p6, p7, er⟩, hq, h⟩ := Option.bind_eq_some_iff.1 h
 have HN := ak (fun wd (hd : Below w.heap.size w wd) => mark_New.calls k A0 c0 lc A1 c1 lr room p1 p2 p3 p4 p5 p6 p7 er wd (Kd.C_below hr0 hd) hc0 (Kd.C_below hr1 hd) hc1 hq)
 have HFu := ak (fun wd (hd : Below w.heap.size w wd) => mark_furthest.calls A0 c0 lc A1 c1 lr ph at_ A2 c2 m A3 c3 st ov ag sc _ wd (Kd.C_below hr0 hd) hc0 (Kd.C_below hr1 hd) hc1 (Kd.C_below hr2 hd) hc2 (Kd.C_below hr3 hd) hc3 (furth_at lc lr ph at_ m st ov ag sc))
 have HR0 := ak hr0
 have HR1 := ak hr1
 have HR2 := ak hr2
 have HR3 := ak hr3
 have HC0 := ak hc0
 have HC1 := ak hc1
 have HC3 := ak hc3
 have HB := ak (Below.refl w.heap.size w)
 have l0 : lc.length ≤ 9223372036854775807 := hr0.2.1
 have l1 : lr.length ≤ 9223372036854775807 := hr1.2.1
 have l2 : m.length ≤ 9223372036854775807 := hr2.2.1
 have l3 : st.length ≤ 9223372036854775807 := hr3.2.1
 clear hr0 hr1 hr2 hr3 hq hc0 hc1 hc2 hc3
 by_cases he : er = 0; rotate_left
 ·rw [if_neg he] at h
  cases h
  have heb : (er != 0) = true := bne_iff_ne.2 he
  clear he
  go_enter Try.func18, Try.ntmps18
  go_wp2_with (first | ((with_reducible refine gate_dst (N := 3) rfl ?_); refine box_event ?hg (N := 3) ?hd (cs := #[.slice A0 lc.length c0, .slice A1 lr.length c1]) (t := 25) ?hr ?_; (case hd => rfl); (case hg => rfl); (case hr => first | (go_simp; done) | (go_simp; rfl)); intro gb hg w1 hb1 hx1; have HB1 := ak hx1; have BK := ak hb1; clear hg hb1 hx1; have q0 : w1.cell? ⟨gb, 0, none⟩ = some (.slice A0 lc.length c0) := (blk_cell BK.out 0).trans rfl; have q1 : w1.cell? ⟨gb, 1, none⟩ = some (.slice A1 lr.length c1) := (blk_cell BK.out 1).trans rfl) | ((with_reducible refine gate_dst (N := 5) rfl ?_); refine box_event ?hg (N := 5) ?hd (cs := #[.int .i64 ph, .int .i64 at_, .slice A2 m.length c2, .slice A3 st.length c3, .bool ov, .bool ag, .bool sc]) (t := 28) ?hr ?_; (case hd => rfl); (case hg => rfl); (case hr => first | (go_simp; done) | (go_simp; rfl)); intro gs hg w2 hb2 hx2; have HB2 := ak (HB1.out.trans (hx2.mono HB1.out.size)); have BK2 := ak (blk_below BK.out hx2); have BS := ak hb2; clear hg hb2 hx2 q0 q1; have q0 : w2.cell? ⟨gb, 0, none⟩ = some (.slice A0 lc.length c0) := (blk_cell BK2.out 0).trans rfl; have q1 : w2.cell? ⟨gb, 1, none⟩ = some (.slice A1 lr.length c1) := (blk_cell BK2.out 1).trans rfl) | (go_at_call 14; (with_reducible refine (HN.out _ HB2.out).mono ?_); rintro e w3 ⟨v2, v3, rfl, hv2, hv3, hb⟩; obtain ⟨Aa, ca, rfl⟩ := Kd.R_slice hv2; obtain ⟨Ab, cb, rfl⟩ := Kd.R_slice hv3; have HB3 := ak (HB2.out.trans (hb.mono HB2.out.size)); clear hv2 hv3 hb))
  go_ret
  exact ⟨rfl, below_alloc HB3.out _⟩
 rw [if_pos he] at h
 have HRR := ak (Option.some.inj h)
 clear h
 subst he
 go_enter Try.func18, Try.ntmps18
 go_upto_region 4 with (first | ((with_reducible refine gate_dst (N := 3) rfl ?_); refine box_event ?hg (N := 3) ?hd (cs := #[.slice A0 lc.length c0, .slice A1 lr.length c1]) (t := 25) ?hr ?_; (case hd => rfl); (case hg => rfl); (case hr => first | (go_simp; done) | (go_simp; rfl)); intro gb hg w1 hb1 hx1; have HB1 := ak hx1; have BK := ak hb1; clear hg hb1 hx1; have q0 : w1.cell? ⟨gb, 0, none⟩ = some (.slice A0 lc.length c0) := (blk_cell BK.out 0).trans rfl; have q1 : w1.cell? ⟨gb, 1, none⟩ = some (.slice A1 lr.length c1) := (blk_cell BK.out 1).trans rfl) | ((with_reducible refine gate_dst (N := 5) rfl ?_); refine box_event ?hg (N := 5) ?hd (cs := #[.int .i64 ph, .int .i64 at_, .slice A2 m.length c2, .slice A3 st.length c3, .bool ov, .bool ag, .bool sc]) (t := 28) ?hr ?_; (case hd => rfl); (case hg => rfl); (case hr => first | (go_simp; done) | (go_simp; rfl)); intro gs hg w2 hb2 hx2; have HB2 := ak (HB1.out.trans (hx2.mono HB1.out.size)); have BK2 := ak (blk_below BK.out hx2); have BS := ak hb2; clear hg hb2 hx2 q0 q1; have q0 : w2.cell? ⟨gb, 0, none⟩ = some (.slice A0 lc.length c0) := (blk_cell BK2.out 0).trans rfl; have q1 : w2.cell? ⟨gb, 1, none⟩ = some (.slice A1 lr.length c1) := (blk_cell BK2.out 1).trans rfl) | (go_at_call 14; (with_reducible refine (HN.out _ HB2.out).mono ?_); rintro e w3 ⟨v2, v3, rfl, hv2, hv3, hb⟩; obtain ⟨Aa, ca, rfl⟩ := Kd.R_slice hv2; obtain ⟨Ab, cb, rfl⟩ := Kd.R_slice hv3; have HB3 := ak (HB2.out.trans (hb.mono HB2.out.size)); have BK3 := ak (blk_below BK2.out hb); have BS3 := ak (blk_below BS.out hb); clear q0 q1 hv2 hv3 hb))
 (try simp only [Act.put, List.setIfInBounds_toArray, List.set_cons_zero, List.set_cons_succ])
 have HB4 := ak (below_alloc HB3.out (.cells #[.int .i64 p1, .int .i64 p2, .slice Aa p3.length ca, .slice Ab p4.length cb, .bool p5, .bool p6, .bool p7] 28))
 have BK4 := ak (blk_alloc BK3.out (.cells #[.int .i64 p1, .int .i64 p2, .slice Aa p3.length ca, .slice Ab p4.length cb, .bool p5, .bool p6, .bool p7] 28))
 have BS4 := ak (blk_alloc BS3.out (.cells #[.int .i64 p1, .int .i64 p2, .slice Aa p3.length ca, .slice Ab p4.length cb, .bool p5, .bool p6, .bool p7] 28))
 generalize w3.alloc (.cells #[.int .i64 p1, .int .i64 p2, .slice Aa p3.length ca, .slice Ab p4.length cb, .bool p5, .bool p6, .bool p7] 28) = w4 at HB4 BK4 BS4 ⊢
 clear HB1 HB2 HB3 BK BK2 BS BK3 BS3
 have q0 : w4.cell? ⟨gb, 0, none⟩ = some (.slice A0 lc.length c0) := (blk_cell BK4.out 0).trans rfl
 have q1 : w4.cell? ⟨gb, 1, none⟩ = some (.slice A1 lr.length c1) := (blk_cell BK4.out 1).trans rfl
 have s0 : w4.cell? ⟨gs, 0, none⟩ = some (.int .i64 ph) := (blk_cell BS4.out 0).trans rfl
 have s1 : w4.cell? ⟨gs, 1, none⟩ = some (.int .i64 at_) := (blk_cell BS4.out 1).trans rfl
 have s2 : w4.cell? ⟨gs, 2, none⟩ = some (.slice A2 m.length c2) := (blk_cell BS4.out 2).trans rfl
 have s3 : w4.cell? ⟨gs, 3, none⟩ = some (.slice A3 st.length c3) := (blk_cell BS4.out 3).trans rfl
 have s4 : w4.cell? ⟨gs, 4, none⟩ = some (.bool ov) := (blk_cell BS4.out 4).trans rfl
 have s5 : w4.cell? ⟨gs, 5, none⟩ = some (.bool ag) := (blk_cell BS4.out 5).trans rfl
 have s6 : w4.cell? ⟨gs, 6, none⟩ = some (.bool sc) := (blk_cell BS4.out 6).trans rfl
 go_cut [9] (fun v9 wx => v9 = .bool (decide (ph = 2 ∨ ph = 3)) ∧ w4 = wx)
 case first =>
  by_cases h2 : ph = 2
  ·have h2b : (ph == 2) = true := beq_iff_eq.2 h2
   go_wp2
   go_meet
   case rel => exact ⟨by simp [h2], rfl⟩
  have h2b : (ph == 2) = false := beq_eq_false_iff_ne.2 h2
  by_cases h3 : ph = 3; rotate_left
  ·have h3b : (ph == 3) = false := beq_eq_false_iff_ne.2 h3
   go_wp2
   go_meet
   case rel => exact ⟨by simp [h2, h3], rfl⟩
  have h3b : (ph == 3) = true := beq_iff_eq.2 h3
  go_wp2
  go_meet
  case rel => exact ⟨by simp [h3], rfl⟩
 case rest =>
  obtain ⟨rfl, rfl⟩ := hcut
  generalize hid : decide (ph = 2 ∨ ph = 3) = idl
  have HID := ak hid
  clear hid
  go_upto_region 5 with (fail)
  go_cut [75] (fun v75 wx => v75 = .bool (chkBad lc lr room ph at_ m st sc) ∧ Aside0 (wx.heap[gb]? = some (.cells #[.slice A0 lc.length c0, .slice A1 lr.length c1] 25 (0, 0))) ∧ Aside0 (wx.heap[gs]? = some (.cells #[.int .i64 ph, .int .i64 at_, .slice A2 m.length c2, .slice A3 st.length c3, .bool ov, .bool ag, .bool sc] 28 (0, 0))) ∧ Aside0 (Below w.heap.size w wx))
  case first =>
   refine startL (n := 45) (S := (fun w' => w'.cell? ⟨gb, 0, none⟩ = some (.slice A0 lc.length c0) ∧ w'.cell? ⟨gb, 1, none⟩ = some (.slice A1 lr.length c1) ∧ w'.cell? ⟨gs, 0, none⟩ = some (.int .i64 ph) ∧ w'.cell? ⟨gs, 1, none⟩ = some (.int .i64 at_) ∧ w'.cell? ⟨gs, 2, none⟩ = some (.slice A2 m.length c2) ∧ w'.cell? ⟨gs, 3, none⟩ = some (.slice A3 st.length c3) ∧ w'.cell? ⟨gs, 4, none⟩ = some (.bool ov) ∧ w'.cell? ⟨gs, 5, none⟩ = some (.bool ag) ∧ w'.cell? ⟨gs, 6, none⟩ = some (.bool sc))) (ds := []) (by kernel_rfl) rfl ⟨q0, q1, s0, s1, s2, s3, s4, s5, s6⟩ (fun hHeld => ?_)
   have HB5 := ak (below_drew HB4.out)
   have BK5 := ak (blk_drew BK4.out)
   have BS5 := ak (blk_drew BS4.out)
   clear HB4 BK4 BS4 q0 q1 s0 s1 s2 s3 s4 s5 s6
   generalize w4.drew = w5 at hHeld HB5 BK5 BS5 ⊢
   (refine pureL (N := some _) rfl rfl (by kernel_rfl) (fun _ _ _ h => h) (by rfl) (v := ?_) (a' := ?_) ?_ ?_ ?_; rotate_left; (intro w'; go_simp; with_reducible rfl); rotate_left; (simp only [Act.put, sq0, sq1, sq2, sq3, sq4]; rfl))
   (refine takeL (N := some _) rfl rfl (by kernel_rfl) (fun _ _ _ h => h) hHeld (by rfl) (v := ?_) (a' := ?_) ?_ ?_ ?_; rotate_left; (rintro w' ⟨z0, z1, z2, z3, z4, z5, z6, z7, z8⟩; go_simp; with_reducible rfl); rotate_left; (simp only [Act.put, sq0, sq1, sq2, sq3, sq4]; rfl))
   by_cases h1 : at_ < 0
   ·have b1 : decide (at_ < 0) = true := decide_eq_true h1
    have HY : Aside0 (chkBad lc lr room ph at_ m st sc = true) := ⟨by simp [chkBad, h1]⟩
    iterate 2 (refine pureL (N := some _) rfl rfl (by kernel_rfl) (fun _ _ _ h => h) (by rfl) (v := ?_) (a' := ?_) ?_ ?_ ?_; rotate_left; (intro w'; go_simp; with_reducible rfl); rotate_left; (simp only [Act.put, sq0, sq1, sq2, sq3, sq4]; rfl))
    iterate 6 (refine offL (N := some _) rfl rfl (by kernel_rfl) (fun _ _ _ h => h) (by rfl) (a' := ?_) ?_ ?_; rotate_left; (simp only [Act.put, sq0, sq1, sq2, sq3, sq4]; rfl))
    iterate 2 (refine pureL (N := some _) rfl rfl (by kernel_rfl) (fun _ _ _ h => h) (by rfl) (v := ?_) (a' := ?_) ?_ ?_ ?_; rotate_left; (intro w'; go_simp; with_reducible rfl); rotate_left; (simp only [Act.put, sq0, sq1, sq2, sq3, sq4]; rfl))
    iterate 7 (refine offL (N := some _) rfl rfl (by kernel_rfl) (fun _ _ _ h => h) (by rfl) (a' := ?_) ?_ ?_; rotate_left; (simp only [Act.put, sq0, sq1, sq2, sq3, sq4]; rfl))
    iterate 2 (refine pureL (N := some _) rfl rfl (by kernel_rfl) (fun _ _ _ h => h) (by rfl) (v := ?_) (a' := ?_) ?_ ?_ ?_; rotate_left; (intro w'; go_simp; with_reducible rfl); rotate_left; (simp only [Act.put, sq0, sq1, sq2, sq3, sq4]; rfl))
    iterate 5 (refine offL (N := some _) rfl rfl (by kernel_rfl) (fun _ _ _ h => h) (by rfl) (a' := ?_) ?_ ?_; rotate_left; (simp only [Act.put, sq0, sq1, sq2, sq3, sq4]; rfl))
    iterate 2 (refine pureL (N := some _) rfl rfl (by kernel_rfl) (fun _ _ _ h => h) (by rfl) (v := ?_) (a' := ?_) ?_ ?_ ?_; rotate_left; (intro w'; go_simp; with_reducible rfl); rotate_left; (simp only [Act.put, sq0, sq1, sq2, sq3, sq4]; rfl))
    iterate 7 (refine offL (N := some _) rfl rfl (by kernel_rfl) (fun _ _ _ h => h) (by rfl) (a' := ?_) ?_ ?_; rotate_left; (simp only [Act.put, sq0, sq1, sq2, sq3, sq4]; rfl))
    iterate 2 (refine pureL (N := some _) rfl rfl (by kernel_rfl) (fun _ _ _ h => h) (by rfl) (v := ?_) (a' := ?_) ?_ ?_ ?_; rotate_left; (intro w'; go_simp; with_reducible rfl); rotate_left; (simp only [Act.put, sq0, sq1, sq2, sq3, sq4]; rfl))
    iterate 7 (refine offL (N := some _) rfl rfl (by kernel_rfl) (fun _ _ _ h => h) (by rfl) (a' := ?_) ?_ ?_; rotate_left; (simp only [Act.put, sq0, sq1, sq2, sq3, sq4]; rfl))
    (refine pureL (N := some _) rfl rfl (by kernel_rfl) (fun _ _ _ h => h) (by rfl) (v := ?_) (a' := ?_) ?_ ?_ ?_; rotate_left; (intro w'; go_simp; with_reducible rfl); rotate_left; (simp only [Act.put, sq0, sq1, sq2, sq3, sq4]; rfl))
    refine doneL (by kernel_rfl) ?_
    go_wp2
    go_meet
    case rel => exact ⟨congrArg Value.bool HY.out.symm, BK5, BS5, HB5⟩
   have b1 : decide (at_ < 0) = false := decide_eq_false h1
   iterate 3 (refine pureL (N := some _) rfl rfl (by kernel_rfl) (fun _ _ _ h => h) (by rfl) (v := ?_) (a' := ?_) ?_ ?_ ?_; rotate_left; (intro w'; go_simp; with_reducible rfl); rotate_left; (simp only [Act.put, sq0, sq1, sq2, sq3, sq4]; rfl))
   iterate 3 (refine takeL (N := some _) rfl rfl (by kernel_rfl) (fun _ _ _ h => h) hHeld (by rfl) (v := ?_) (a' := ?_) ?_ ?_ ?_; rotate_left; (rintro w' ⟨z0, z1, z2, z3, z4, z5, z6, z7, z8⟩; go_simp; with_reducible rfl); rotate_left; (simp only [Act.put, sq0, sq1, sq2, sq3, sq4]; rfl))
   refine oneL (N := some 39) rfl rfl (by kernel_rfl) (by decide) (fun K hK => ?_)
   refine call_ 43 #[.agg #[.slice A0 lc.length c0, .slice A1 lr.length c1], .agg #[.int .i64 ph, .int .i64 at_, .slice A2 m.length c2, .slice A3 st.length c3, .bool ov, .bool ag, .bool sc]] (by rfl) rfl (by go_simp) ?_
   refine (HFu.out _ HB5.out).mono ?_
   rintro e w6 ⟨rfl, hb⟩
   refine ⟨_, rfl, ?_⟩
   have n1_ := ak (HB5.out.trans (hb.mono HB5.out.size))
   have n2_ := ak (blk_below BK5.out hb)
   have n3_ := ak (blk_below BS5.out hb)
   clear HB5 BK5 BS5 hHeld hb
   have HB5 := n1_
   have BK5 := n2_
   have BS5 := n3_
   clear n1_ n2_ n3_
   refine hK.out _ _ ⟨(blk_cell BK5.out 0).trans rfl, (blk_cell BK5.out 1).trans rfl, (blk_cell BS5.out 0).trans rfl, (blk_cell BS5.out 1).trans rfl, (blk_cell BS5.out 2).trans rfl, (blk_cell BS5.out 3).trans rfl, (blk_cell BS5.out 4).trans rfl, (blk_cell BS5.out 5).trans rfl, (blk_cell BS5.out 6).trans rfl⟩ (fun hHeld => ?_)
   clear hK K
   refine norm_ (a' := ?_) ?_ ?_; rotate_left; (simp only [Act.put, sq0, sq1, sq2, sq3, sq4]; rfl)
   by_cases h2 : furth lc lr ph sc < at_
   ·have b2 : decide (furth lc lr ph sc < at_) = true := decide_eq_true h2
    have HY : Aside0 (chkBad lc lr room ph at_ m st sc = true) := ⟨by simp [chkBad, h2]⟩
    iterate 3 (refine pureL (N := some _) rfl rfl (by kernel_rfl) (fun _ _ _ h => h) (by rfl) (v := ?_) (a' := ?_) ?_ ?_ ?_; rotate_left; (intro w'; go_simp; with_reducible rfl); rotate_left; (simp only [Act.put, sq0, sq1, sq2, sq3, sq4]; rfl))
    iterate 7 (refine offL (N := some _) rfl rfl (by kernel_rfl) (fun _ _ _ h => h) (by rfl) (a' := ?_) ?_ ?_; rotate_left; (simp only [Act.put, sq0, sq1, sq2, sq3, sq4]; rfl))
    iterate 2 (refine pureL (N := some _) rfl rfl (by kernel_rfl) (fun _ _ _ h => h) (by rfl) (v := ?_) (a' := ?_) ?_ ?_ ?_; rotate_left; (intro w'; go_simp; with_reducible rfl); rotate_left; (simp only [Act.put, sq0, sq1, sq2, sq3, sq4]; rfl))
    iterate 5 (refine offL (N := some _) rfl rfl (by kernel_rfl) (fun _ _ _ h => h) (by rfl) (a' := ?_) ?_ ?_; rotate_left; (simp only [Act.put, sq0, sq1, sq2, sq3, sq4]; rfl))
    iterate 2 (refine pureL (N := some _) rfl rfl (by kernel_rfl) (fun _ _ _ h => h) (by rfl) (v := ?_) (a' := ?_) ?_ ?_ ?_; rotate_left; (intro w'; go_simp; with_reducible rfl); rotate_left; (simp only [Act.put, sq0, sq1, sq2, sq3, sq4]; rfl))
    iterate 7 (refine offL (N := some _) rfl rfl (by kernel_rfl) (fun _ _ _ h => h) (by rfl) (a' := ?_) ?_ ?_; rotate_left; (simp only [Act.put, sq0, sq1, sq2, sq3, sq4]; rfl))
    iterate 2 (refine pureL (N := some _) rfl rfl (by kernel_rfl) (fun _ _ _ h => h) (by rfl) (v := ?_) (a' := ?_) ?_ ?_ ?_; rotate_left; (intro w'; go_simp; with_reducible rfl); rotate_left; (simp only [Act.put, sq0, sq1, sq2, sq3, sq4]; rfl))
    iterate 7 (refine offL (N := some _) rfl rfl (by kernel_rfl) (fun _ _ _ h => h) (by rfl) (a' := ?_) ?_ ?_; rotate_left; (simp only [Act.put, sq0, sq1, sq2, sq3, sq4]; rfl))
    (refine pureL (N := some _) rfl rfl (by kernel_rfl) (fun _ _ _ h => h) (by rfl) (v := ?_) (a' := ?_) ?_ ?_ ?_; rotate_left; (intro w'; go_simp; with_reducible rfl); rotate_left; (simp only [Act.put, sq0, sq1, sq2, sq3, sq4]; rfl))
    refine doneL (by kernel_rfl) ?_
    go_wp2
    go_meet
    case rel => exact ⟨congrArg Value.bool HY.out.symm, BK5, BS5, HB5⟩
   have b2 : decide (furth lc lr ph sc < at_) = false := decide_eq_false h2
   iterate 4 (refine pureL (N := some _) rfl rfl (by kernel_rfl) (fun _ _ _ h => h) (by rfl) (v := ?_) (a' := ?_) ?_ ?_ ?_; rotate_left; (intro w'; go_simp; with_reducible rfl); rotate_left; (simp only [Act.put, sq0, sq1, sq2, sq3, sq4]; rfl))
   (refine takeL (N := some _) rfl rfl (by kernel_rfl) (fun _ _ _ h => h) hHeld (by rfl) (v := ?_) (a' := ?_) ?_ ?_ ?_; rotate_left; (rintro w' ⟨z0, z1, z2, z3, z4, z5, z6, z7, z8⟩; go_simp; with_reducible rfl); rotate_left; (simp only [Act.put, sq0, sq1, sq2, sq3, sq4]; rfl))
   iterate 2 (refine pureL (N := some _) rfl rfl (by kernel_rfl) (fun _ _ _ h => h) (by rfl) (v := ?_) (a' := ?_) ?_ ?_ ?_; rotate_left; (intro w'; go_simp; with_reducible rfl); rotate_left; (simp only [Act.put, sq0, sq1, sq2, sq3, sq4]; rfl))
   (refine takeL (N := some _) rfl rfl (by kernel_rfl) (fun _ _ _ h => h) hHeld (by rfl) (v := ?_) (a' := ?_) ?_ ?_ ?_; rotate_left; (rintro w' ⟨z0, z1, z2, z3, z4, z5, z6, z7, z8⟩; go_simp; with_reducible rfl); rotate_left; (simp only [Act.put, sq0, sq1, sq2, sq3, sq4]; rfl))
   (refine pureL (N := some _) rfl rfl (by kernel_rfl) (fun _ _ _ h => h) (by rfl) (v := ?_) (a' := ?_) ?_ ?_ ?_; rotate_left; (intro w'; go_simp; with_reducible rfl); rotate_left; (simp only [Act.put, sq0, sq1, sq2, sq3, sq4]; rfl))
   by_cases h3 : m.length = lc.length; rotate_left
   ·have b3 : ((m.length : Int) != (lc.length : Int)) = true := bne_iff_ne.2 (by omega)
    have b3a : (m.length != lc.length) = true := bne_iff_ne.2 h3
    have b3b : (m.length == lc.length) = false := beq_eq_false_iff_ne.2 h3
    have b3c : ((m.length : Int) == (lc.length : Int)) = false := beq_eq_false_iff_ne.2 (by omega)
    have HY : Aside0 (chkBad lc lr room ph at_ m st sc = true) := ⟨by simp [chkBad, h3]⟩
    clear h3
    iterate 3 (refine pureL (N := some _) rfl rfl (by kernel_rfl) (fun _ _ _ h => h) (by rfl) (v := ?_) (a' := ?_) ?_ ?_ ?_; rotate_left; (intro w'; go_simp; with_reducible rfl); rotate_left; (simp only [Act.put, sq0, sq1, sq2, sq3, sq4]; rfl))
    iterate 5 (refine offL (N := some _) rfl rfl (by kernel_rfl) (fun _ _ _ h => h) (by rfl) (a' := ?_) ?_ ?_; rotate_left; (simp only [Act.put, sq0, sq1, sq2, sq3, sq4]; rfl))
    iterate 2 (refine pureL (N := some _) rfl rfl (by kernel_rfl) (fun _ _ _ h => h) (by rfl) (v := ?_) (a' := ?_) ?_ ?_ ?_; rotate_left; (intro w'; go_simp; with_reducible rfl); rotate_left; (simp only [Act.put, sq0, sq1, sq2, sq3, sq4]; rfl))
    iterate 7 (refine offL (N := some _) rfl rfl (by kernel_rfl) (fun _ _ _ h => h) (by rfl) (a' := ?_) ?_ ?_; rotate_left; (simp only [Act.put, sq0, sq1, sq2, sq3, sq4]; rfl))
    iterate 2 (refine pureL (N := some _) rfl rfl (by kernel_rfl) (fun _ _ _ h => h) (by rfl) (v := ?_) (a' := ?_) ?_ ?_ ?_; rotate_left; (intro w'; go_simp; with_reducible rfl); rotate_left; (simp only [Act.put, sq0, sq1, sq2, sq3, sq4]; rfl))
    iterate 7 (refine offL (N := some _) rfl rfl (by kernel_rfl) (fun _ _ _ h => h) (by rfl) (a' := ?_) ?_ ?_; rotate_left; (simp only [Act.put, sq0, sq1, sq2, sq3, sq4]; rfl))
    (refine pureL (N := some _) rfl rfl (by kernel_rfl) (fun _ _ _ h => h) (by rfl) (v := ?_) (a' := ?_) ?_ ?_ ?_; rotate_left; (intro w'; go_simp; with_reducible rfl); rotate_left; (simp only [Act.put, sq0, sq1, sq2, sq3, sq4]; rfl))
    refine doneL (by kernel_rfl) ?_
    go_wp2
    go_meet
    case rel => exact ⟨congrArg Value.bool HY.out.symm, BK5, BS5, HB5⟩
   have b3 : ((m.length : Int) != (lc.length : Int)) = false := bne_eq_false_iff_eq.2 (by omega)
   have b3a : (m.length != lc.length) = false := bne_eq_false_iff_eq.2 h3
   have b3b : (m.length == lc.length) = true := beq_iff_eq.2 h3
   have b3c : ((m.length : Int) == (lc.length : Int)) = true := beq_iff_eq.2 (by omega)
   have H3 := ak h3
   clear h3
   iterate 4 (refine pureL (N := some _) rfl rfl (by kernel_rfl) (fun _ _ _ h => h) (by rfl) (v := ?_) (a' := ?_) ?_ ?_ ?_; rotate_left; (intro w'; go_simp; with_reducible rfl); rotate_left; (simp only [Act.put, sq0, sq1, sq2, sq3, sq4]; rfl))
   (refine takeL (N := some _) rfl rfl (by kernel_rfl) (fun _ _ _ h => h) hHeld (by rfl) (v := ?_) (a' := ?_) ?_ ?_ ?_; rotate_left; (rintro w' ⟨z0, z1, z2, z3, z4, z5, z6, z7, z8⟩; go_simp; with_reducible rfl); rotate_left; (simp only [Act.put, sq0, sq1, sq2, sq3, sq4]; rfl))
   iterate 2 (refine pureL (N := some _) rfl rfl (by kernel_rfl) (fun _ _ _ h => h) (by rfl) (v := ?_) (a' := ?_) ?_ ?_ ?_; rotate_left; (intro w'; go_simp; with_reducible rfl); rotate_left; (simp only [Act.put, sq0, sq1, sq2, sq3, sq4]; rfl))
   by_cases h4 : room < (st.length : Int)
   ·have b4 : decide (room < (st.length : Int)) = true := decide_eq_true h4
    have HY : Aside0 (chkBad lc lr room ph at_ m st sc = true) := ⟨by simp [chkBad, h4]⟩
    iterate 3 (refine pureL (N := some _) rfl rfl (by kernel_rfl) (fun _ _ _ h => h) (by rfl) (v := ?_) (a' := ?_) ?_ ?_ ?_; rotate_left; (intro w'; go_simp; with_reducible rfl); rotate_left; (simp only [Act.put, sq0, sq1, sq2, sq3, sq4]; rfl))
    iterate 7 (refine offL (N := some _) rfl rfl (by kernel_rfl) (fun _ _ _ h => h) (by rfl) (a' := ?_) ?_ ?_; rotate_left; (simp only [Act.put, sq0, sq1, sq2, sq3, sq4]; rfl))
    iterate 2 (refine pureL (N := some _) rfl rfl (by kernel_rfl) (fun _ _ _ h => h) (by rfl) (v := ?_) (a' := ?_) ?_ ?_ ?_; rotate_left; (intro w'; go_simp; with_reducible rfl); rotate_left; (simp only [Act.put, sq0, sq1, sq2, sq3, sq4]; rfl))
    iterate 7 (refine offL (N := some _) rfl rfl (by kernel_rfl) (fun _ _ _ h => h) (by rfl) (a' := ?_) ?_ ?_; rotate_left; (simp only [Act.put, sq0, sq1, sq2, sq3, sq4]; rfl))
    (refine pureL (N := some _) rfl rfl (by kernel_rfl) (fun _ _ _ h => h) (by rfl) (v := ?_) (a' := ?_) ?_ ?_ ?_; rotate_left; (intro w'; go_simp; with_reducible rfl); rotate_left; (simp only [Act.put, sq0, sq1, sq2, sq3, sq4]; rfl))
    refine doneL (by kernel_rfl) ?_
    go_wp2
    go_meet
    case rel => exact ⟨congrArg Value.bool HY.out.symm, BK5, BS5, HB5⟩
   have b4 : decide (room < (st.length : Int)) = false := decide_eq_false h4
   iterate 3 (refine pureL (N := some _) rfl rfl (by kernel_rfl) (fun _ _ _ h => h) (by rfl) (v := ?_) (a' := ?_) ?_ ?_ ?_; rotate_left; (intro w'; go_simp; with_reducible rfl); rotate_left; (simp only [Act.put, sq0, sq1, sq2, sq3, sq4]; rfl))
   have hyes : ∀ b : Bool, (idl && decide (0 < st.length) || (sc && decide (ph ≠ 1))) = b → chkBad lc lr room ph at_ m st sc = b := fun b hb => by rw [← hb, chkBad, HID.out, b1, b2, b4]; simp [H3.out]
   have HYES := ak hyes
   clear hyes HID
   cases idl with
   | true =>
    iterate 3 (refine pureL (N := some _) rfl rfl (by kernel_rfl) (fun _ _ _ h => h) (by rfl) (v := ?_) (a' := ?_) ?_ ?_ ?_; rotate_left; (intro w'; go_simp; with_reducible rfl); rotate_left; (simp only [Act.put, sq0, sq1, sq2, sq3, sq4]; rfl))
    (refine takeL (N := some _) rfl rfl (by kernel_rfl) (fun _ _ _ h => h) hHeld (by rfl) (v := ?_) (a' := ?_) ?_ ?_ ?_; rotate_left; (rintro w' ⟨z0, z1, z2, z3, z4, z5, z6, z7, z8⟩; go_simp; with_reducible rfl); rotate_left; (simp only [Act.put, sq0, sq1, sq2, sq3, sq4]; rfl))
    (refine pureL (N := some _) rfl rfl (by kernel_rfl) (fun _ _ _ h => h) (by rfl) (v := ?_) (a' := ?_) ?_ ?_ ?_; rotate_left; (intro w'; go_simp; with_reducible rfl); rotate_left; (simp only [Act.put, sq0, sq1, sq2, sq3, sq4]; rfl))
    by_cases h5 : 0 < st.length
    ·have b5 : decide (0 < st.length) = true := decide_eq_true h5
     have b5' : decide ((0 : Int) < (st.length : Int)) = true := decide_eq_true (by omega)
     have HY : Aside0 (chkBad lc lr room ph at_ m st sc = true) := ⟨HYES.out true (by simp [h5])⟩
     iterate 4 (refine pureL (N := some _) rfl rfl (by kernel_rfl) (fun _ _ _ h => h) (by rfl) (v := ?_) (a' := ?_) ?_ ?_ ?_; rotate_left; (intro w'; go_simp; with_reducible rfl); rotate_left; (simp only [Act.put, sq0, sq1, sq2, sq3, sq4]; rfl))
     iterate 7 (refine offL (N := some _) rfl rfl (by kernel_rfl) (fun _ _ _ h => h) (by rfl) (a' := ?_) ?_ ?_; rotate_left; (simp only [Act.put, sq0, sq1, sq2, sq3, sq4]; rfl))
     (refine pureL (N := some _) rfl rfl (by kernel_rfl) (fun _ _ _ h => h) (by rfl) (v := ?_) (a' := ?_) ?_ ?_ ?_; rotate_left; (intro w'; go_simp; with_reducible rfl); rotate_left; (simp only [Act.put, sq0, sq1, sq2, sq3, sq4]; rfl))
     refine doneL (by kernel_rfl) ?_
     go_wp2
     go_meet
     case rel => exact ⟨congrArg Value.bool HY.out.symm, BK5, BS5, HB5⟩
    have b5 : decide (0 < st.length) = false := decide_eq_false h5
    have b5' : decide ((0 : Int) < (st.length : Int)) = false := decide_eq_false (by omega)
    have HYES2 : Aside0 (∀ b : Bool, (sc && decide (ph ≠ 1)) = b → chkBad lc lr room ph at_ m st sc = b) := ⟨fun b hb => HYES.out b (by rw [← hb]; simp [h5])⟩
    clear HYES
    have HYES := HYES2
    clear HYES2
    iterate 5 (refine pureL (N := some _) rfl rfl (by kernel_rfl) (fun _ _ _ h => h) (by rfl) (v := ?_) (a' := ?_) ?_ ?_ ?_; rotate_left; (intro w'; go_simp; with_reducible rfl); rotate_left; (simp only [Act.put, sq0, sq1, sq2, sq3, sq4]; rfl))
    cases sc with
    | true =>
     (refine takeL (N := some _) rfl rfl (by kernel_rfl) (fun _ _ _ h => h) hHeld (by rfl) (v := ?_) (a' := ?_) ?_ ?_ ?_; rotate_left; (rintro w' ⟨z0, z1, z2, z3, z4, z5, z6, z7, z8⟩; go_simp; with_reducible rfl); rotate_left; (simp only [Act.put, sq0, sq1, sq2, sq3, sq4]; rfl))
     iterate 2 (refine pureL (N := some _) rfl rfl (by kernel_rfl) (fun _ _ _ h => h) (by rfl) (v := ?_) (a' := ?_) ?_ ?_ ?_; rotate_left; (intro w'; go_simp; with_reducible rfl); rotate_left; (simp only [Act.put, sq0, sq1, sq2, sq3, sq4]; rfl))
     (refine takeL (N := some _) rfl rfl (by kernel_rfl) (fun _ _ _ h => h) hHeld (by rfl) (v := ?_) (a' := ?_) ?_ ?_ ?_; rotate_left; (rintro w' ⟨z0, z1, z2, z3, z4, z5, z6, z7, z8⟩; go_simp; with_reducible rfl); rotate_left; (simp only [Act.put, sq0, sq1, sq2, sq3, sq4]; rfl))
     by_cases h6 : ph = 1; rotate_left
     ·have b6 : (ph == 1) = false := by simp [h6]
      have b6a : (ph != 1) = true := by simp [h6]
      have HY := ak (HYES.out true (by simp [h6]))
      clear h6
      iterate 3 (refine pureL (N := some _) rfl rfl (by kernel_rfl) (fun _ _ _ h => h) (by rfl) (v := ?_) (a' := ?_) ?_ ?_ ?_; rotate_left; (intro w'; go_simp; with_reducible rfl); rotate_left; (simp only [Act.put, sq0, sq1, sq2, sq3, sq4]; rfl))
      refine doneL (by kernel_rfl) ?_
      go_wp2
      go_meet
      case rel => exact ⟨congrArg Value.bool HY.out.symm, BK5, BS5, HB5⟩
     have b6 : (ph == 1) = true := by simp [h6]
     have b6a : (ph != 1) = false := by simp [h6]
     have HY := ak (HYES.out false (by simp [h6]))
     clear h6
     iterate 3 (refine pureL (N := some _) rfl rfl (by kernel_rfl) (fun _ _ _ h => h) (by rfl) (v := ?_) (a' := ?_) ?_ ?_ ?_; rotate_left; (intro w'; go_simp; with_reducible rfl); rotate_left; (simp only [Act.put, sq0, sq1, sq2, sq3, sq4]; rfl))
     refine doneL (by kernel_rfl) ?_
     go_wp2
     go_meet
     case rel => exact ⟨congrArg Value.bool HY.out.symm, BK5, BS5, HB5⟩
    | false =>
     have HY := ak (HYES.out false (by simp [h5]))
     (refine takeL (N := some _) rfl rfl (by kernel_rfl) (fun _ _ _ h => h) hHeld (by rfl) (v := ?_) (a' := ?_) ?_ ?_ ?_; rotate_left; (rintro w' ⟨z0, z1, z2, z3, z4, z5, z6, z7, z8⟩; go_simp; with_reducible rfl); rotate_left; (simp only [Act.put, sq0, sq1, sq2, sq3, sq4]; rfl))
     (refine pureL (N := some _) rfl rfl (by kernel_rfl) (fun _ _ _ h => h) (by rfl) (v := ?_) (a' := ?_) ?_ ?_ ?_; rotate_left; (intro w'; go_simp; with_reducible rfl); rotate_left; (simp only [Act.put, sq0, sq1, sq2, sq3, sq4]; rfl))
     iterate 3 (refine offL (N := some _) rfl rfl (by kernel_rfl) (fun _ _ _ h => h) (by rfl) (a' := ?_) ?_ ?_; rotate_left; (simp only [Act.put, sq0, sq1, sq2, sq3, sq4]; rfl))
     iterate 2 (refine pureL (N := some _) rfl rfl (by kernel_rfl) (fun _ _ _ h => h) (by rfl) (v := ?_) (a' := ?_) ?_ ?_ ?_; rotate_left; (intro w'; go_simp; with_reducible rfl); rotate_left; (simp only [Act.put, sq0, sq1, sq2, sq3, sq4]; rfl))
     refine doneL (by kernel_rfl) ?_
     go_wp2
     go_meet
     case rel => exact ⟨congrArg Value.bool HY.out.symm, BK5, BS5, HB5⟩
   | false =>
    iterate 2 (refine pureL (N := some _) rfl rfl (by kernel_rfl) (fun _ _ _ h => h) (by rfl) (v := ?_) (a' := ?_) ?_ ?_ ?_; rotate_left; (intro w'; go_simp; with_reducible rfl); rotate_left; (simp only [Act.put, sq0, sq1, sq2, sq3, sq4]; rfl))
    iterate 4 (refine offL (N := some _) rfl rfl (by kernel_rfl) (fun _ _ _ h => h) (by rfl) (a' := ?_) ?_ ?_; rotate_left; (simp only [Act.put, sq0, sq1, sq2, sq3, sq4]; rfl))
    iterate 4 (refine pureL (N := some _) rfl rfl (by kernel_rfl) (fun _ _ _ h => h) (by rfl) (v := ?_) (a' := ?_) ?_ ?_ ?_; rotate_left; (intro w'; go_simp; with_reducible rfl); rotate_left; (simp only [Act.put, sq0, sq1, sq2, sq3, sq4]; rfl))
    cases sc with
    | true =>
     (refine takeL (N := some _) rfl rfl (by kernel_rfl) (fun _ _ _ h => h) hHeld (by rfl) (v := ?_) (a' := ?_) ?_ ?_ ?_; rotate_left; (rintro w' ⟨z0, z1, z2, z3, z4, z5, z6, z7, z8⟩; go_simp; with_reducible rfl); rotate_left; (simp only [Act.put, sq0, sq1, sq2, sq3, sq4]; rfl))
     iterate 2 (refine pureL (N := some _) rfl rfl (by kernel_rfl) (fun _ _ _ h => h) (by rfl) (v := ?_) (a' := ?_) ?_ ?_ ?_; rotate_left; (intro w'; go_simp; with_reducible rfl); rotate_left; (simp only [Act.put, sq0, sq1, sq2, sq3, sq4]; rfl))
     (refine takeL (N := some _) rfl rfl (by kernel_rfl) (fun _ _ _ h => h) hHeld (by rfl) (v := ?_) (a' := ?_) ?_ ?_ ?_; rotate_left; (rintro w' ⟨z0, z1, z2, z3, z4, z5, z6, z7, z8⟩; go_simp; with_reducible rfl); rotate_left; (simp only [Act.put, sq0, sq1, sq2, sq3, sq4]; rfl))
     by_cases h6 : ph = 1; rotate_left
     ·have b6 : (ph == 1) = false := by simp [h6]
      have b6a : (ph != 1) = true := by simp [h6]
      have HY := ak (HYES.out true (by simp [h6]))
      clear h6
      iterate 3 (refine pureL (N := some _) rfl rfl (by kernel_rfl) (fun _ _ _ h => h) (by rfl) (v := ?_) (a' := ?_) ?_ ?_ ?_; rotate_left; (intro w'; go_simp; with_reducible rfl); rotate_left; (simp only [Act.put, sq0, sq1, sq2, sq3, sq4]; rfl))
      refine doneL (by kernel_rfl) ?_
      go_wp2
      go_meet
      case rel => exact ⟨congrArg Value.bool HY.out.symm, BK5, BS5, HB5⟩
     have b6 : (ph == 1) = true := by simp [h6]
     have b6a : (ph != 1) = false := by simp [h6]
     have HY := ak (HYES.out false (by simp [h6]))
     clear h6
     iterate 3 (refine pureL (N := some _) rfl rfl (by kernel_rfl) (fun _ _ _ h => h) (by rfl) (v := ?_) (a' := ?_) ?_ ?_ ?_; rotate_left; (intro w'; go_simp; with_reducible rfl); rotate_left; (simp only [Act.put, sq0, sq1, sq2, sq3, sq4]; rfl))
     refine doneL (by kernel_rfl) ?_
     go_wp2
     go_meet
     case rel => exact ⟨congrArg Value.bool HY.out.symm, BK5, BS5, HB5⟩
    | false =>
     have HY := ak (HYES.out false (by simp))
     (refine takeL (N := some _) rfl rfl (by kernel_rfl) (fun _ _ _ h => h) hHeld (by rfl) (v := ?_) (a' := ?_) ?_ ?_ ?_; rotate_left; (rintro w' ⟨z0, z1, z2, z3, z4, z5, z6, z7, z8⟩; go_simp; with_reducible rfl); rotate_left; (simp only [Act.put, sq0, sq1, sq2, sq3, sq4]; rfl))
     (refine pureL (N := some _) rfl rfl (by kernel_rfl) (fun _ _ _ h => h) (by rfl) (v := ?_) (a' := ?_) ?_ ?_ ?_; rotate_left; (intro w'; go_simp; with_reducible rfl); rotate_left; (simp only [Act.put, sq0, sq1, sq2, sq3, sq4]; rfl))
     iterate 3 (refine offL (N := some _) rfl rfl (by kernel_rfl) (fun _ _ _ h => h) (by rfl) (a' := ?_) ?_ ?_; rotate_left; (simp only [Act.put, sq0, sq1, sq2, sq3, sq4]; rfl))
     iterate 2 (refine pureL (N := some _) rfl rfl (by kernel_rfl) (fun _ _ _ h => h) (by rfl) (v := ?_) (a' := ?_) ?_ ?_ ?_; rotate_left; (intro w'; go_simp; with_reducible rfl); rotate_left; (simp only [Act.put, sq0, sq1, sq2, sq3, sq4]; rfl))
     refine doneL (by kernel_rfl) ?_
     go_wp2
     go_meet
     case rel => exact ⟨congrArg Value.bool HY.out.symm, BK5, BS5, HB5⟩
  case rest =>
   obtain ⟨rfl, BK6, BS6, HB6⟩ := hcut
   clear HB4 BK4 BS4 q0 q1 s0 s1 s2 s3 s4 s5 s6 HID
   cases hbad : chkBad lc lr room ph at_ m st sc with
   | true =>
    have HR6 : Aside0 (r = 191) := ⟨by rw [← HRR.out, chkRest, hbad, if_pos rfl]⟩
    clear hbad
    go_wp2
    go_ret
    exact ⟨by rw [HR6.out]; rfl, HB6.out⟩
   | false =>
    have HML : Aside0 (m.length = lc.length) := ⟨by
     have h := hbad
     unfold chkBad at h
     simp only [Bool.or_eq_false_iff, decide_eq_false_iff_not, Decidable.not_not] at h
     exact h.1.1.1.2⟩
    have hR6 : (if chkMarks lc m 0 = true then (191 : Int) else if chkStack lc m st st 0 = true then 191 else 0) = r := by rw [← HRR.out, chkRest, hbad]; rfl
    obtain ⟨TM, hTM⟩ : ∃ b, chkMarks lc m 0 = b := ⟨_, rfl⟩
    obtain ⟨TS, hTS⟩ : ∃ b, chkStack lc m st st 0 = b := ⟨_, rfl⟩
    rw [hTM, hTS] at hR6
    have HR6 := ak hR6
    have HTM := ak hTM
    have HTS := ak hTS
    clear hR6 hTM hTS hbad HRR
    have k0 : wc.cell? ⟨gb, 0, none⟩ = some (.slice A0 lc.length c0) := (blk_cell BK6.out 0).trans rfl
    have k1 : wc.cell? ⟨gb, 1, none⟩ = some (.slice A1 lr.length c1) := (blk_cell BK6.out 1).trans rfl
    have z2 : wc.cell? ⟨gs, 2, none⟩ = some (.slice A2 m.length c2) := (blk_cell BS6.out 2).trans rfl
    have z3 : wc.cell? ⟨gs, 3, none⟩ = some (.slice A3 st.length c3) := (blk_cell BS6.out 3).trans rfl
    go_wp2
    go_loopw [79] (fun v79 wr => ∃ j : Nat, j ≤ m.length ∧ v79 = .int .i64 j ∧ Aside0 (chkMarks lc (m.drop j) j = TM) ∧ wc = wr) (fun v79 _ => m.length - (intOf v79).toNat)
    case atStart => exact ⟨0, Nat.zero_le _, rfl, HTM, rfl⟩
    case round =>
     obtain ⟨j, hj, rfl, HG, rfl⟩ := hrel
     by_cases hlt : j < m.length
     ·have hg := HG.out
      rw [List.drop_eq_getElem_cons hlt] at hg
      unfold chkMarks at hg
      obtain ⟨ad, rfl, hc⟩ := Kd.at_bool HR2.out (j : Int) (by omega) (by omega)
      obtain ⟨ae, A4, c4, rfl, hk, -⟩ := at_T56 HR0.out (j : Int) (by omega) (by have := HML.out; omega)
      rw [show rdOf false m (j : Int) = m[j] from by simp [rdOf, hlt], Int.toNat_natCast] at hc
      rw [Int.toNat_natCast] at hk
      replace hc := (HB6.out.cell (World.block_lt_of_cell? w _ hc)).trans hc
      replace hk := (HB6.out.cell (World.block_lt_of_cell? w _ hk)).trans hk
      have hlt1 : ((j : Int) < (m.length : Int)) = True := eq_true (by omega)
      have hlt2 : ((j : Int) < (lc.length : Int)) = True := eq_true (by have := HML.out; omega)
      have hltb : decide ((j : Int) < (m.length : Int)) = true := decide_eq_true (by omega)
      cases hb : m[j] with
      | true =>
       rw [hb] at hc hg
       by_cases h3 : (rd_T56 lc (j : Int)).f0 = 0
       ·have h3b : ((rd_T56 lc (j : Int)).f0 == 0) = true := beq_iff_eq.2 h3
        rw [decide_eq_true h3] at hg
        have HR7 : Aside0 (r = 191) := ⟨by have := HR6.out; rw [if_pos (show TM = true from hg.symm)] at this; exact this.symm⟩
        clear hg h3 hb HG
        go_wp2
        go_ret
        exact ⟨by rw [HR7.out]; rfl, HB6.out⟩
       have h3b : ((rd_T56 lc (j : Int)).f0 == 0) = false := beq_eq_false_iff_ne.2 h3
       rw [decide_eq_false h3] at hg
       have HG2 : Aside0 (chkMarks lc (m.drop (j + 1)) (j + 1) = TM) := ⟨by simpa using hg⟩
       clear hg h3 hb HG
       go_wp2
       go_roundw
       case rel => exact ⟨j + 1, by omega, by go_num, HG2, by first | rfl | trivial⟩
       case measure => simp [intOf]; omega
      | false =>
       rw [hb] at hc hg
       have HG2 : Aside0 (chkMarks lc (m.drop (j + 1)) (j + 1) = TM) := ⟨by simpa using hg⟩
       clear hg hb HG
       go_wp2
       go_roundw
       case rel => exact ⟨j + 1, by omega, by go_num, HG2, by first | rfl | trivial⟩
       case measure => simp [intOf]; omega
     have hj' : j = m.length := by omega
     have hg := HG.out
     rw [hj', List.drop_length] at hg
     have HR7 : Aside0 ((if TS = true then (191 : Int) else 0) = r) := ⟨by have := HR6.out; rw [show TM = false from hg.symm, if_neg Bool.false_ne_true] at this; exact this⟩
     have hltb : decide ((j : Int) < (m.length : Int)) = false := decide_eq_false (by omega)
     have HJ := ak hj'
     clear hg hj' HG HR6
     go_wp2
     obtain ⟨i03, hi03, -⟩ := info_parts int_info
     go_loopw [98] (fun v98 wr => ∃ j2 : Nat, j2 ≤ st.length ∧ v98 = .int .i64 j2 ∧ Aside0 (chkStack lc m st (st.drop j2) j2 = TS) ∧ Aside0 (wr.heap[gb]? = some (.cells #[.slice A0 lc.length c0, .slice A1 lr.length c1] 25 (0, 0))) ∧ Aside0 (wr.heap[gs]? = some (.cells #[.int .i64 ph, .int .i64 at_, .slice A2 m.length c2, .slice A3 st.length c3, .bool ov, .bool ag, .bool sc] 28 (0, 0))) ∧ Aside0 (Below w.heap.size w wr)) (fun v98 _ => st.length - (intOf v98).toNat)
     case atStart => exact ⟨0, Nat.zero_le _, rfl, HTS, BK6, BS6, HB6⟩
     case round =>
      clear hltb HJ hj BK6 BS6 HB6 k0 k1 z2 z3
      obtain ⟨j2, hj2, rfl, HG, BK8, BS8, HB8⟩ := hrel
      have k0 : wr.cell? ⟨gb, 0, none⟩ = some (.slice A0 lc.length c0) := (blk_cell BK8.out 0).trans rfl
      have k1 : wr.cell? ⟨gb, 1, none⟩ = some (.slice A1 lr.length c1) := (blk_cell BK8.out 1).trans rfl
      by_cases hlt : j2 < st.length; rotate_left
      ·have hj' : j2 = st.length := by omega
       have hg := HG.out
       rw [hj', List.drop_length] at hg
       have HR8 : Aside0 (r = 0) := ⟨by have := HR7.out; rw [show TS = false from hg.symm, if_neg Bool.false_ne_true] at this; exact this.symm⟩
       have hltb : decide ((j2 : Int) < (st.length : Int)) = false := decide_eq_false (by omega)
       clear hg hj' HG
       go_wp2
       go_ret
       exact ⟨by rw [HR8.out]; rfl, HB8.out⟩
      have hg := HG.out
      rw [List.drop_eq_getElem_cons hlt] at hg
      unfold chkStack at hg
      obtain ⟨ad, rfl, hc⟩ := Kd.at_int HR3.out (j2 : Int) (by omega) (by omega)
      rw [show rd st (j2 : Int) = st[j2] from by simp [rd, hlt], Int.toNat_natCast] at hc
      replace hc := (HB8.out.cell (World.block_lt_of_cell? w _ hc)).trans hc
      have hlt1 : ((j2 : Int) < (st.length : Int)) = True := eq_true (by omega)
      have hltb : decide ((j2 : Int) < (st.length : Int)) = true := decide_eq_true (by omega)
      generalize st[j2] = i at hc hg
      have HTh := ak (fun wd (hd : Below w.heap.size w wd) => mark_there.calls A0 c0 lc A1 c1 lr i (isThere lc i) wd (Kd.C_below HR0.out hd) HC0.out (Kd.C_below HR1.out hd) HC1.out (there_at lc lr i))
      cases ht : isThere lc i with
      | false =>
       rw [ht] at hg HTh
       have HR8 : Aside0 (r = 191) := ⟨by have := HR7.out; rw [if_pos (show TS = true from by rw [← hg]; simp)] at this; exact this.symm⟩
       clear hg ht HG
       go_wp2_with (first | (go_at_call 39; (with_reducible refine (HTh.out _ HB8.out).mono ?_); rintro e w7 ⟨rfl, hb⟩; have HB9 := ak (HB8.out.trans (hb.mono HB8.out.size)); clear hb))
       go_ret
       exact ⟨by rw [HR8.out]; rfl, HB9.out⟩
      | true =>
       obtain ⟨i0, i1, -⟩ := of_decide_eq_true ht
       rw [ht] at hg HTh
       have i2 : i < (m.length : Int) := by have := HML.out; omega
       obtain ⟨ae, rfl, hm⟩ := Kd.at_bool HR2.out i i0 i2
       have HM := ak hm
       have q1 := eq_true i0
       have q2 := eq_true i2
       cases hv : rdOf false m i with
       | false =>
        rw [hv] at hg HM
        have HR8 : Aside0 (r = 191) := ⟨by have := HR7.out; rw [if_pos (show TS = true from by rw [← hg]; simp)] at this; exact this.symm⟩
        clear hg ht HG hv hm i0 i1 i2
        go_wp2_with (first | (go_at_call 39; (with_reducible refine (HTh.out _ HB8.out).mono ?_); rintro e w7 ⟨rfl, hb⟩; have HB9 := ak (HB8.out.trans (hb.mono HB8.out.size)); have BS9 := ak (blk_below BS8.out hb); have z2 : w7.cell? ⟨gs, 2, none⟩ = some (.slice (some ae) m.length c2) := (blk_cell BS9.out 2).trans rfl; have hm7 := (HB9.out.cell (World.block_lt_of_cell? w _ HM.out)).trans HM.out; clear hb))
        go_ret
        exact ⟨by rw [HR8.out]; rfl, HB9.out⟩
       | true =>
        rw [hv] at hg HM
        have hcut := cut_to (P := Try.prog) 23 3 .i64 Try.underlying23 hi03 (some ad) st.length c3 (j2 : Int) (by omega) (by omega) HC3.out
        rw [Int.toNat_natCast] at hcut
        have htl : (st.take j2).length = j2 := by rw [List.length_take]; omega
        have HCt := ak (fun wd (hd : Below w.heap.size w wd) => slices_Contains_int_int.calls ((st.take j2).length + 1) (some ad) c3 (st.take j2) i _ wd (Kd.C_take (Kd.C_below HR3.out hd) (by omega)) (by rw [htl]; have := HC3.out; omega) (contains_at (st.take j2) (by rw [htl]; omega) i))
        rw [htl] at HCt
        have q3 : ((j2 : Int) ≤ (c3 : Int)) = True := eq_true (by have := HC3.out; omega)
        cases hcon : (st.take j2).contains i with
        | true =>
         rw [hcon] at hg HCt
         have HR8 : Aside0 (r = 191) := ⟨by have := HR7.out; rw [if_pos (show TS = true from by rw [← hg]; simp)] at this; exact this.symm⟩
         clear hg ht HG hv hm i0 i1 i2 hcon htl
         go_wp2_with (first | (go_at_call 39; (with_reducible refine (HTh.out _ HB8.out).mono ?_); rintro e w7 ⟨rfl, hb⟩; have HB9 := ak (HB8.out.trans (hb.mono HB8.out.size)); have BS9 := ak (blk_below BS8.out hb); have z2 : w7.cell? ⟨gs, 2, none⟩ = some (.slice (some ae) m.length c2) := (blk_cell BS9.out 2).trans rfl; have z3 : w7.cell? ⟨gs, 3, none⟩ = some (.slice (some ad) st.length c3) := (blk_cell BS9.out 3).trans rfl; have hm7 := (HB9.out.cell (World.block_lt_of_cell? w _ HM.out)).trans HM.out; clear hb) | (go_at_call 34; (with_reducible refine (HCt.out _ HB9.out).mono ?_); rintro e w8 ⟨rfl, hd8⟩; have HB10 := ak (HB9.out.trans (hd8.below.mono HB9.out.size)); clear hd8))
         go_ret
         exact ⟨by rw [HR8.out]; rfl, HB10.out⟩
        | false =>
         rw [hcon] at hg HCt
         have HG2 : Aside0 (chkStack lc m st (st.drop (j2 + 1)) (j2 + 1) = TS) := ⟨by simpa using hg⟩
         clear hg ht HG hv hm i0 i1 i2 hcon htl
         go_wp2_with (first | (go_at_call 39; (with_reducible refine (HTh.out _ HB8.out).mono ?_); rintro e w7 ⟨rfl, hb⟩; have HB9 := ak (HB8.out.trans (hb.mono HB8.out.size)); have BS9 := ak (blk_below BS8.out hb); have BK9 := ak (blk_below BK8.out hb); have z2 : w7.cell? ⟨gs, 2, none⟩ = some (.slice (some ae) m.length c2) := (blk_cell BS9.out 2).trans rfl; have z3 : w7.cell? ⟨gs, 3, none⟩ = some (.slice (some ad) st.length c3) := (blk_cell BS9.out 3).trans rfl; have hm7 := (HB9.out.cell (World.block_lt_of_cell? w _ HM.out)).trans HM.out; clear hb) | (go_at_call 34; (with_reducible refine (HCt.out _ HB9.out).mono ?_); rintro e w8 ⟨rfl, hd8⟩; have HB10 := ak (HB9.out.trans (hd8.below.mono HB9.out.size)); have BS10 := ak (blk_below BS9.out hd8.below); have BK10 := ak (blk_below BK9.out hd8.below); clear hd8))
         go_roundw
         case rel => exact ⟨j2 + 1, by omega, by go_num, HG2, BK10, BS10, HB10⟩
         case measure => simp [intOf]; omega
/-! ### clone_int: function 29 -/
theorem clone_int.info : (Try.prog.info? 3).map (fun i => (i.zero, i.size, i.bytes)) = some (some (.int .i64 0), (Kd.int .i64).sz, 8) := by kernel_rfl
/-- A slice in memory of its own. -/
def clone_int.f (l0 : List Int) : Option (List Int) := if l0.length * 8 ≤ 140737488355328 then some l0 else none
set_option maxRecDepth 100000 in
set_option maxHeartbeats 1000000 in
theorem clone_int.calls (A0 : Option Addr) (c0 : Nat) (l0 : List Int) (r : List Int) (w : World) (hr0 : Kd.C (Kd.int .i64) w A0 l0.length l0) (hc0 : l0.length ≤ c0) (h : clone_int.f l0 = some r) :
  Calls Try.prog 29 #[.slice A0 l0.length c0] w fun e w' => ∃ v0_ : Value, e = .returned (v0_) ∧ Kd.R (Kd.int .i64) 3 w' w.heap.size (fun _ => True) v0_ r ∧ Below w.heap.size w w' := by
 unfold clone_int.f at h
 split at h
 ·rename_i hb
  obtain rfl := Option.some.inj h
  have hlt : l0.length < 140737488355329 := by omega
  cases A0 with
  | none =>
   have hn : l0 = [] := by
    rcases Nat.eq_zero_or_pos l0.length with h0 | h0
    ·exact List.length_eq_zero_iff.1 h0
    ·obtain ⟨ad, e, _⟩ := hr0.2.2 h0
     cases e
   subst hn
   clear hr0 hc0 h hb hlt
   have hq := Lib.run_eql_slice_nil (P := Try.prog) w 23 _ none 0 c0 0 0 Try.underlying23
   go_enter Try.func29, Try.ntmps29
   go_wp2
   go_ret
   exact ⟨.slice none 0 0, rfl, Kd.R_nil _ _ _ _ _, Below.refl _ _⟩
  | some ad =>
   have HR := ak hr0
   have HC := ak hc0
   have HL := ak hb
   clear hr0 hc0 h hb
   have hq := Lib.run_eql_slice_nil (P := Try.prog) w 23 _ (some ad) l0.length c0 0 0 Try.underlying23
   go_enter Try.func29, Try.ntmps29
   go_wp2_with (first | ((with_reducible refine gate_dst (N := 5) rfl ?_); refine Kd.R_lit (Kd.int .i64) w.heap.size 3 ?hg (N := 5) ?hd (xs := ([] : List Int)) (inner := []) (ok := fun _ => True) (okp := fun _ => True) ?hr ?hp (fun _ hk => hk) trivial (Below.refl _ _) (Nat.le_refl _) (by simp) ?_; (case hd => rfl); (case hg => rfl); (case hr => first | (go_simp; done) | (go_simp; rfl)); (case hp => exact Reps.none _ _); intro v5 w5 ho5 hb5 hg5 hnew5; have HO := ak ho5; have HB := ak hb5; clear ho5 hb5 hg5 hnew5) | (at_builtin; refine Kd.R_append_rows (Kd.int .i64) (w0 := w) w.heap.size rfl (.tmp 5) (.tmp 6) 23 3 (.int .i64 0) 8 rfl Try.underlying23 clone_int.info rfl (by decide) (by omega) v5 [] l0 _ _ _ (fun _ => True) (fun _ => False) rfl rfl ?aO ?aR (fun _ _ h => h) (fun _ h => h.elim) ?aF ?aB ?aS ?aL ?_; (case aO => exact HO.out); (case aR => exact Kd.C_below HR.out HB.out); (case aF => exact fun _ _ => trivial); (case aB => exact HB.out); (case aS => exact HB.out.size); (case aL => have := HL.out; simp only [List.length_nil, Nat.zero_add]; exact this); intro v7 w7 ho7 hb7 hg7 hn7; have HO7 := ak ho7; have HB7 := ak hb7; clear ho7 hb7 hg7 hn7))
   go_ret
   exact ⟨v7, rfl, HO7.out, HB7.out⟩
 ·exact absurd h (by simp)
/-! ### clone_bool: function 52 -/
theorem clone_bool.info : (Try.prog.info? 4).map (fun i => (i.zero, i.size, i.bytes)) = some (some (.bool false), Kd.bool.sz, 1) := by kernel_rfl
/-- A slice in memory of its own. -/
def clone_bool.f (l0 : List Bool) : Option (List Bool) := if l0.length * 1 ≤ 140737488355328 then some l0 else none
set_option maxRecDepth 100000 in
set_option maxHeartbeats 1000000 in
theorem clone_bool.calls (A0 : Option Addr) (c0 : Nat) (l0 : List Bool) (r : List Bool) (w : World) (hr0 : Kd.C Kd.bool w A0 l0.length l0) (hc0 : l0.length ≤ c0) (h : clone_bool.f l0 = some r) :
  Calls Try.prog 52 #[.slice A0 l0.length c0] w fun e w' => ∃ v0_ : Value, e = .returned (v0_) ∧ Kd.R Kd.bool 4 w' w.heap.size (fun _ => True) v0_ r ∧ Below w.heap.size w w' := by
 unfold clone_bool.f at h
 split at h
 ·rename_i hb
  obtain rfl := Option.some.inj h
  have hlt : l0.length < 140737488355329 := by omega
  cases A0 with
  | none =>
   have hn : l0 = [] := by
    rcases Nat.eq_zero_or_pos l0.length with h0 | h0
    ·exact List.length_eq_zero_iff.1 h0
    ·obtain ⟨ad, e, _⟩ := hr0.2.2 h0
     cases e
   subst hn
   clear hr0 hc0 h hb hlt
   have hq := Lib.run_eql_slice_nil (P := Try.prog) w 26 _ none 0 c0 0 0 Try.underlying26
   go_enter Try.func52, Try.ntmps52
   go_wp2
   go_ret
   exact ⟨.slice none 0 0, rfl, Kd.R_nil _ _ _ _ _, Below.refl _ _⟩
  | some ad =>
   have HR := ak hr0
   have HC := ak hc0
   have HL := ak hb
   clear hr0 hc0 h hb
   have hq := Lib.run_eql_slice_nil (P := Try.prog) w 26 _ (some ad) l0.length c0 0 0 Try.underlying26
   go_enter Try.func52, Try.ntmps52
   go_wp2_with (first | ((with_reducible refine gate_dst (N := 5) rfl ?_); refine Kd.R_lit Kd.bool w.heap.size 4 ?hg (N := 5) ?hd (xs := ([] : List Bool)) (inner := []) (ok := fun _ => True) (okp := fun _ => True) ?hr ?hp (fun _ hk => hk) trivial (Below.refl _ _) (Nat.le_refl _) (by simp) ?_; (case hd => rfl); (case hg => rfl); (case hr => first | (go_simp; done) | (go_simp; rfl)); (case hp => exact Reps.none _ _); intro v5 w5 ho5 hb5 hg5 hnew5; have HO := ak ho5; have HB := ak hb5; clear ho5 hb5 hg5 hnew5) | (at_builtin; refine Kd.R_append_rows Kd.bool (w0 := w) w.heap.size rfl (.tmp 5) (.tmp 6) 26 4 (.bool false) 1 rfl Try.underlying26 clone_bool.info rfl (by decide) (by omega) v5 [] l0 _ _ _ (fun _ => True) (fun _ => False) rfl rfl ?aO ?aR (fun _ _ h => h) (fun _ h => h.elim) ?aF ?aB ?aS ?aL ?_; (case aO => exact HO.out); (case aR => exact Kd.C_below HR.out HB.out); (case aF => exact fun _ _ => trivial); (case aB => exact HB.out); (case aS => exact HB.out.size); (case aL => have := HL.out; simp only [List.length_nil, Nat.zero_add]; exact this); intro v7 w7 ho7 hb7 hg7 hn7; have HO7 := ak ho7; have HB7 := ak hb7; clear ho7 hb7 hg7 hn7))
   go_ret
   exact ⟨v7, rfl, HO7.out, HB7.out⟩
 ·exact absurd h (by simp)
-- NOT PRINTED: function 36 (mark_begun)
-- NOT PRINTED: function 58 (mark_walk_touch)
-- NOT PRINTED: function 53 (mark_walk_roots)
/-! ### mark_counts: function 45 -/
mutual
def mark_counts.l0 : Nat → List Int → List Int → Int → Int → Option (List Int)
 | 0, _, _, _, _ => none
 | k + 1, x10, x41, x42, x43 => if x43 < x42 then (if 0 ≤ x43 then (if x43 < (x41.length : Int) then (if (rd x41 x43) = (-1) then (mark_counts.l0 k x10 x41 x42 (wrap64 (x43 + 1))) else (if x10.length < 17592186044416 then (mark_counts.l0 k (x10 ++ [rd x41 x43]) x41 x42 (wrap64 (x43 + 1))) else (none))) else (none)) else (none)) else (some x10)
def mark_counts.l1 : Nat → List Int → List Int → Int → Int → Option (List Int)
 | 0, _, _, _, _ => none
 | k + 1, x10, x41, x42, x43 => if x43 < x42 then (if 0 ≤ x43 then (if x43 < (x41.length : Int) then (if (rd x41 x43) = (-1) then (mark_counts.l1 k x10 x41 x42 (wrap64 (x43 + 1))) else (if x10.length < 17592186044416 then (mark_counts.l1 k (x10 ++ [rd x41 x43]) x41 x42 (wrap64 (x43 + 1))) else (none))) else (none)) else (none)) else (some x10)
end
def mark_counts.f (k : Nat) (l0_0 : List (S56)) (l0_1 : List Int) (l1 : List Bool) (a2 : Int) : Option (List Int) := if 0 ≤ a2 then (if a2 < (l0_0.length : Int) then (if ((rd_T56 l0_0 a2).f0) = 3 then (if 0 < (((rd_T56 l0_0 a2).f1).length : Int) then (if (rd ((rd_T56 l0_0 a2).f1) 0) = (-1) then (some ([] : List Int)) else (if 0 ≤ (rd ((rd_T56 l0_0 a2).f1) 0) then (if (rd ((rd_T56 l0_0 a2).f1) 0) < (l1.length : Int) then (if (rdOf false l1 (rd ((rd_T56 l0_0 a2).f1) 0) = true) then (if 1 ≤ (((rd_T56 l0_0 a2).f1).length : Int) then (mark_counts.l0 k ([] : List Int) (((rd_T56 l0_0 a2).f1).drop 1) ((((rd_T56 l0_0 a2).f1).drop 1).length : Int) 0) else (none)) else (some ([] : List Int))) else (none)) else (none))) else (none)) else (if ((rd_T56 l0_0 a2).f0) = 2 then (some ([] : List Int)) else (mark_counts.l1 k ([] : List Int) ((rd_T56 l0_0 a2).f1) (((rd_T56 l0_0 a2).f1).length : Int) 0))) else (none)) else (none)
theorem mark_counts.mono_l : ∀ k, (∀ y0 y1 y2 y3, LeO (mark_counts.l0 k y0 y1 y2 y3) (mark_counts.l0 (k + 1) y0 y1 y2 y3)) ∧ (∀ y0 y1 y2 y3, LeO (mark_counts.l1 k y0 y1 y2 y3) (mark_counts.l1 (k + 1) y0 y1 y2 y3))
 | 0 => ⟨fun _ _ _ _ r h => by simp [mark_counts.l0] at h, fun _ _ _ _ r h => by simp [mark_counts.l1] at h⟩
 | k + 1 => by
  obtain ⟨ih0, ih1⟩ := mark_counts.mono_l k
  refine ⟨?_, ?_⟩
  ·intro y0 y1 y2 y3
   unfold mark_counts.l0
   repeat' first | (with_reducible first | exact ih0 _ _ _ _ | exact ih1 _ _ _ _ | exact LeO.refl _ | exact LeO.none _ | refine LeO.ite ?_ ?_ | refine LeO.bind ?_ (fun _ => ?_)) | exact ih0 _ _ _ _ | exact ih1 _ _ _ _ | exact LeO.none _ | refine LeO.ite ?_ ?_ | refine LeO.bind ?_ (fun _ => ?_)
  ·intro y0 y1 y2 y3
   unfold mark_counts.l1
   repeat' first | (with_reducible first | exact ih0 _ _ _ _ | exact ih1 _ _ _ _ | exact LeO.refl _ | exact LeO.none _ | refine LeO.ite ?_ ?_ | refine LeO.bind ?_ (fun _ => ?_)) | exact ih0 _ _ _ _ | exact ih1 _ _ _ _ | exact LeO.none _ | refine LeO.ite ?_ ?_ | refine LeO.bind ?_ (fun _ => ?_)
theorem mark_counts.mono : ∀ a0 a1 a2 a3 k, LeO (mark_counts.f k a0 a1 a2 a3) (mark_counts.f (k + 1) a0 a1 a2 a3) := by
 intro a0 a1 a2 a3 k
 obtain ⟨ih0, ih1⟩ := mark_counts.mono_l k
 unfold mark_counts.f
 repeat' first | (with_reducible first | exact ih0 _ _ _ _ | exact ih1 _ _ _ _ | exact LeO.refl _ | exact LeO.none _ | refine LeO.ite ?_ ?_ | refine LeO.bind ?_ (fun _ => ?_)) | exact ih0 _ _ _ _ | exact ih1 _ _ _ _ | exact LeO.none _ | refine LeO.ite ?_ ?_ | refine LeO.bind ?_ (fun _ => ?_)
set_option maxHeartbeats 8000000 in
set_option maxRecDepth 100000 in
theorem mark_counts.calls (k : Nat) (A0_0 : Option Addr) (c0_0 : Nat) (l0_0 : List (S56)) (A0_1 : Option Addr) (c0_1 : Nat) (l0_1 : List Int) (A1 : Option Addr) (c1 : Nat) (l1 : List Bool) (a2 : Int) (r : List Int) (w : World) (hr0_0 : Kd.C k56 w A0_0 l0_0.length l0_0) (hc0_0 : l0_0.length ≤ c0_0) (hr0_1 : Kd.C (Kd.int .i64) w A0_1 l0_1.length l0_1) (hc0_1 : l0_1.length ≤ c0_1) (hr1 : Kd.C Kd.bool w A1 l1.length l1) (hc1 : l1.length ≤ c1) (h : mark_counts.f k l0_0 l0_1 l1 a2 = some r) :
  Calls Try.prog 45 #[.agg #[.slice A0_0 l0_0.length c0_0, .slice A0_1 l0_1.length c0_1], .slice A1 l1.length c1, .int .i64 a2] w fun e w' => ∃ v0_ : Value, e = .returned (v0_) ∧ Kd.R (Kd.int .i64) 3 w' w.heap.size (fun _ => True) v0_ r ∧ Below w.heap.size w w' := by
 have hu25 := Try.underlying25
 have hu56 := Try.underlying56
 have HR0_0 := ak hr0_0
 have HC0_0 := ak hc0_0
 clear hr0_0 hc0_0
 have HR0_1 := ak hr0_1
 have HC0_1 := ak hc0_1
 clear hr0_1 hc0_1
 have HR1 := ak hr1
 have HC1 := ak hc1
 clear hr1 hc1
 have HB := ak (Below.refl w.heap.size w)
 have H : (if 0 ≤ a2 then (if a2 < (l0_0.length : Int) then (if ((rd_T56 l0_0 a2).f0) = 3 then (if 0 < (((rd_T56 l0_0 a2).f1).length : Int) then (if (rd ((rd_T56 l0_0 a2).f1) 0) = (-1) then (some ([] : List Int)) else (if 0 ≤ (rd ((rd_T56 l0_0 a2).f1) 0) then (if (rd ((rd_T56 l0_0 a2).f1) 0) < (l1.length : Int) then (if (rdOf false l1 (rd ((rd_T56 l0_0 a2).f1) 0) = true) then (if 1 ≤ (((rd_T56 l0_0 a2).f1).length : Int) then (mark_counts.l0 k ([] : List Int) (((rd_T56 l0_0 a2).f1).drop 1) ((((rd_T56 l0_0 a2).f1).drop 1).length : Int) 0) else (none)) else (some ([] : List Int))) else (none)) else (none))) else (none)) else (if ((rd_T56 l0_0 a2).f0) = 2 then (some ([] : List Int)) else (mark_counts.l1 k ([] : List Int) ((rd_T56 l0_0 a2).f1) (((rd_T56 l0_0 a2).f1).length : Int) 0))) else (none)) else (none)) = some r := h
 clear h
 by_cases c4 : 0 ≤ a2; rotate_left
 ·rw [if_neg c4] at H
  exact absurd H (by simp)
 rw [if_pos c4] at H
 have c4b0 : decide (0 ≤ a2) = true := decide_eq_true c4
 clear c4
 by_cases c5 : a2 < (l0_0.length : Int); rotate_left
 ·rw [if_neg c5] at H
  exact absurd H (by simp)
 rw [if_pos c5] at H
 have c5b0 : decide (a2 < (l0_0.length : Int)) = true := decide_eq_true c5
 clear c5
 by_cases c6 : ((rd_T56 l0_0 a2).f0) = 3; rotate_left
 ·rw [if_neg c6] at H
  have c6b0 : (((rd_T56 l0_0 a2).f0) == 3) = false := beq_eq_false_iff_ne.mpr c6
  have c6b1 : (((rd_T56 l0_0 a2).f0) != 3) = true := bne_iff_ne.mpr c6
  by_cases c36 : ((rd_T56 l0_0 a2).f0) = 2
  ·rw [if_pos c36] at H
   have c36b0 : (((rd_T56 l0_0 a2).f0) == 2) = true := beq_iff_eq.mpr c36
   have c36b1 : (((rd_T56 l0_0 a2).f0) != 2) = false := bne_eq_false_iff_eq.mpr c36
   clear c36
   obtain rfl := Option.some.inj H
   go_enter Try.func45, Try.ntmps45
   go_wp2_with (first | ((with_reducible refine gate_dst (N := 3) rfl ?_); refine box_event ?hg (N := 3) ?hd (cs := #[.slice A0_0 l0_0.length c0_0, .slice A0_1 l0_1.length c0_1]) (t := 25) ?hr ?_; (case hd => rfl); (case hg => rfl); (case hr => first | (go_simp; done) | (go_simp; rfl)); intro gb123 hg w37 hbox hb; have n0_ := ak (below_step (by repeat (first | (with_reducible first | exact HB.out | apply ba_ | apply bn_ | apply b1_) | exact HB.out)) hb); have n1_ := ak (hbox); have n2_ := ak ((by rw [hg]; exact (below_size (by repeat (first | (with_reducible first | exact HB.out | apply ba_ | apply bn_ | apply b1_) | exact HB.out))) : w.heap.size ≤ gb123)); have n3_ := n2_; clear HB; have HB := n0_; have BK123 := n1_; have GW123 := n2_; have GE123 := n3_; clear n0_ n1_ n2_ n3_ hb hbox hg; obtain ⟨z38_0, z38_1, f38_0, f38_1⟩ := kk2 BK123.out; have p124 : 0 ≤ (a2 : Int) := of_decide_eq_true (by first | (with_reducible assumption) | assumption); have q124 : a2 < (l0_0.length : Int) := of_decide_eq_true (by first | (with_reducible assumption) | assumption); obtain ⟨ad124, A124_1, c124_1, e124, hx124_0, hx124_1, hl124_1, hi124_1⟩ := at_T56 HR0_0.out a2 p124 q124; cases e124; replace hx124_0 := (HB.out.cell (World.block_lt_of_cell? w _ hx124_0)).trans hx124_0; replace hx124_1 := (HB.out.cell (World.block_lt_of_cell? w _ hx124_1)).trans hx124_1; have HR124_1 := ak hi124_1; have HC124_1 := ak hl124_1; clear hi124_1 hl124_1; replace p124 := eq_true p124; replace q124 := eq_true q124) | ((with_reducible refine gate_dst (N := 7) rfl ?_); refine box_event ?hg (N := 7) ?hd (cs := #[.int .i64 0, .slice none 0 0]) (t := 56) ?hr ?_; (case hd => rfl); (case hg => rfl); (case hr => first | (go_simp; done) | (go_simp; rfl)); intro gb125 hg w39 hbox hb; have n0_ := ak (blk_below (by (with_reducible repeat first | apply kn_ | apply kd_ | apply ka_); exact BK123.out) hb); have n1_ := ak (below_step (by repeat (first | (with_reducible first | exact HB.out | apply ba_ | apply bn_ | apply b1_ | refine bs_ ?_ GE123.out) | exact HB.out)) hb); have n2_ := ak (hbox); have n3_ := ak ((by rw [hg]; exact (below_size (by repeat (first | (with_reducible first | exact HB.out | apply ba_ | apply bn_ | apply b1_ | refine bs_ ?_ GE123.out) | exact HB.out))) : w.heap.size ≤ gb125)); have n4_ := n3_; have n5_ := ak ((by rw [hg]; exact Nat.ne_of_lt (blk_lt (g := gb123) (o := .cells #[.slice (some ad124) l0_0.length c0_0, .slice A0_1 l0_1.length c0_1] 25 (0, 0)) (by (with_reducible repeat first | apply kn_ | apply kd_ | apply ka_); exact BK123.out)) : gb123 ≠ gb125)); have n6_ := ak ((by rw [hg]; exact Nat.ne_of_gt (blk_lt (g := gb123) (o := .cells #[.slice (some ad124) l0_0.length c0_0, .slice A0_1 l0_1.length c0_1] 25 (0, 0)) (by (with_reducible repeat first | apply kn_ | apply kd_ | apply ka_); exact BK123.out)) : gb125 ≠ gb123)); clear BK123 HB; have BK123 := n0_; have HB := n1_; have BK125 := n2_; have GW125 := n3_; have GE125 := n4_; have NB123_125 := n5_; have NB125_123 := n6_; clear n0_ n1_ n2_ n3_ n4_ n5_ n6_ hb hbox hg; have hnb40 := NB125_123.out; have hnc40 := NB123_125.out; obtain ⟨z41_0, z41_1, f41_0, f41_1⟩ := kk2 BK125.out))
   go_ret
   exact ⟨_, by first | rfl | (simp [errW_none, errW_some] <;> rfl) | (simp [*, errW_none, errW_some] <;> rfl) | (simp [Int.tdiv_eq_ediv_of_nonneg]; done), by first | exact Kd.R_nil _ _ _ _ _ | exact Kd.N_nil _ _ _ _ _ | exact Kd.V_nil _ _ _ _ _ | exact Kd.Q_nil _ _ _ _ _ | exact Kd.S_nil _ _ _ _ _, by repeat (first | (with_reducible first | exact HB.out | apply ba_ | apply bn_ | apply b1_ | refine bs_ ?_ GE123.out | refine bs_ ?_ GE125.out) | exact HB.out)⟩
  rw [if_neg c36] at H
  have c36b0 : (((rd_T56 l0_0 a2).f0) == 2) = false := beq_eq_false_iff_ne.mpr c36
  have c36b1 : (((rd_T56 l0_0 a2).f0) != 2) = true := bne_iff_ne.mpr c36
  have H' := ak H
  clear H
  go_enter Try.func45, Try.ntmps45
  go_wp2_with (first | ((with_reducible refine gate_dst (N := 3) rfl ?_); refine box_event ?hg (N := 3) ?hd (cs := #[.slice A0_0 l0_0.length c0_0, .slice A0_1 l0_1.length c0_1]) (t := 25) ?hr ?_; (case hd => rfl); (case hg => rfl); (case hr => first | (go_simp; done) | (go_simp; rfl)); intro gb123 hg w42 hbox hb; have n0_ := ak (below_step (by repeat (first | (with_reducible first | exact HB.out | apply ba_ | apply bn_ | apply b1_) | exact HB.out)) hb); have n1_ := ak (hbox); have n2_ := ak ((by rw [hg]; exact (below_size (by repeat (first | (with_reducible first | exact HB.out | apply ba_ | apply bn_ | apply b1_) | exact HB.out))) : w.heap.size ≤ gb123)); have n3_ := n2_; clear HB; have HB := n0_; have BK123 := n1_; have GW123 := n2_; have GE123 := n3_; clear n0_ n1_ n2_ n3_ hb hbox hg; obtain ⟨z43_0, z43_1, f43_0, f43_1⟩ := kk2 BK123.out; have p124 : 0 ≤ (a2 : Int) := of_decide_eq_true (by first | (with_reducible assumption) | assumption); have q124 : a2 < (l0_0.length : Int) := of_decide_eq_true (by first | (with_reducible assumption) | assumption); obtain ⟨ad124, A124_1, c124_1, e124, hx124_0, hx124_1, hl124_1, hi124_1⟩ := at_T56 HR0_0.out a2 p124 q124; cases e124; replace hx124_0 := (HB.out.cell (World.block_lt_of_cell? w _ hx124_0)).trans hx124_0; replace hx124_1 := (HB.out.cell (World.block_lt_of_cell? w _ hx124_1)).trans hx124_1; have HR124_1 := ak hi124_1; have HC124_1 := ak hl124_1; clear hi124_1 hl124_1; replace p124 := eq_true p124; replace q124 := eq_true q124) | ((with_reducible refine gate_dst (N := 7) rfl ?_); refine box_event ?hg (N := 7) ?hd (cs := #[.int .i64 0, .slice none 0 0]) (t := 56) ?hr ?_; (case hd => rfl); (case hg => rfl); (case hr => first | (go_simp; done) | (go_simp; rfl)); intro gb125 hg w44 hbox hb; have n0_ := ak (blk_below (by (with_reducible repeat first | apply kn_ | apply kd_ | apply ka_); exact BK123.out) hb); have n1_ := ak (below_step (by repeat (first | (with_reducible first | exact HB.out | apply ba_ | apply bn_ | apply b1_ | refine bs_ ?_ GE123.out) | exact HB.out)) hb); have n2_ := ak (hbox); have n3_ := ak ((by rw [hg]; exact (below_size (by repeat (first | (with_reducible first | exact HB.out | apply ba_ | apply bn_ | apply b1_ | refine bs_ ?_ GE123.out) | exact HB.out))) : w.heap.size ≤ gb125)); have n4_ := n3_; have n5_ := ak ((by rw [hg]; exact Nat.ne_of_lt (blk_lt (g := gb123) (o := .cells #[.slice (some ad124) l0_0.length c0_0, .slice A0_1 l0_1.length c0_1] 25 (0, 0)) (by (with_reducible repeat first | apply kn_ | apply kd_ | apply ka_); exact BK123.out)) : gb123 ≠ gb125)); have n6_ := ak ((by rw [hg]; exact Nat.ne_of_gt (blk_lt (g := gb123) (o := .cells #[.slice (some ad124) l0_0.length c0_0, .slice A0_1 l0_1.length c0_1] 25 (0, 0)) (by (with_reducible repeat first | apply kn_ | apply kd_ | apply ka_); exact BK123.out)) : gb125 ≠ gb123)); clear BK123 HB; have BK123 := n0_; have HB := n1_; have BK125 := n2_; have GW125 := n3_; have GE125 := n4_; have NB123_125 := n5_; have NB125_123 := n6_; clear n0_ n1_ n2_ n3_ n4_ n5_ n6_ hb hbox hg; have hnb45 := NB125_123.out; have hnc45 := NB123_125.out; obtain ⟨z46_0, z46_1, f46_0, f46_1⟩ := kk2 BK125.out))
  go_loopg [10, 43] k (fun kq v10 v43 w' => ∃ (x10_1 : List Int) (x43_1 : Int), v43 = .int .i64 x43_1 ∧ Aside0 (mark_counts.l1 kq x10_1 ((rd_T56 l0_0 a2).f1) (((rd_T56 l0_0 a2).f1).length : Int) x43_1 = some r) ∧ Aside0 (kq ≤ k) ∧ Aside0 (Kd.R (Kd.int .i64) 3 w' w.heap.size (fun _ => True) v10 x10_1) ∧ Aside0 (w'.heap[gb123]? = some (.cells #[(.slice (some ad124) l0_0.length c0_0), (.slice A0_1 l0_1.length c0_1)] 25 (0, 0))) ∧ Aside0 (w'.heap[gb125]? = some (.cells #[.int .i64 ((rd_T56 l0_0 a2).f0), (.slice A124_1 ((rd_T56 l0_0 a2).f1).length c124_1)] 56 (0, 0))) ∧ Aside0 (Below w.heap.size w w'))
  case atStart => exact ⟨(([] : List Int)), (0), (by first | rfl | (simp; done) | (simp [*]; done) | (simp [Int.tdiv_eq_ediv_of_nonneg]; done)), H', ⟨Nat.le_refl _⟩, ⟨by first | exact Kd.R_nil _ _ _ _ _ | exact Kd.N_nil _ _ _ _ _ | exact Kd.V_nil _ _ _ _ _ | exact Kd.Q_nil _ _ _ _ _ | exact Kd.S_nil _ _ _ _ _⟩, ⟨by (with_reducible repeat first | apply kn_ | apply kd_ | apply ka_); refine blk_far ?_ NB123_125.out _; (with_reducible repeat first | apply kn_ | apply kd_ | apply ka_); refine blk_far ?_ NB123_125.out _; (with_reducible repeat first | apply kn_ | apply kd_ | apply ka_); exact BK123.out⟩, ⟨by (with_reducible repeat first | apply kn_ | apply kd_ | apply ka_); refine blk_put (cs := #[.int .i64 ((rd_T56 l0_0 a2).f0), .slice none 0 0]) ?_ 1 _ rfl; (with_reducible repeat first | apply kn_ | apply kd_ | apply ka_); refine blk_put (cs := #[.int .i64 0, .slice none 0 0]) ?_ 0 _ rfl; (with_reducible repeat first | apply kn_ | apply kd_ | apply ka_); exact BK125.out⟩, ⟨by repeat (first | (with_reducible first | exact HB.out | apply ba_ | apply bn_ | apply b1_ | refine bs_ ?_ GE123.out | refine bs_ ?_ GE125.out) | exact HB.out)⟩⟩
  case round =>
   clear H'
   (try clear c1); (try clear p1); (try clear q1); (try clear hx1); (try clear qi1); (try clear c2); (try clear p2); (try clear c3); (try clear c4); (try clear c4b0); (try clear c5); (try clear c5b0); (try clear c6); (try clear c6b0); (try clear c6b1); (try clear p6); (try clear c7); (try clear c7b0); (try clear c7b1); (try clear c8); (try clear c8b0); (try clear c8b1); (try clear c12); (try clear p12); (try clear q12); (try clear hx12); (try clear qi12); (try clear c14); (try clear c14b0); (try clear c15); (try clear c15b0); (try clear q16); (try clear c17); (try clear c18); (try clear c18b0); (try clear c18b1); (try clear c22); (try clear c25); (try clear c25b0); (try clear c26); (try clear c26b0); (try clear c27); (try clear c27b0); (try clear c28); (try clear c28b0); (try clear c28b1); (try clear c29); (try clear c34); (try clear c36); (try clear c36b0); (try clear c36b1); (try clear c40); (try clear c45); (try clear z10_0 z10_1); (try clear z13_0 z13_1); (try clear z20_0 z20_1); (try clear z23_0 z23_1); (try clear z32_0 z32_1); (try clear z35_0 z35_1); (try clear z38_0 z38_1); (try clear z41_0 z41_1); (try clear z43_0 z43_1); (try clear z46_0 z46_1); (try clear f10_0 f10_1); (try clear f13_0 f13_1); (try clear f20_0 f20_1); (try clear f23_0 f23_1); (try clear f32_0 f32_1); (try clear f35_0 f35_1); (try clear f38_0 f38_1); (try clear f41_0 f41_1); (try clear f43_0 f43_1); (try clear f46_0 f46_1); (try clear hx124_0); (try clear hx124_1); (try clear hx126_0); (try clear hx127_0); (try clear hx129_0); (try clear p1); (try clear p12); (try clear p124); (try clear p126); (try clear p127); (try clear p129); (try clear p2); (try clear q1); (try clear q12); (try clear q124); (try clear q126); (try clear q127); (try clear q129); (try clear q16)
   obtain ⟨x10_1, x43_1, rfl, HA, HK1, HO_10, BK123, BK125, HB⟩ := hrel
   cases gk with
   | zero => exact absurd HA.out (by simp [mark_counts.l1])
   | succ k1 =>
    have H := HA.out
    clear HA
    simp only [mark_counts.l1] at H
    by_cases c47 : x43_1 < (((rd_T56 l0_0 a2).f1).length : Int); rotate_left
    ·rw [if_neg c47] at H
     have c47b0 : decide (x43_1 < (((rd_T56 l0_0 a2).f1).length : Int)) = false := decide_eq_false c47
     clear c47
     obtain rfl := Option.some.inj H
     go_wp2
     go_ret
     exact ⟨_, by first | rfl | (simp [errW_none, errW_some] <;> rfl) | (simp [*, errW_none, errW_some] <;> rfl) | (simp [Int.tdiv_eq_ediv_of_nonneg]; done), by (with_reducible repeat (first | apply Kd.R_alloc | apply Kd.R_drewN | apply Kd.R_drew)); exact HO_10.out, by repeat (first | (with_reducible first | exact HB.out | apply ba_ | apply bn_ | apply b1_ | refine bs_ ?_ GE123.out | refine bs_ ?_ GE125.out) | exact HB.out)⟩
    rw [if_pos c47] at H
    have c47b0 : decide (x43_1 < (((rd_T56 l0_0 a2).f1).length : Int)) = true := decide_eq_true c47
    clear c47
    by_cases c48 : 0 ≤ x43_1; rotate_left
    ·rw [if_neg c48] at H
     exact absurd H (by simp)
    rw [if_pos c48] at H
    have c48b0 : decide (0 ≤ x43_1) = true := decide_eq_true c48
    clear c48
    by_cases c49 : x43_1 < (((rd_T56 l0_0 a2).f1).length : Int); rotate_left
    ·rw [if_neg c49] at H
     exact absurd H (by simp)
    rw [if_pos c49] at H
    have c49b0 : decide (x43_1 < (((rd_T56 l0_0 a2).f1).length : Int)) = true := decide_eq_true c49
    clear c49
    by_cases c50 : (rd ((rd_T56 l0_0 a2).f1) x43_1) = (-1)
    ·rw [if_pos c50] at H
     have c50b0 : ((rd ((rd_T56 l0_0 a2).f1) x43_1) == (-1)) = true := beq_iff_eq.mpr c50
     have c50b1 : ((rd ((rd_T56 l0_0 a2).f1) x43_1) != (-1)) = false := bne_eq_false_iff_eq.mpr c50
     clear c50
     have H' := ak H
     clear H
     have p133 : 0 ≤ (x43_1 : Int) := of_decide_eq_true (by first | (with_reducible assumption) | assumption)
     have q133 : x43_1 < (((rd_T56 l0_0 a2).f1).length : Int) := of_decide_eq_true (by first | (with_reducible assumption) | assumption)
     obtain ⟨ad133, e133, hx133_0⟩ := Kd.at_int HR124_1.out x43_1 p133 q133
     cases e133
     replace hx133_0 := (HB.out.cell (World.block_lt_of_cell? w _ hx133_0)).trans hx133_0
     replace p133 := eq_true p133
     replace q133 := eq_true q133
     go_wp2
     go_roundg k1
     case measure => have := HK1.out; omega
     case rel => exact ⟨(x10_1), (wrap64 (x43_1 + 1)), (by first | rfl | (simp; done) | (simp [*]; done) | (simp [Int.tdiv_eq_ediv_of_nonneg]; done)), H', ⟨by have := HK1.out; omega⟩, ⟨by (with_reducible repeat (first | apply Kd.R_alloc | apply Kd.R_drewN | apply Kd.R_drew)); exact HO_10.out⟩, ⟨by (with_reducible repeat first | apply kn_ | apply kd_ | apply ka_); exact BK123.out⟩, ⟨by (with_reducible repeat first | apply kn_ | apply kd_ | apply ka_); exact BK125.out⟩, ⟨by repeat (first | (with_reducible first | exact HB.out | apply ba_ | apply bn_ | apply b1_ | refine bs_ ?_ GE123.out | refine bs_ ?_ GE125.out) | exact HB.out)⟩⟩
    rw [if_neg c50] at H
    have c50b0 : ((rd ((rd_T56 l0_0 a2).f1) x43_1) == (-1)) = false := beq_eq_false_iff_ne.mpr c50
    have c50b1 : ((rd ((rd_T56 l0_0 a2).f1) x43_1) != (-1)) = true := bne_iff_ne.mpr c50
    by_cases c51 : x10_1.length < 17592186044416; rotate_left
    ·rw [if_neg c51] at H
     exact absurd H (by simp)
    rw [if_pos c51] at H
    have LMc51 := ak c51
    clear c51
    obtain ⟨y134, hy134⟩ : ∃ y_ : List Int, y_ = (x10_1 ++ [rd ((rd_T56 l0_0 a2).f1) x43_1]) := ⟨_, rfl⟩
    replace H : (mark_counts.l1 k1 y134 ((rd_T56 l0_0 a2).f1) (((rd_T56 l0_0 a2).f1).length : Int) (wrap64 (x43_1 + 1))) = some r := by first | (rw [hy134]; with_reducible exact H) | (have H2_ := (Option.bind_some _ _).symm.trans H; rw [hy134]; with_reducible exact H2_) | (have H2_ := (Option.bind_some _ _).symm.trans H; with_reducible exact H2_) | with_reducible exact H | (rw [hy134]; exact H) | exact H
    have Ny134 := ak hy134
    clear hy134
    have H' := ak H
    clear H
    have p133 : 0 ≤ (x43_1 : Int) := of_decide_eq_true (by first | (with_reducible assumption) | assumption)
    have q133 : x43_1 < (((rd_T56 l0_0 a2).f1).length : Int) := of_decide_eq_true (by first | (with_reducible assumption) | assumption)
    obtain ⟨ad133, e133, hx133_0⟩ := Kd.at_int HR124_1.out x43_1 p133 q133
    cases e133
    replace hx133_0 := (HB.out.cell (World.block_lt_of_cell? w _ hx133_0)).trans hx133_0
    replace p133 := eq_true p133
    replace q133 := eq_true q133
    go_wp2_with (first | ((with_reducible refine gate_builtin (b := .append) (xs := #[.tmp 49, .tmp 51]) rfl ?_); at_builtin; refine Kd.R_append (Kd.int .i64) (w0 := w) w.heap.size rfl (.tmp 49) (.tmp 51) 23 3 (.int .i64 0) 8 rfl Try.underlying23 info3 rfl (by decide) (by omega) u10 x10_1 (rd ((rd_T56 l0_0 a2).f1) x43_1) [.int .i64 (rd ((rd_T56 l0_0 a2).f1) x43_1)] (fun _ => True) (fun _ => False) rfl rfl ?aP (fun _ hk => hk.elim) ?aF ?aO ?aB ?aS ?aL ?_; (case aP => exact rfl); (case aB => exact (by repeat (first | (with_reducible first | exact HB.out | apply ba_ | apply bn_ | apply b1_ | refine bs_ ?_ GE123.out | refine bs_ ?_ GE125.out) | exact HB.out))); (case aF => exact (fun _ _ => trivial)); (case aO => exact (by (with_reducible repeat (first | apply Kd.R_alloc | apply Kd.R_drewN | apply Kd.R_drew)); exact HO_10.out)); (case aS => exact (below_size (by repeat (first | (with_reducible first | exact HB.out | apply ba_ | apply bn_ | apply b1_ | refine bs_ ?_ GE123.out | refine bs_ ?_ GE125.out) | exact HB.out)))); (case aL => have := LMc51.out; omega); intro v135 w52 ho hb hg hat; rw [← Ny134.out] at ho; have n0_ := ak (blk_grown (g := gb123) (o := .cells #[.slice (some ad124) l0_0.length c0_0, .slice A0_1 l0_1.length c0_1] 25 (0, 0)) (by (with_reducible repeat first | apply kn_ | apply kd_ | apply ka_); exact BK123.out) hg (Kd.R_ne HO_10.out BK123.out (by decide))); have n1_ := ak (blk_grown (g := gb125) (o := .cells #[.int .i64 ((rd_T56 l0_0 a2).f0), .slice (some ad133) ((rd_T56 l0_0 a2).f1).length c124_1] 56 (0, 0)) (by (with_reducible repeat first | apply kn_ | apply kd_ | apply ka_); exact BK125.out) hg (Kd.R_ne HO_10.out BK125.out (by decide))); have n2_ := ak (hb); have n3_ := ak (ho); clear BK123 BK125 HB HO_10; have BK123 := n0_; have BK125 := n1_; have HB := n2_; have HO136 := n3_; clear n0_ n1_ n2_ n3_ ho hb hg hat))
    go_roundg k1
    case measure => have := HK1.out; omega
    case rel => exact ⟨(y134), (wrap64 (x43_1 + 1)), (by first | rfl | (simp; done) | (simp [*]; done) | (simp [Int.tdiv_eq_ediv_of_nonneg]; done)), H', ⟨by have := HK1.out; omega⟩, ⟨by (with_reducible repeat (first | apply Kd.R_alloc | apply Kd.R_drewN | apply Kd.R_drew)); exact HO136.out⟩, ⟨by (with_reducible repeat first | apply kn_ | apply kd_ | apply ka_); exact BK123.out⟩, ⟨by (with_reducible repeat first | apply kn_ | apply kd_ | apply ka_); exact BK125.out⟩, ⟨by repeat (first | (with_reducible first | exact HB.out | apply ba_ | apply bn_ | apply b1_ | refine bs_ ?_ GE123.out | refine bs_ ?_ GE125.out) | exact HB.out)⟩⟩
 rw [if_pos c6] at H
 have c6b0 : (((rd_T56 l0_0 a2).f0) == 3) = true := beq_iff_eq.mpr c6
 have c6b1 : (((rd_T56 l0_0 a2).f0) != 3) = false := bne_eq_false_iff_eq.mpr c6
 clear c6
 by_cases c7 : 0 < (((rd_T56 l0_0 a2).f1).length : Int); rotate_left
 ·rw [if_neg c7] at H
  exact absurd H (by simp)
 rw [if_pos c7] at H
 have c7b0 : decide (0 < (((rd_T56 l0_0 a2).f1).length : Int)) = true := decide_eq_true c7
 have c7b1 : decide (0 < ((rd_T56 l0_0 a2).f1).length) = true := decide_eq_true (by omega)
 clear c7
 by_cases c8 : (rd ((rd_T56 l0_0 a2).f1) 0) = (-1)
 ·rw [if_pos c8] at H
  have c8b0 : ((rd ((rd_T56 l0_0 a2).f1) 0) == (-1)) = true := beq_iff_eq.mpr c8
  have c8b1 : ((rd ((rd_T56 l0_0 a2).f1) 0) != (-1)) = false := bne_eq_false_iff_eq.mpr c8
  clear c8
  obtain rfl := Option.some.inj H
  go_enter Try.func45, Try.ntmps45
  go_wp2_with (first | ((with_reducible refine gate_dst (N := 3) rfl ?_); refine box_event ?hg (N := 3) ?hd (cs := #[.slice A0_0 l0_0.length c0_0, .slice A0_1 l0_1.length c0_1]) (t := 25) ?hr ?_; (case hd => rfl); (case hg => rfl); (case hr => first | (go_simp; done) | (go_simp; rfl)); intro gb123 hg w9 hbox hb; have n0_ := ak (below_step (by repeat (first | (with_reducible first | exact HB.out | apply ba_ | apply bn_ | apply b1_) | exact HB.out)) hb); have n1_ := ak (hbox); have n2_ := ak ((by rw [hg]; exact (below_size (by repeat (first | (with_reducible first | exact HB.out | apply ba_ | apply bn_ | apply b1_) | exact HB.out))) : w.heap.size ≤ gb123)); have n3_ := n2_; clear HB; have HB := n0_; have BK123 := n1_; have GW123 := n2_; have GE123 := n3_; clear n0_ n1_ n2_ n3_ hb hbox hg; obtain ⟨z10_0, z10_1, f10_0, f10_1⟩ := kk2 BK123.out; have p124 : 0 ≤ (a2 : Int) := of_decide_eq_true (by first | (with_reducible assumption) | assumption); have q124 : a2 < (l0_0.length : Int) := of_decide_eq_true (by first | (with_reducible assumption) | assumption); obtain ⟨ad124, A124_1, c124_1, e124, hx124_0, hx124_1, hl124_1, hi124_1⟩ := at_T56 HR0_0.out a2 p124 q124; cases e124; replace hx124_0 := (HB.out.cell (World.block_lt_of_cell? w _ hx124_0)).trans hx124_0; replace hx124_1 := (HB.out.cell (World.block_lt_of_cell? w _ hx124_1)).trans hx124_1; have HR124_1 := ak hi124_1; have HC124_1 := ak hl124_1; clear hi124_1 hl124_1; replace p124 := eq_true p124; replace q124 := eq_true q124) | ((with_reducible refine gate_dst (N := 7) rfl ?_); refine box_event ?hg (N := 7) ?hd (cs := #[.int .i64 0, .slice none 0 0]) (t := 56) ?hr ?_; (case hd => rfl); (case hg => rfl); (case hr => first | (go_simp; done) | (go_simp; rfl)); intro gb125 hg w11 hbox hb; have n0_ := ak (blk_below (by (with_reducible repeat first | apply kn_ | apply kd_ | apply ka_); exact BK123.out) hb); have n1_ := ak (below_step (by repeat (first | (with_reducible first | exact HB.out | apply ba_ | apply bn_ | apply b1_ | refine bs_ ?_ GE123.out) | exact HB.out)) hb); have n2_ := ak (hbox); have n3_ := ak ((by rw [hg]; exact (below_size (by repeat (first | (with_reducible first | exact HB.out | apply ba_ | apply bn_ | apply b1_ | refine bs_ ?_ GE123.out) | exact HB.out))) : w.heap.size ≤ gb125)); have n4_ := n3_; have n5_ := ak ((by rw [hg]; exact Nat.ne_of_lt (blk_lt (g := gb123) (o := .cells #[.slice (some ad124) l0_0.length c0_0, .slice A0_1 l0_1.length c0_1] 25 (0, 0)) (by (with_reducible repeat first | apply kn_ | apply kd_ | apply ka_); exact BK123.out)) : gb123 ≠ gb125)); have n6_ := ak ((by rw [hg]; exact Nat.ne_of_gt (blk_lt (g := gb123) (o := .cells #[.slice (some ad124) l0_0.length c0_0, .slice A0_1 l0_1.length c0_1] 25 (0, 0)) (by (with_reducible repeat first | apply kn_ | apply kd_ | apply ka_); exact BK123.out)) : gb125 ≠ gb123)); clear BK123 HB; have BK123 := n0_; have HB := n1_; have BK125 := n2_; have GW125 := n3_; have GE125 := n4_; have NB123_125 := n5_; have NB125_123 := n6_; clear n0_ n1_ n2_ n3_ n4_ n5_ n6_ hb hbox hg; have hnb12 := NB125_123.out; have hnc12 := NB123_125.out; obtain ⟨z13_0, z13_1, f13_0, f13_1⟩ := kk2 BK125.out; have p126 : 0 ≤ (0 : Int) := (by omega); have q126 : 0 < (((rd_T56 l0_0 a2).f1).length : Int) := of_decide_eq_true (by first | (with_reducible assumption) | assumption); obtain ⟨ad126, e126, hx126_0⟩ := Kd.at_int HR124_1.out 0 p126 q126; cases e126; have qi126 : (0 < ((rd_T56 l0_0 a2).f1).length) = True := eq_true (by omega); (try rw [show ((0 : Int)).toNat = 0 from rfl] at hx126_0); (try rw [Addr.add_zero'] at hx126_0); have hn126_0 : ad126.block ≠ gb125 := Nat.ne_of_lt (Nat.lt_of_lt_of_le (by have := World.block_lt_of_cell? _ _ hx126_0; first | rwa [add_block] at this | exact this) GW125.out); have hn126_1 : ad126.block ≠ gb125 := Nat.ne_of_lt (Nat.lt_of_lt_of_le (by have := World.block_lt_of_cell? _ _ hx126_0; first | rwa [add_block] at this | exact this) GW125.out); replace hx126_0 := (HB.out.cell (World.block_lt_of_cell? w _ hx126_0)).trans hx126_0; replace hx126_0 := (cell_far (p := ⟨gb125, 0, none⟩) (by first | (rw [add_block]; exact hn126_0) | (show (Addr.add _ _).block ≠ _; rw [add_block]; exact hn126_0) | exact hn126_0) (.int .i64 ((rd_T56 l0_0 a2).f0))).trans hx126_0; replace hx126_0 := (cell_far (p := ⟨gb125, 1, none⟩) (by first | (rw [add_block]; exact hn126_1) | (show (Addr.add _ _).block ≠ _; rw [add_block]; exact hn126_1) | exact hn126_1) (.slice (some ad126) ((rd_T56 l0_0 a2).f1).length c124_1)).trans hx126_0; clear hn126_0 hn126_1; replace p126 := eq_true p126; replace q126 := eq_true q126))
  go_ret
  exact ⟨_, by first | rfl | (simp [errW_none, errW_some] <;> rfl) | (simp [*, errW_none, errW_some] <;> rfl) | (simp [Int.tdiv_eq_ediv_of_nonneg]; done), by first | exact Kd.R_nil _ _ _ _ _ | exact Kd.N_nil _ _ _ _ _ | exact Kd.V_nil _ _ _ _ _ | exact Kd.Q_nil _ _ _ _ _ | exact Kd.S_nil _ _ _ _ _, by repeat (first | (with_reducible first | exact HB.out | apply ba_ | apply bn_ | apply b1_ | refine bs_ ?_ GE123.out | refine bs_ ?_ GE125.out) | exact HB.out)⟩
 rw [if_neg c8] at H
 have c8b0 : ((rd ((rd_T56 l0_0 a2).f1) 0) == (-1)) = false := beq_eq_false_iff_ne.mpr c8
 have c8b1 : ((rd ((rd_T56 l0_0 a2).f1) 0) != (-1)) = true := bne_iff_ne.mpr c8
 by_cases c14 : 0 ≤ (rd ((rd_T56 l0_0 a2).f1) 0); rotate_left
 ·rw [if_neg c14] at H
  exact absurd H (by simp)
 rw [if_pos c14] at H
 have c14b0 : decide (0 ≤ (rd ((rd_T56 l0_0 a2).f1) 0)) = true := decide_eq_true c14
 clear c14
 by_cases c15 : (rd ((rd_T56 l0_0 a2).f1) 0) < (l1.length : Int); rotate_left
 ·rw [if_neg c15] at H
  exact absurd H (by simp)
 rw [if_pos c15] at H
 have c15b0 : decide ((rd ((rd_T56 l0_0 a2).f1) 0) < (l1.length : Int)) = true := decide_eq_true c15
 clear c15
 obtain ⟨bq16, hbq16⟩ : ∃ b_ : Bool, b_ = (rdOf false l1 (rd ((rd_T56 l0_0 a2).f1) 0)) := ⟨_, rfl⟩
 replace H : (if (bq16 = true) then (if 1 ≤ (((rd_T56 l0_0 a2).f1).length : Int) then (mark_counts.l0 k ([] : List Int) (((rd_T56 l0_0 a2).f1).drop 1) ((((rd_T56 l0_0 a2).f1).drop 1).length : Int) 0) else (none)) else (some ([] : List Int))) = some r := by rw [← hbq16] at H; exact H
 have Nbq16 := ak hbq16
 clear hbq16
 by_cases c17 : (bq16 = true); rotate_left
 ·replace c17 := Bool.eq_false_iff.mpr c17
  subst c17
  have H1 : (some ([] : List Int)) = some r := by rw [if_neg (show ¬ (false = true) by decide)] at H; exact H
  clear H
  have H := H1
  clear H1
  obtain rfl := Option.some.inj H
  go_enter Try.func45, Try.ntmps45
  go_wp2_with (first | ((with_reducible refine gate_dst (N := 3) rfl ?_); refine box_event ?hg (N := 3) ?hd (cs := #[.slice A0_0 l0_0.length c0_0, .slice A0_1 l0_1.length c0_1]) (t := 25) ?hr ?_; (case hd => rfl); (case hg => rfl); (case hr => first | (go_simp; done) | (go_simp; rfl)); intro gb123 hg w31 hbox hb; have n0_ := ak (below_step (by repeat (first | (with_reducible first | exact HB.out | apply ba_ | apply bn_ | apply b1_) | exact HB.out)) hb); have n1_ := ak (hbox); have n2_ := ak ((by rw [hg]; exact (below_size (by repeat (first | (with_reducible first | exact HB.out | apply ba_ | apply bn_ | apply b1_) | exact HB.out))) : w.heap.size ≤ gb123)); have n3_ := n2_; clear HB; have HB := n0_; have BK123 := n1_; have GW123 := n2_; have GE123 := n3_; clear n0_ n1_ n2_ n3_ hb hbox hg; obtain ⟨z32_0, z32_1, f32_0, f32_1⟩ := kk2 BK123.out; have p124 : 0 ≤ (a2 : Int) := of_decide_eq_true (by first | (with_reducible assumption) | assumption); have q124 : a2 < (l0_0.length : Int) := of_decide_eq_true (by first | (with_reducible assumption) | assumption); obtain ⟨ad124, A124_1, c124_1, e124, hx124_0, hx124_1, hl124_1, hi124_1⟩ := at_T56 HR0_0.out a2 p124 q124; cases e124; replace hx124_0 := (HB.out.cell (World.block_lt_of_cell? w _ hx124_0)).trans hx124_0; replace hx124_1 := (HB.out.cell (World.block_lt_of_cell? w _ hx124_1)).trans hx124_1; have HR124_1 := ak hi124_1; have HC124_1 := ak hl124_1; clear hi124_1 hl124_1; replace p124 := eq_true p124; replace q124 := eq_true q124) | ((with_reducible refine gate_dst (N := 7) rfl ?_); refine box_event ?hg (N := 7) ?hd (cs := #[.int .i64 0, .slice none 0 0]) (t := 56) ?hr ?_; (case hd => rfl); (case hg => rfl); (case hr => first | (go_simp; done) | (go_simp; rfl)); intro gb125 hg w33 hbox hb; have n0_ := ak (blk_below (by (with_reducible repeat first | apply kn_ | apply kd_ | apply ka_); exact BK123.out) hb); have n1_ := ak (below_step (by repeat (first | (with_reducible first | exact HB.out | apply ba_ | apply bn_ | apply b1_ | refine bs_ ?_ GE123.out) | exact HB.out)) hb); have n2_ := ak (hbox); have n3_ := ak ((by rw [hg]; exact (below_size (by repeat (first | (with_reducible first | exact HB.out | apply ba_ | apply bn_ | apply b1_ | refine bs_ ?_ GE123.out) | exact HB.out))) : w.heap.size ≤ gb125)); have n4_ := n3_; have n5_ := ak ((by rw [hg]; exact Nat.ne_of_lt (blk_lt (g := gb123) (o := .cells #[.slice (some ad124) l0_0.length c0_0, .slice A0_1 l0_1.length c0_1] 25 (0, 0)) (by (with_reducible repeat first | apply kn_ | apply kd_ | apply ka_); exact BK123.out)) : gb123 ≠ gb125)); have n6_ := ak ((by rw [hg]; exact Nat.ne_of_gt (blk_lt (g := gb123) (o := .cells #[.slice (some ad124) l0_0.length c0_0, .slice A0_1 l0_1.length c0_1] 25 (0, 0)) (by (with_reducible repeat first | apply kn_ | apply kd_ | apply ka_); exact BK123.out)) : gb125 ≠ gb123)); clear BK123 HB; have BK123 := n0_; have HB := n1_; have BK125 := n2_; have GW125 := n3_; have GE125 := n4_; have NB123_125 := n5_; have NB125_123 := n6_; clear n0_ n1_ n2_ n3_ n4_ n5_ n6_ hb hbox hg; have hnb34 := NB125_123.out; have hnc34 := NB123_125.out; obtain ⟨z35_0, z35_1, f35_0, f35_1⟩ := kk2 BK125.out; have p126 : 0 ≤ (0 : Int) := (by omega); have q126 : 0 < (((rd_T56 l0_0 a2).f1).length : Int) := of_decide_eq_true (by first | (with_reducible assumption) | assumption); obtain ⟨ad126, e126, hx126_0⟩ := Kd.at_int HR124_1.out 0 p126 q126; cases e126; have qi126 : (0 < ((rd_T56 l0_0 a2).f1).length) = True := eq_true (by omega); (try rw [show ((0 : Int)).toNat = 0 from rfl] at hx126_0); (try rw [Addr.add_zero'] at hx126_0); have hn126_0 : ad126.block ≠ gb125 := Nat.ne_of_lt (Nat.lt_of_lt_of_le (by have := World.block_lt_of_cell? _ _ hx126_0; first | rwa [add_block] at this | exact this) GW125.out); have hn126_1 : ad126.block ≠ gb125 := Nat.ne_of_lt (Nat.lt_of_lt_of_le (by have := World.block_lt_of_cell? _ _ hx126_0; first | rwa [add_block] at this | exact this) GW125.out); replace hx126_0 := (HB.out.cell (World.block_lt_of_cell? w _ hx126_0)).trans hx126_0; replace hx126_0 := (cell_far (p := ⟨gb125, 0, none⟩) (by first | (rw [add_block]; exact hn126_0) | (show (Addr.add _ _).block ≠ _; rw [add_block]; exact hn126_0) | exact hn126_0) (.int .i64 ((rd_T56 l0_0 a2).f0))).trans hx126_0; replace hx126_0 := (cell_far (p := ⟨gb125, 1, none⟩) (by first | (rw [add_block]; exact hn126_1) | (show (Addr.add _ _).block ≠ _; rw [add_block]; exact hn126_1) | exact hn126_1) (.slice (some ad126) ((rd_T56 l0_0 a2).f1).length c124_1)).trans hx126_0; clear hn126_0 hn126_1; replace p126 := eq_true p126; replace q126 := eq_true q126; have p127 : 0 ≤ ((rd ((rd_T56 l0_0 a2).f1) 0) : Int) := of_decide_eq_true (by first | (with_reducible assumption) | assumption); have q127 : (rd ((rd_T56 l0_0 a2).f1) 0) < (l1.length : Int) := of_decide_eq_true (by first | (with_reducible assumption) | assumption); obtain ⟨ad127, e127, hx127_0⟩ := Kd.at_bool HR1.out (rd ((rd_T56 l0_0 a2).f1) 0) p127 q127; (try rw [← Nbq16.out] at hx127_0); cases e127; have hn127_0 : ad127.block ≠ gb125 := Nat.ne_of_lt (Nat.lt_of_lt_of_le (by have := World.block_lt_of_cell? _ _ hx127_0; first | rwa [add_block] at this | exact this) GW125.out); have hn127_1 : ad127.block ≠ gb125 := Nat.ne_of_lt (Nat.lt_of_lt_of_le (by have := World.block_lt_of_cell? _ _ hx127_0; first | rwa [add_block] at this | exact this) GW125.out); replace hx127_0 := (HB.out.cell (World.block_lt_of_cell? w _ hx127_0)).trans hx127_0; replace hx127_0 := (cell_far (p := ⟨gb125, 0, none⟩) (by first | (rw [add_block]; exact hn127_0) | (show (Addr.add _ _).block ≠ _; rw [add_block]; exact hn127_0) | exact hn127_0) (.int .i64 ((rd_T56 l0_0 a2).f0))).trans hx127_0; replace hx127_0 := (cell_far (p := ⟨gb125, 1, none⟩) (by first | (rw [add_block]; exact hn127_1) | (show (Addr.add _ _).block ≠ _; rw [add_block]; exact hn127_1) | exact hn127_1) (.slice (some ad126) ((rd_T56 l0_0 a2).f1).length c124_1)).trans hx127_0; clear hn127_0 hn127_1; replace p127 := eq_true p127; replace q127 := eq_true q127))
  go_ret
  exact ⟨_, by first | rfl | (simp [errW_none, errW_some] <;> rfl) | (simp [*, errW_none, errW_some] <;> rfl) | (simp [Int.tdiv_eq_ediv_of_nonneg]; done), by first | exact Kd.R_nil _ _ _ _ _ | exact Kd.N_nil _ _ _ _ _ | exact Kd.V_nil _ _ _ _ _ | exact Kd.Q_nil _ _ _ _ _ | exact Kd.S_nil _ _ _ _ _, by repeat (first | (with_reducible first | exact HB.out | apply ba_ | apply bn_ | apply b1_ | refine bs_ ?_ GE123.out | refine bs_ ?_ GE125.out) | exact HB.out)⟩
 subst c17
 have H1 : (if 1 ≤ (((rd_T56 l0_0 a2).f1).length : Int) then (mark_counts.l0 k ([] : List Int) (((rd_T56 l0_0 a2).f1).drop 1) ((((rd_T56 l0_0 a2).f1).drop 1).length : Int) 0) else (none)) = some r := by rw [if_pos rfl] at H; exact H
 clear H
 have H := H1
 clear H1
 by_cases c18 : 1 ≤ (((rd_T56 l0_0 a2).f1).length : Int); rotate_left
 ·rw [if_neg c18] at H
  exact absurd H (by simp)
 rw [if_pos c18] at H
 have c18b0 := eq_true c18
 have c18b1 : decide (1 ≤ (((rd_T56 l0_0 a2).f1).length : Int)) = true := decide_eq_true c18
 clear c18
 have H' := ak H
 clear H
 go_enter Try.func45, Try.ntmps45
 go_wp2_with (first | ((with_reducible refine gate_dst (N := 3) rfl ?_); refine box_event ?hg (N := 3) ?hd (cs := #[.slice A0_0 l0_0.length c0_0, .slice A0_1 l0_1.length c0_1]) (t := 25) ?hr ?_; (case hd => rfl); (case hg => rfl); (case hr => first | (go_simp; done) | (go_simp; rfl)); intro gb123 hg w19 hbox hb; have n0_ := ak (below_step (by repeat (first | (with_reducible first | exact HB.out | apply ba_ | apply bn_ | apply b1_) | exact HB.out)) hb); have n1_ := ak (hbox); have n2_ := ak ((by rw [hg]; exact (below_size (by repeat (first | (with_reducible first | exact HB.out | apply ba_ | apply bn_ | apply b1_) | exact HB.out))) : w.heap.size ≤ gb123)); have n3_ := n2_; clear HB; have HB := n0_; have BK123 := n1_; have GW123 := n2_; have GE123 := n3_; clear n0_ n1_ n2_ n3_ hb hbox hg; obtain ⟨z20_0, z20_1, f20_0, f20_1⟩ := kk2 BK123.out; have p124 : 0 ≤ (a2 : Int) := of_decide_eq_true (by first | (with_reducible assumption) | assumption); have q124 : a2 < (l0_0.length : Int) := of_decide_eq_true (by first | (with_reducible assumption) | assumption); obtain ⟨ad124, A124_1, c124_1, e124, hx124_0, hx124_1, hl124_1, hi124_1⟩ := at_T56 HR0_0.out a2 p124 q124; cases e124; replace hx124_0 := (HB.out.cell (World.block_lt_of_cell? w _ hx124_0)).trans hx124_0; replace hx124_1 := (HB.out.cell (World.block_lt_of_cell? w _ hx124_1)).trans hx124_1; have HR124_1 := ak hi124_1; have HC124_1 := ak hl124_1; clear hi124_1 hl124_1; replace p124 := eq_true p124; replace q124 := eq_true q124) | ((with_reducible refine gate_dst (N := 7) rfl ?_); refine box_event ?hg (N := 7) ?hd (cs := #[.int .i64 0, .slice none 0 0]) (t := 56) ?hr ?_; (case hd => rfl); (case hg => rfl); (case hr => first | (go_simp; done) | (go_simp; rfl)); intro gb125 hg w21 hbox hb; have n0_ := ak (blk_below (by (with_reducible repeat first | apply kn_ | apply kd_ | apply ka_); exact BK123.out) hb); have n1_ := ak (below_step (by repeat (first | (with_reducible first | exact HB.out | apply ba_ | apply bn_ | apply b1_ | refine bs_ ?_ GE123.out) | exact HB.out)) hb); have n2_ := ak (hbox); have n3_ := ak ((by rw [hg]; exact (below_size (by repeat (first | (with_reducible first | exact HB.out | apply ba_ | apply bn_ | apply b1_ | refine bs_ ?_ GE123.out) | exact HB.out))) : w.heap.size ≤ gb125)); have n4_ := n3_; have n5_ := ak ((by rw [hg]; exact Nat.ne_of_lt (blk_lt (g := gb123) (o := .cells #[.slice (some ad124) l0_0.length c0_0, .slice A0_1 l0_1.length c0_1] 25 (0, 0)) (by (with_reducible repeat first | apply kn_ | apply kd_ | apply ka_); exact BK123.out)) : gb123 ≠ gb125)); have n6_ := ak ((by rw [hg]; exact Nat.ne_of_gt (blk_lt (g := gb123) (o := .cells #[.slice (some ad124) l0_0.length c0_0, .slice A0_1 l0_1.length c0_1] 25 (0, 0)) (by (with_reducible repeat first | apply kn_ | apply kd_ | apply ka_); exact BK123.out)) : gb125 ≠ gb123)); clear BK123 HB; have BK123 := n0_; have HB := n1_; have BK125 := n2_; have GW125 := n3_; have GE125 := n4_; have NB123_125 := n5_; have NB125_123 := n6_; clear n0_ n1_ n2_ n3_ n4_ n5_ n6_ hb hbox hg; have hnb22 := NB125_123.out; have hnc22 := NB123_125.out; obtain ⟨z23_0, z23_1, f23_0, f23_1⟩ := kk2 BK125.out; have p126 : 0 ≤ (0 : Int) := (by omega); have q126 : 0 < (((rd_T56 l0_0 a2).f1).length : Int) := of_decide_eq_true (by first | (with_reducible assumption) | assumption); obtain ⟨ad126, e126, hx126_0⟩ := Kd.at_int HR124_1.out 0 p126 q126; cases e126; have qi126 : (0 < ((rd_T56 l0_0 a2).f1).length) = True := eq_true (by omega); (try rw [show ((0 : Int)).toNat = 0 from rfl] at hx126_0); (try rw [Addr.add_zero'] at hx126_0); have hn126_0 : ad126.block ≠ gb125 := Nat.ne_of_lt (Nat.lt_of_lt_of_le (by have := World.block_lt_of_cell? _ _ hx126_0; first | rwa [add_block] at this | exact this) GW125.out); have hn126_1 : ad126.block ≠ gb125 := Nat.ne_of_lt (Nat.lt_of_lt_of_le (by have := World.block_lt_of_cell? _ _ hx126_0; first | rwa [add_block] at this | exact this) GW125.out); replace hx126_0 := (HB.out.cell (World.block_lt_of_cell? w _ hx126_0)).trans hx126_0; replace hx126_0 := (cell_far (p := ⟨gb125, 0, none⟩) (by first | (rw [add_block]; exact hn126_0) | (show (Addr.add _ _).block ≠ _; rw [add_block]; exact hn126_0) | exact hn126_0) (.int .i64 ((rd_T56 l0_0 a2).f0))).trans hx126_0; replace hx126_0 := (cell_far (p := ⟨gb125, 1, none⟩) (by first | (rw [add_block]; exact hn126_1) | (show (Addr.add _ _).block ≠ _; rw [add_block]; exact hn126_1) | exact hn126_1) (.slice (some ad126) ((rd_T56 l0_0 a2).f1).length c124_1)).trans hx126_0; clear hn126_0 hn126_1; replace p126 := eq_true p126; replace q126 := eq_true q126; have p127 : 0 ≤ ((rd ((rd_T56 l0_0 a2).f1) 0) : Int) := of_decide_eq_true (by first | (with_reducible assumption) | assumption); have q127 : (rd ((rd_T56 l0_0 a2).f1) 0) < (l1.length : Int) := of_decide_eq_true (by first | (with_reducible assumption) | assumption); obtain ⟨ad127, e127, hx127_0⟩ := Kd.at_bool HR1.out (rd ((rd_T56 l0_0 a2).f1) 0) p127 q127; (try rw [← Nbq16.out] at hx127_0); cases e127; have hn127_0 : ad127.block ≠ gb125 := Nat.ne_of_lt (Nat.lt_of_lt_of_le (by have := World.block_lt_of_cell? _ _ hx127_0; first | rwa [add_block] at this | exact this) GW125.out); have hn127_1 : ad127.block ≠ gb125 := Nat.ne_of_lt (Nat.lt_of_lt_of_le (by have := World.block_lt_of_cell? _ _ hx127_0; first | rwa [add_block] at this | exact this) GW125.out); replace hx127_0 := (HB.out.cell (World.block_lt_of_cell? w _ hx127_0)).trans hx127_0; replace hx127_0 := (cell_far (p := ⟨gb125, 0, none⟩) (by first | (rw [add_block]; exact hn127_0) | (show (Addr.add _ _).block ≠ _; rw [add_block]; exact hn127_0) | exact hn127_0) (.int .i64 ((rd_T56 l0_0 a2).f0))).trans hx127_0; replace hx127_0 := (cell_far (p := ⟨gb125, 1, none⟩) (by first | (rw [add_block]; exact hn127_1) | (show (Addr.add _ _).block ≠ _; rw [add_block]; exact hn127_1) | exact hn127_1) (.slice (some ad126) ((rd_T56 l0_0 a2).f1).length c124_1)).trans hx127_0; clear hn127_0 hn127_1; replace p127 := eq_true p127; replace q127 := eq_true q127; obtain ⟨i024, hi024, _, hsz24, _⟩ := info_parts info3; obtain ⟨A24, hcut24, hA24, hC24⟩ := print_drop_of (P := Try.prog) (Value.int .i64) 0 23 3 .i64 Try.underlying23 hi024 hsz24 (some ad126) c124_1 ((rd_T56 l0_0 a2).f1) 1 (by omega) (of_decide_eq_true (by first | (with_reducible assumption) | assumption)) HC124_1.out; have HR128 := ak (Kd.C_of_reads (h1 := fun _ => rfl) (hA24 _ (Kd.reads_of_C HR124_1.out))); have HC128 := ak hC24; clear hA24 hC24 hi024 hsz24))
 go_loopg [10, 43] k (fun kq v10 v43 w' => ∃ (x10_1 : List Int) (x43_1 : Int), v43 = .int .i64 x43_1 ∧ Aside0 (mark_counts.l0 kq x10_1 (((rd_T56 l0_0 a2).f1).drop 1) ((((rd_T56 l0_0 a2).f1).drop 1).length : Int) x43_1 = some r) ∧ Aside0 (kq ≤ k) ∧ Aside0 (Kd.R (Kd.int .i64) 3 w' w.heap.size (fun _ => True) v10 x10_1) ∧ Aside0 (w'.heap[gb123]? = some (.cells #[(.slice (some ad124) l0_0.length c0_0), (.slice A0_1 l0_1.length c0_1)] 25 (0, 0))) ∧ Aside0 (w'.heap[gb125]? = some (.cells #[.int .i64 ((rd_T56 l0_0 a2).f0), (.slice (some ad126) ((rd_T56 l0_0 a2).f1).length c124_1)] 56 (0, 0))) ∧ Aside0 (Below w.heap.size w w'))
 case atStart => exact ⟨(([] : List Int)), (0), (by first | rfl | (simp; done) | (simp [*]; done) | (simp [Int.tdiv_eq_ediv_of_nonneg]; done)), H', ⟨Nat.le_refl _⟩, ⟨by first | exact Kd.R_nil _ _ _ _ _ | exact Kd.N_nil _ _ _ _ _ | exact Kd.V_nil _ _ _ _ _ | exact Kd.Q_nil _ _ _ _ _ | exact Kd.S_nil _ _ _ _ _⟩, ⟨by (with_reducible repeat first | apply kn_ | apply kd_ | apply ka_); refine blk_far ?_ NB123_125.out _; (with_reducible repeat first | apply kn_ | apply kd_ | apply ka_); refine blk_far ?_ NB123_125.out _; (with_reducible repeat first | apply kn_ | apply kd_ | apply ka_); exact BK123.out⟩, ⟨by (with_reducible repeat first | apply kn_ | apply kd_ | apply ka_); refine blk_put (cs := #[.int .i64 ((rd_T56 l0_0 a2).f0), .slice none 0 0]) ?_ 1 _ rfl; (with_reducible repeat first | apply kn_ | apply kd_ | apply ka_); refine blk_put (cs := #[.int .i64 0, .slice none 0 0]) ?_ 0 _ rfl; (with_reducible repeat first | apply kn_ | apply kd_ | apply ka_); exact BK125.out⟩, ⟨by repeat (first | (with_reducible first | exact HB.out | apply ba_ | apply bn_ | apply b1_ | refine bs_ ?_ GE123.out | refine bs_ ?_ GE125.out) | exact HB.out)⟩⟩
 case round =>
  clear H'
  (try clear c1); (try clear p1); (try clear q1); (try clear hx1); (try clear qi1); (try clear c2); (try clear p2); (try clear c4); (try clear c4b0); (try clear c5); (try clear c5b0); (try clear c6); (try clear c6b0); (try clear c6b1); (try clear c7); (try clear c7b0); (try clear c7b1); (try clear c8); (try clear c8b0); (try clear c8b1); (try clear c12); (try clear p12); (try clear q12); (try clear hx12); (try clear qi12); (try clear c14); (try clear c14b0); (try clear c15); (try clear c15b0); (try clear q16); (try clear c17); (try clear c18); (try clear c18b0); (try clear c18b1); (try clear c22); (try clear z10_0 z10_1); (try clear z13_0 z13_1); (try clear z20_0 z20_1); (try clear z23_0 z23_1); (try clear f10_0 f10_1); (try clear f13_0 f13_1); (try clear f20_0 f20_1); (try clear f23_0 f23_1); (try clear hx124_0); (try clear hx124_1); (try clear hx126_0); (try clear hx127_0); (try clear p124); (try clear p126); (try clear p127); (try clear q124); (try clear q126); (try clear q127)
  obtain ⟨x10_1, x43_1, rfl, HA, HK1, HO_10, BK123, BK125, HB⟩ := hrel
  cases gk with
  | zero => exact absurd HA.out (by simp [mark_counts.l0])
  | succ k1 =>
   have H := HA.out
   clear HA
   simp only [mark_counts.l0] at H
   rw [show rd (((rd_T56 l0_0 a2).f1).drop 1) x43_1 = rd (((rd_T56 l0_0 a2).f1).tail) x43_1 from by rw [List.drop_one]] at H
   by_cases c25 : x43_1 < ((((rd_T56 l0_0 a2).f1).drop 1).length : Int); rotate_left
   ·rw [if_neg c25] at H
    have c25b0 : decide (x43_1 < ((((rd_T56 l0_0 a2).f1).drop 1).length : Int)) = false := decide_eq_false c25
    have c25b9 : decide (x43_1 < ((((rd_T56 l0_0 a2).f1).length - 1 : Nat) : Int)) = false := by rw [← List.length_drop]; exact c25b0
    clear c25
    obtain rfl := Option.some.inj H
    go_wp2
    go_ret
    exact ⟨_, by first | rfl | (simp [errW_none, errW_some] <;> rfl) | (simp [*, errW_none, errW_some] <;> rfl) | (simp [Int.tdiv_eq_ediv_of_nonneg]; done), by (with_reducible repeat (first | apply Kd.R_alloc | apply Kd.R_drewN | apply Kd.R_drew)); exact HO_10.out, by repeat (first | (with_reducible first | exact HB.out | apply ba_ | apply bn_ | apply b1_ | refine bs_ ?_ GE123.out | refine bs_ ?_ GE125.out) | exact HB.out)⟩
   rw [if_pos c25] at H
   have c25b0 : decide (x43_1 < ((((rd_T56 l0_0 a2).f1).drop 1).length : Int)) = true := decide_eq_true c25
   have c25b9 : decide (x43_1 < ((((rd_T56 l0_0 a2).f1).length - 1 : Nat) : Int)) = true := by rw [← List.length_drop]; exact c25b0
   clear c25
   by_cases c26 : 0 ≤ x43_1; rotate_left
   ·rw [if_neg c26] at H
    exact absurd H (by simp)
   rw [if_pos c26] at H
   have c26b0 : decide (0 ≤ x43_1) = true := decide_eq_true c26
   clear c26
   by_cases c27 : x43_1 < ((((rd_T56 l0_0 a2).f1).drop 1).length : Int); rotate_left
   ·rw [if_neg c27] at H
    exact absurd H (by simp)
   rw [if_pos c27] at H
   have c27b0 : decide (x43_1 < ((((rd_T56 l0_0 a2).f1).drop 1).length : Int)) = true := decide_eq_true c27
   have c27b9 : decide (x43_1 < ((((rd_T56 l0_0 a2).f1).length - 1 : Nat) : Int)) = true := by rw [← List.length_drop]; exact c27b0
   clear c27
   by_cases c28 : (rd (((rd_T56 l0_0 a2).f1).tail) x43_1) = (-1)
   ·rw [if_pos c28] at H
    have c28b0 : ((rd (((rd_T56 l0_0 a2).f1).tail) x43_1) == (-1)) = true := beq_iff_eq.mpr c28
    have c28b1 : ((rd (((rd_T56 l0_0 a2).f1).tail) x43_1) != (-1)) = false := bne_eq_false_iff_eq.mpr c28
    clear c28
    have H' := ak H
    clear H
    have p129 : 0 ≤ (x43_1 : Int) := of_decide_eq_true (by first | (with_reducible assumption) | assumption)
    have q129 : x43_1 < ((((rd_T56 l0_0 a2).f1).drop 1).length : Int) := of_decide_eq_true (by first | (with_reducible assumption) | assumption)
    have q129z : (x43_1 < ((((rd_T56 l0_0 a2).f1).length - 1 : Nat) : Int)) = True := eq_true (by rw [← List.length_drop]; exact q129)
    obtain ⟨ad129, e129, hx129_0⟩ := Kd.at_int HR128.out x43_1 p129 q129
    rw [show (Int.toNat 1) = 1 from rfl, List.drop_one] at hx129_0
    cases e129
    replace hx129_0 := (HB.out.cell (World.block_lt_of_cell? w _ hx129_0)).trans hx129_0
    replace p129 := eq_true p129
    replace q129 := eq_true q129
    go_wp2
    go_roundg k1
    case measure => have := HK1.out; omega
    case rel => exact ⟨(x10_1), (wrap64 (x43_1 + 1)), (by first | rfl | (simp; done) | (simp [*]; done) | (simp [Int.tdiv_eq_ediv_of_nonneg]; done)), H', ⟨by have := HK1.out; omega⟩, ⟨by (with_reducible repeat (first | apply Kd.R_alloc | apply Kd.R_drewN | apply Kd.R_drew)); exact HO_10.out⟩, ⟨by (with_reducible repeat first | apply kn_ | apply kd_ | apply ka_); exact BK123.out⟩, ⟨by (with_reducible repeat first | apply kn_ | apply kd_ | apply ka_); exact BK125.out⟩, ⟨by repeat (first | (with_reducible first | exact HB.out | apply ba_ | apply bn_ | apply b1_ | refine bs_ ?_ GE123.out | refine bs_ ?_ GE125.out) | exact HB.out)⟩⟩
   rw [if_neg c28] at H
   have c28b0 : ((rd (((rd_T56 l0_0 a2).f1).tail) x43_1) == (-1)) = false := beq_eq_false_iff_ne.mpr c28
   have c28b1 : ((rd (((rd_T56 l0_0 a2).f1).tail) x43_1) != (-1)) = true := bne_iff_ne.mpr c28
   by_cases c29 : x10_1.length < 17592186044416; rotate_left
   ·rw [if_neg c29] at H
    exact absurd H (by simp)
   rw [if_pos c29] at H
   have LMc29 := ak c29
   clear c29
   obtain ⟨y130, hy130⟩ : ∃ y_ : List Int, y_ = (x10_1 ++ [rd (((rd_T56 l0_0 a2).f1).tail) x43_1]) := ⟨_, rfl⟩
   replace H : (mark_counts.l0 k1 y130 (((rd_T56 l0_0 a2).f1).drop 1) ((((rd_T56 l0_0 a2).f1).drop 1).length : Int) (wrap64 (x43_1 + 1))) = some r := by first | (rw [hy130]; with_reducible exact H) | (have H2_ := (Option.bind_some _ _).symm.trans H; rw [hy130]; with_reducible exact H2_) | (have H2_ := (Option.bind_some _ _).symm.trans H; with_reducible exact H2_) | with_reducible exact H | (rw [hy130]; exact H) | exact H
   have Ny130 := ak hy130
   clear hy130
   have H' := ak H
   clear H
   have p129 : 0 ≤ (x43_1 : Int) := of_decide_eq_true (by first | (with_reducible assumption) | assumption)
   have q129 : x43_1 < ((((rd_T56 l0_0 a2).f1).drop 1).length : Int) := of_decide_eq_true (by first | (with_reducible assumption) | assumption)
   have q129z : (x43_1 < ((((rd_T56 l0_0 a2).f1).length - 1 : Nat) : Int)) = True := eq_true (by rw [← List.length_drop]; exact q129)
   obtain ⟨ad129, e129, hx129_0⟩ := Kd.at_int HR128.out x43_1 p129 q129
   rw [show (Int.toNat 1) = 1 from rfl, List.drop_one] at hx129_0
   cases e129
   replace hx129_0 := (HB.out.cell (World.block_lt_of_cell? w _ hx129_0)).trans hx129_0
   replace p129 := eq_true p129
   replace q129 := eq_true q129
   go_wp2_with (first | ((with_reducible refine gate_builtin (b := .append) (xs := #[.tmp 49, .tmp 51]) rfl ?_); at_builtin; refine Kd.R_append (Kd.int .i64) (w0 := w) w.heap.size rfl (.tmp 49) (.tmp 51) 23 3 (.int .i64 0) 8 rfl Try.underlying23 info3 rfl (by decide) (by omega) u10 x10_1 (rd (((rd_T56 l0_0 a2).f1).tail) x43_1) [.int .i64 (rd (((rd_T56 l0_0 a2).f1).tail) x43_1)] (fun _ => True) (fun _ => False) rfl rfl ?aP (fun _ hk => hk.elim) ?aF ?aO ?aB ?aS ?aL ?_; (case aP => exact rfl); (case aB => exact (by repeat (first | (with_reducible first | exact HB.out | apply ba_ | apply bn_ | apply b1_ | refine bs_ ?_ GE123.out | refine bs_ ?_ GE125.out) | exact HB.out))); (case aF => exact (fun _ _ => trivial)); (case aO => exact (by (with_reducible repeat (first | apply Kd.R_alloc | apply Kd.R_drewN | apply Kd.R_drew)); exact HO_10.out)); (case aS => exact (below_size (by repeat (first | (with_reducible first | exact HB.out | apply ba_ | apply bn_ | apply b1_ | refine bs_ ?_ GE123.out | refine bs_ ?_ GE125.out) | exact HB.out)))); (case aL => have := LMc29.out; omega); intro v131 w30 ho hb hg hat; rw [← Ny130.out] at ho; have n0_ := ak (blk_grown (g := gb123) (o := .cells #[.slice (some ad124) l0_0.length c0_0, .slice A0_1 l0_1.length c0_1] 25 (0, 0)) (by (with_reducible repeat first | apply kn_ | apply kd_ | apply ka_); exact BK123.out) hg (Kd.R_ne HO_10.out BK123.out (by decide))); have n1_ := ak (blk_grown (g := gb125) (o := .cells #[.int .i64 ((rd_T56 l0_0 a2).f0), .slice (some ad126) ((rd_T56 l0_0 a2).f1).length c124_1] 56 (0, 0)) (by (with_reducible repeat first | apply kn_ | apply kd_ | apply ka_); exact BK125.out) hg (Kd.R_ne HO_10.out BK125.out (by decide))); have n2_ := ak (hb); have n3_ := ak (ho); clear BK123 BK125 HB HO_10; have BK123 := n0_; have BK125 := n1_; have HB := n2_; have HO132 := n3_; clear n0_ n1_ n2_ n3_ ho hb hg hat))
   go_roundg k1
   case measure => have := HK1.out; omega
   case rel => exact ⟨(y130), (wrap64 (x43_1 + 1)), (by first | rfl | (simp; done) | (simp [*]; done) | (simp [Int.tdiv_eq_ediv_of_nonneg]; done)), H', ⟨by have := HK1.out; omega⟩, ⟨by (with_reducible repeat (first | apply Kd.R_alloc | apply Kd.R_drewN | apply Kd.R_drew)); exact HO132.out⟩, ⟨by (with_reducible repeat first | apply kn_ | apply kd_ | apply ka_); exact BK123.out⟩, ⟨by (with_reducible repeat first | apply kn_ | apply kd_ | apply ka_); exact BK125.out⟩, ⟨by repeat (first | (with_reducible first | exact HB.out | apply ba_ | apply bn_ | apply b1_ | refine bs_ ?_ GE123.out | refine bs_ ?_ GE125.out) | exact HB.out)⟩⟩
-- NOT PRINTED: function 59 (mark_walk_from)
/-! ### walk_paired: function 60 -/
/-! (the session's own walk of it stands with Run) -/
-- NOT PRINTED: function 54 (mark_walk_drain)
-- NOT PRINTED: function 55 (mark_walk_scan)
-- NOT PRINTED: function 37 (mark_walk_unit)
end Go.Proofs.Ytnmpmjbkelogaaa.Print
