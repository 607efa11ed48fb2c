-- Written by a program of this session (wip/xprint.py, by way of the print): Lean functions and proofs that the Go functions come to them.
import Derived.Test.YtdjajecgojndfaaPrint0
import Derived.Test.YtdjajecgojndfaaPrint3
import Derived.Test.YtdjajecgojndfaaPrint4
namespace Go.Proofs.Ytdjajecgojndfaa.Print
open Go.RowKit Go.Proofs.YtdjajecgojndfaaW.PrintWords Go.Proofs.YtdjajecgojndfaaW.PrintLast Go.Proofs.YtdjajecgojndfaaW.PrintMore
attribute [local go_sem] max2_int min2_int max_two min_two max_three min_three max_four min_four   -- for this text's walks alone
set_option linter.unusedVariables false
set_option linter.unusedSimpArgs false

/-! ### atticlaw14_TableCounts: function 4 -/
mutual
def atticlaw14_TableCounts.j0 : Nat → Int → Int → Int → Bool → List (S34) → Option (Bool)
 | 0, _, _, _, _, _ => none
 | k + 1, x1, x2, x3, x33, x207000 => if x33 = true then ((atticlaw14_begun.f k).bind fun t210 => (some t210)) else ((atticlaw14_TableCounts_1.f k x207000).bind fun bt211 => (if bt211.1 = (x207000.length : Int) then ((told_All.f k x207000 1048576).bind fun t213 => (atticlaw14_TableCounts.j1 k x1 x2 x3 bt211.2 (bt211.2 != (t213.length : Int)) x207000)) else (atticlaw14_TableCounts.j1 k x1 x2 x3 bt211.2 true x207000)))
def atticlaw14_TableCounts.j1 : Nat → Int → Int → Int → Int → Bool → List (S34) → Option (Bool)
 | 0, _, _, _, _, _, _ => none
 | k + 1, x1, x2, x3, x11, x53, x207000 => if x53 = true then (some false) else ((table_Taken.f k x207000 x1 x2).bind fun t216 => ((table_Put.f k x207000 x1 x2 (!t216)).bind fun bt217 => (if bt217.2 = 0 then ((atticlaw14_TableCounts_1.f k bt217.1).bind fun bt222 => ((table_Put.f k bt217.1 x1 x2 t216).bind fun bt224 => (if bt224.2 = 0 then ((table_Same.f k bt224.1 x207000).bind fun t229 => (if t229 = true then ((table_Taken.f k bt217.1 x1 x2).bind fun t230 => (if (t230 == t216) = true then (some false) else (if bt222.2 = (wrap64 (x11 + 1)) then (if bt222.2 = (wrap64 (x11 - 1)) then (atticlaw14_TableCounts.j2 k x1 x3 x207000) else (if t216 = true then (some false) else (atticlaw14_TableCounts.j2 k x1 x3 x207000))) else (if t216 = true then (if bt222.2 = (wrap64 (x11 - 1)) then (atticlaw14_TableCounts.j2 k x1 x3 x207000) else (some false)) else (some false))))) else (some false))) else (some false)))) else (atticlaw14_TableCounts.j2 k x1 x3 x207000))))
def atticlaw14_TableCounts.j2 : Nat → Int → Int → List (S34) → Option (Bool)
 | 0, _, _, _ => none
 | k + 1, x1, x3, x207000 => (table_Assign.f k x207000 x1 x3).bind fun bt231 => (if bt231.2 = 0 then (if 0 ≤ x1 then (if x1 < (x207000.length : Int) then ((table_Assign.f k bt231.1 x1 ((rd_T34 x207000 x1).f0)).bind fun bt237 => (if bt237.2 = 0 then ((table_Same.f k bt237.1 x207000).bind fun t242 => (some t242)) else (some false))) else (none)) else (none)) else (some true))
end
def atticlaw14_TableCounts.f (k : Nat) (l0_0 : List (S34)) (a1 : Int) (a2 : Int) (a3 : Int) : Option (Bool) := (atticlaw14_begun.f k).bind fun t207 => (if t207 = true then ((atticlaw14_few.f l0_0).bind fun t208 => (if t208 = true then ((table_Check.f k l0_0).bind fun t209 => (atticlaw14_TableCounts.j0 k a1 a2 a3 (t209 != 0) l0_0)) else (atticlaw14_TableCounts.j0 k a1 a2 a3 true l0_0))) else (atticlaw14_TableCounts.j0 k a1 a2 a3 true l0_0))
theorem atticlaw14_TableCounts.mono_l : ∀ k, (∀ y0 y1 y2 y3 y4, LeO (atticlaw14_TableCounts.j0 k y0 y1 y2 y3 y4) (atticlaw14_TableCounts.j0 (k + 1) y0 y1 y2 y3 y4)) ∧ (∀ y0 y1 y2 y3 y4 y5, LeO (atticlaw14_TableCounts.j1 k y0 y1 y2 y3 y4 y5) (atticlaw14_TableCounts.j1 (k + 1) y0 y1 y2 y3 y4 y5)) ∧ (∀ y0 y1 y2, LeO (atticlaw14_TableCounts.j2 k y0 y1 y2) (atticlaw14_TableCounts.j2 (k + 1) y0 y1 y2))
 | 0 => ⟨fun _ _ _ _ _ r h => by simp [atticlaw14_TableCounts.j0] at h, fun _ _ _ _ _ _ r h => by simp [atticlaw14_TableCounts.j1] at h, fun _ _ _ r h => by simp [atticlaw14_TableCounts.j2] at h⟩
 | k + 1 => by
  obtain ⟨ih0, ih1, ih2⟩ := atticlaw14_TableCounts.mono_l k
  refine ⟨?_, ?_, ?_⟩
  ·intro y0 y1 y2 y3 y4
   unfold atticlaw14_TableCounts.j0
   repeat' first
   | (with_reducible exact ih0 _ _ _ _ _)
   | (with_reducible exact ih1 _ _ _ _ _ _)
   | (with_reducible exact ih2 _ _ _)
   | (with_reducible exact atticlaw14_TableCounts_1.mono _ _)
   | (with_reducible exact atticlaw14_begun.mono _)
   | (with_reducible exact table_Assign.mono _ _ _ _)
   | (with_reducible exact table_Check.mono _ _)
   | (with_reducible exact table_Put.mono _ _ _ _ _)
   | (with_reducible exact table_Same.mono _ _ _)
   | (with_reducible exact table_Taken.mono _ _ _ _)
   | (with_reducible exact told_All.mono _ _ _)
   | (with_reducible exact LeO.refl _)
   | (with_reducible exact LeO.none _)
   | (with_reducible refine LeO.ite ?_ ?_)
   | (with_reducible refine LeO.bind ?_ (fun _ => ?_))
   | exact ih0 _ _ _ _ _
   | exact ih1 _ _ _ _ _ _
   | exact ih2 _ _ _
   | exact atticlaw14_TableCounts_1.mono _ _
   | exact atticlaw14_begun.mono _
   | exact table_Assign.mono _ _ _ _
   | exact table_Check.mono _ _
   | exact table_Put.mono _ _ _ _ _
   | exact table_Same.mono _ _ _
   | exact table_Taken.mono _ _ _ _
   | exact told_All.mono _ _ _
   | exact LeO.none _
   | refine LeO.ite ?_ ?_
   | refine LeO.bind ?_ (fun _ => ?_)
  ·intro y0 y1 y2 y3 y4 y5
   unfold atticlaw14_TableCounts.j1
   repeat' first
   | (with_reducible exact ih0 _ _ _ _ _)
   | (with_reducible exact ih1 _ _ _ _ _ _)
   | (with_reducible exact ih2 _ _ _)
   | (with_reducible exact atticlaw14_TableCounts_1.mono _ _)
   | (with_reducible exact atticlaw14_begun.mono _)
   | (with_reducible exact table_Assign.mono _ _ _ _)
   | (with_reducible exact table_Check.mono _ _)
   | (with_reducible exact table_Put.mono _ _ _ _ _)
   | (with_reducible exact table_Same.mono _ _ _)
   | (with_reducible exact table_Taken.mono _ _ _ _)
   | (with_reducible exact told_All.mono _ _ _)
   | (with_reducible exact LeO.refl _)
   | (with_reducible exact LeO.none _)
   | (with_reducible refine LeO.ite ?_ ?_)
   | (with_reducible refine LeO.bind ?_ (fun _ => ?_))
   | exact ih0 _ _ _ _ _
   | exact ih1 _ _ _ _ _ _
   | exact ih2 _ _ _
   | exact atticlaw14_TableCounts_1.mono _ _
   | exact atticlaw14_begun.mono _
   | exact table_Assign.mono _ _ _ _
   | exact table_Check.mono _ _
   | exact table_Put.mono _ _ _ _ _
   | exact table_Same.mono _ _ _
   | exact table_Taken.mono _ _ _ _
   | exact told_All.mono _ _ _
   | exact LeO.none _
   | refine LeO.ite ?_ ?_
   | refine LeO.bind ?_ (fun _ => ?_)
  ·intro y0 y1 y2
   unfold atticlaw14_TableCounts.j2
   repeat' first
   | (with_reducible exact ih0 _ _ _ _ _)
   | (with_reducible exact ih1 _ _ _ _ _ _)
   | (with_reducible exact ih2 _ _ _)
   | (with_reducible exact atticlaw14_TableCounts_1.mono _ _)
   | (with_reducible exact atticlaw14_begun.mono _)
   | (with_reducible exact table_Assign.mono _ _ _ _)
   | (with_reducible exact table_Check.mono _ _)
   | (with_reducible exact table_Put.mono _ _ _ _ _)
   | (with_reducible exact table_Same.mono _ _ _)
   | (with_reducible exact table_Taken.mono _ _ _ _)
   | (with_reducible exact told_All.mono _ _ _)
   | (with_reducible exact LeO.refl _)
   | (with_reducible exact LeO.none _)
   | (with_reducible refine LeO.ite ?_ ?_)
   | (with_reducible refine LeO.bind ?_ (fun _ => ?_))
   | exact ih0 _ _ _ _ _
   | exact ih1 _ _ _ _ _ _
   | exact ih2 _ _ _
   | exact atticlaw14_TableCounts_1.mono _ _
   | exact atticlaw14_begun.mono _
   | exact table_Assign.mono _ _ _ _
   | exact table_Check.mono _ _
   | exact table_Put.mono _ _ _ _ _
   | exact table_Same.mono _ _ _
   | exact table_Taken.mono _ _ _ _
   | exact told_All.mono _ _ _
   | exact LeO.none _
   | refine LeO.ite ?_ ?_
   | refine LeO.bind ?_ (fun _ => ?_)
theorem atticlaw14_TableCounts.mono : ∀ a0 a1 a2 a3 k, LeO (atticlaw14_TableCounts.f k a0 a1 a2 a3) (atticlaw14_TableCounts.f (k + 1) a0 a1 a2 a3) := by
 intro a0 a1 a2 a3 k
 obtain ⟨ih0, ih1, ih2⟩ := atticlaw14_TableCounts.mono_l k
 unfold atticlaw14_TableCounts.f
 repeat' first
   | (with_reducible exact ih0 _ _ _ _ _)
   | (with_reducible exact ih1 _ _ _ _ _ _)
   | (with_reducible exact ih2 _ _ _)
   | (with_reducible exact atticlaw14_TableCounts_1.mono _ _)
   | (with_reducible exact atticlaw14_begun.mono _)
   | (with_reducible exact table_Assign.mono _ _ _ _)
   | (with_reducible exact table_Check.mono _ _)
   | (with_reducible exact table_Put.mono _ _ _ _ _)
   | (with_reducible exact table_Same.mono _ _ _)
   | (with_reducible exact table_Taken.mono _ _ _ _)
   | (with_reducible exact told_All.mono _ _ _)
   | (with_reducible exact LeO.refl _)
   | (with_reducible exact LeO.none _)
   | (with_reducible refine LeO.ite ?_ ?_)
   | (with_reducible refine LeO.bind ?_ (fun _ => ?_))
   | exact ih0 _ _ _ _ _
   | exact ih1 _ _ _ _ _ _
   | exact ih2 _ _ _
   | exact atticlaw14_TableCounts_1.mono _ _
   | exact atticlaw14_begun.mono _
   | exact table_Assign.mono _ _ _ _
   | exact table_Check.mono _ _
   | exact table_Put.mono _ _ _ _ _
   | exact table_Same.mono _ _ _
   | exact table_Taken.mono _ _ _ _
   | exact told_All.mono _ _ _
   | exact LeO.none _
   | refine LeO.ite ?_ ?_
   | refine LeO.bind ?_ (fun _ => ?_)
def atticlaw14_TableCounts.T17 : Bool × List (List Nat × List Nat) := (true, [([], []), ([], []), ([], []), ([2], [2]), ([], []), ([3, 4], [3, 4]), ([5], [5]), ([6], [6]), ([0, 1, 7], [0, 1, 7]), ([8], [8]), ([9], [9]), ([9], [9]), ([], []), ([12, 10, 8, 0, 1, 2, 3, 4, 5, 6, 7, 8, 9, 10, 12], [10, 12]), ([11, 13, 0, 1, 2, 3, 4, 5, 6, 7, 8, 9, 10, 11, 12, 13], [11])])
def atticlaw14_TableCounts.B17 : List Nat := [0, 0, 0, 4, 0, 28, 60, 124, 255, 511, 1023, 1023, 0, 6143, 16383]
theorem atticlaw14_TableCounts.tab17 : rtab .any (opsOf Try.f4 17) = atticlaw14_TableCounts.T17 := by kernel_rfl
theorem atticlaw14_TableCounts.bits17 : waitsOk atticlaw14_TableCounts.T17.2 atticlaw14_TableCounts.B17 = true := by kernel_rfl
set_option maxHeartbeats 8000000 in
set_option maxRecDepth 100000 in
theorem atticlaw14_TableCounts.calls (k : Nat) (A0_0 : Option Addr) (c0_0 : Nat) (l0_0 : List (S34)) (a1 : Int) (a2 : Int) (a3 : Int) (r : Bool) (w : World) (hr0_0 : Kd.C k34 w A0_0 l0_0.length l0_0) (hc0_0 : l0_0.length ≤ c0_0) (hrt_ : Aside0 (r = true)) (h : atticlaw14_TableCounts.f k l0_0 a1 a2 a3 = some r) :
  Calls Try.prog 4 #[.agg #[.slice A0_0 l0_0.length c0_0], .int .i64 a1, .int .i64 a2, .int .i64 a3] w fun e w' => e = .returned (.bool r) ∧ Below w.heap.size w w' := by
 have hu24 := Try.underlying24
 have HR0_0 := Aside0.mk hr0_0
 have HC0_0 := Aside0.mk hc0_0
 clear hr0_0 hc0_0
 have HB := Aside0.mk (Below.refl w.heap.size w)
 have H : ((atticlaw14_begun.f k).bind fun t207 => (if t207 = true then ((atticlaw14_few.f l0_0).bind fun t208 => (if t208 = true then ((table_Check.f k l0_0).bind fun t209 => (atticlaw14_TableCounts.j0 k a1 a2 a3 (t209 != 0) l0_0)) else (atticlaw14_TableCounts.j0 k a1 a2 a3 true l0_0))) else (atticlaw14_TableCounts.j0 k a1 a2 a3 true l0_0))) = some r := h
 clear h
 have HC5 := Aside0.mk H
 clear H
 go_enter Try.func4, Try.ntmps4
 go_upto_region 1 with (first | ((with_reducible refine gate_dst (N := 4) rfl ?_); (try (refine gate_guard (by rfl) ?_; dsimp only)); refine box_event ?hg (N := 4) ?hd (cs := #[.slice A0_0 l0_0.length c0_0]) (t := 24) ?hr ?_; (case hd => rfl); (case hg => rfl); (case hr => first | (go_simp; done) | (go_simp; rfl)); intro gb206 hg w6 hbox hb; have n0_ := Aside0.mk (below_step (by repeat (first | (with_reducible first | exact HB.out | apply below_alloc | apply pw_below_drewN | apply below_drew1) | exact HB.out)) hb); have n1_ := Aside0.mk (hbox); have n2_ := Aside0.mk ((by rw [hg]; exact (below_size (by repeat (first | (with_reducible first | exact HB.out | apply below_alloc | apply pw_below_drewN | apply below_drew1) | exact HB.out))) : w.heap.size ≤ gb206)); have n3_ := Aside0.mk ((by rw [hg]; exact (below_size (by repeat (first | (with_reducible first | exact HB.out | apply below_alloc | apply pw_below_drewN | apply below_drew1) | exact HB.out))) : w.heap.size ≤ gb206)); clear HB; have HB := n0_; have BK206 := n1_; have GW206 := n2_; have GE206 := n3_; clear n0_ n1_ n2_ n3_; clear hb hbox hg))
 (try simp only [Act.put, List.setIfInBounds_toArray, List.set_cons_zero, List.set_cons_succ])
 go_cut [33] (fun v33 wc => ∃ (kq : Nat) (x33_4 : Bool), v33 = .bool x33_4 ∧ Aside0 (atticlaw14_TableCounts.j0 kq a1 a2 a3 x33_4 l0_0 = some r) ∧ Aside0 (kq ≤ k) ∧ Aside0 (wc.heap[gb206]? = some (.cells #[(.slice A0_0 l0_0.length c0_0)] 24 (0, 0))) ∧ Aside0 (Below w.heap.size w wc))
 case first =>
  have H := HC5.out
  clear HC5
  replace H := Option.bind_eq_some_iff.mp H
  obtain ⟨t207, A70, H⟩ := H
  replace H : (if t207 = true then ((atticlaw14_few.f l0_0).bind fun t208 => (if t208 = true then ((table_Check.f k l0_0).bind fun t209 => (atticlaw14_TableCounts.j0 k a1 a2 a3 (t209 != 0) l0_0)) else (atticlaw14_TableCounts.j0 k a1 a2 a3 true l0_0))) else (atticlaw14_TableCounts.j0 k a1 a2 a3 true l0_0)) = some r := H
  have A7 := Aside0.mk A70
  clear A70
  by_cases c8 : t207 = true
  ·subst c8
   have H1 : ((atticlaw14_few.f l0_0).bind fun t208 => (if t208 = true then ((table_Check.f k l0_0).bind fun t209 => (atticlaw14_TableCounts.j0 k a1 a2 a3 (t209 != 0) l0_0)) else (atticlaw14_TableCounts.j0 k a1 a2 a3 true l0_0))) = some r := by rw [if_pos rfl] at H; exact H
   clear H
   have H := H1
   clear H1
   replace H := Option.bind_eq_some_iff.mp H
   obtain ⟨t208, A90, H⟩ := H
   replace H : (if t208 = true then ((table_Check.f k l0_0).bind fun t209 => (atticlaw14_TableCounts.j0 k a1 a2 a3 (t209 != 0) l0_0)) else (atticlaw14_TableCounts.j0 k a1 a2 a3 true l0_0)) = some r := H
   have A9 := Aside0.mk A90
   clear A90
   by_cases c10 : t208 = true
   ·subst c10
    have H1 : ((table_Check.f k l0_0).bind fun t209 => (atticlaw14_TableCounts.j0 k a1 a2 a3 (t209 != 0) l0_0)) = some r := by rw [if_pos rfl] at H; exact H
    clear H
    have H := H1
    clear H1
    replace H := Option.bind_eq_some_iff.mp H
    obtain ⟨t209, A110, H⟩ := H
    replace H : (atticlaw14_TableCounts.j0 k a1 a2 a3 (t209 != 0) l0_0) = some r := H
    have A11 := Aside0.mk A110
    clear A110
    have H' := Aside0.mk H
    clear H
    go_wp2_with (first | ((with_reducible refine gate_callee (f := 8) rfl ?_); refine goesL_ (some 22) rfl rfl Try.func8 (by kernel_rfl) rfl #[] rfl (by (try simp only [List.map_toArray, List.map_cons, List.map_nil]); first | done | rfl | (simp only [List.length_drop, List.length_take]; rfl)) ?_; (with_reducible refine (atticlaw14_begun.calls k  true _ A7.out).mono ?_); rintro e w12 ⟨rfl, hb⟩; refine ⟨_, rfl, ?_⟩; have n0_ := Aside0.mk (blk_below (g := gb206) (o := .cells #[.slice A0_0 l0_0.length c0_0] 24 (0, 0)) (by (with_reducible repeat first | apply blk_drewN | apply blk_drew | apply blk_alloc); exact BK206.out) hb); have n1_ := Aside0.mk (below_step (by repeat (first | (with_reducible first | exact HB.out | apply below_alloc | apply pw_below_drewN | apply below_drew1 | refine below_set ?_ GE206.out) | exact HB.out)) hb); clear BK206; clear HB; have BK206 := n0_; have HB := n1_; clear n0_ n1_; (try clear hb); (try clear hb2); (try clear hk); (try clear hi); (try clear A7); have hcz13_0 : w12.cell? ⟨gb206, 0, none⟩ = some (.slice A0_0 l0_0.length c0_0) := (blk_cell BK206.out 0).trans rfl; have hfz13_0 := blk_frozen BK206.out 0) | (go_at_call 9; (with_reducible refine (atticlaw14_few.calls _ _ l0_0 true _ ?side1 ?side2 A9.out).mono ?_); (case side1 => repeat (first | exact (Kd.C_below HR0_0.out HB.out) | (with_reducible refine Kd.C_alloc ?_ _) | (with_reducible refine Kd.C_drewN ?_ _) | (with_reducible refine Kd.C_drew ?_))); (case side2 => exact HC0_0.out); rintro e w14 ⟨rfl, hb⟩; have n0_ := Aside0.mk (blk_below (g := gb206) (o := .cells #[.slice A0_0 l0_0.length c0_0] 24 (0, 0)) (by (with_reducible repeat first | apply blk_drewN | apply blk_drew | apply blk_alloc); exact BK206.out) hb); have n1_ := Aside0.mk (below_step (by repeat (first | (with_reducible first | exact HB.out | apply below_alloc | apply pw_below_drewN | apply below_drew1 | refine below_set ?_ GE206.out) | exact HB.out)) hb); clear BK206; clear HB; have BK206 := n0_; have HB := n1_; clear n0_ n1_; (try clear hb); (try clear hb2); (try clear hk); (try clear hi); (try clear A9); have hcz15_0 : w14.cell? ⟨gb206, 0, none⟩ = some (.slice A0_0 l0_0.length c0_0) := (blk_cell BK206.out 0).trans rfl; have hfz15_0 := blk_frozen BK206.out 0) | (go_at_call 19; (with_reducible refine (table_Check.calls k _ _ l0_0 t209 _ ?side1 ?side2 A11.out).mono ?_); (case side1 => repeat (first | exact (Kd.C_below HR0_0.out HB.out) | (with_reducible refine Kd.C_alloc ?_ _) | (with_reducible refine Kd.C_drewN ?_ _) | (with_reducible refine Kd.C_drew ?_))); (case side2 => exact HC0_0.out); rintro e w16 ⟨rfl, hb⟩; have n0_ := Aside0.mk (blk_below (g := gb206) (o := .cells #[.slice A0_0 l0_0.length c0_0] 24 (0, 0)) (by (with_reducible repeat first | apply blk_drewN | apply blk_drew | apply blk_alloc); exact BK206.out) hb); have n1_ := Aside0.mk (below_step (by repeat (first | (with_reducible first | exact HB.out | apply below_alloc | apply pw_below_drewN | apply below_drew1 | refine below_set ?_ GE206.out) | exact HB.out)) hb); clear BK206; clear HB; have BK206 := n0_; have HB := n1_; clear n0_ n1_; (try clear hb); (try clear hb2); (try clear hk); (try clear hi); (try clear A11)))
    go_meet
    case rel => exact ⟨_, ((t209 != 0)), (by first | rfl | (simp; done) | (simp [*]; done) | (simp [Int.tdiv_eq_ediv_of_nonneg]; done)), H', ⟨by first | omega | exact Nat.le_refl _⟩, ⟨by (with_reducible repeat first | apply blk_drewN | apply blk_drew | apply blk_alloc); exact BK206.out⟩, ⟨by repeat (first | (with_reducible first | exact HB.out | apply below_alloc | apply pw_below_drewN | apply below_drew1 | refine below_set ?_ GE206.out) | exact HB.out)⟩⟩
   ·replace c10 := Bool.eq_false_iff.mpr c10
    subst c10
    have H1 : (atticlaw14_TableCounts.j0 k a1 a2 a3 true l0_0) = some r := by rw [if_neg (show ¬ (false = true) by decide)] at H; exact H
    clear H
    have H := H1
    clear H1
    have H' := Aside0.mk H
    clear H
    go_wp2_with (first | ((with_reducible refine gate_callee (f := 8) rfl ?_); refine goesL_ (some 22) rfl rfl Try.func8 (by kernel_rfl) rfl #[] rfl (by (try simp only [List.map_toArray, List.map_cons, List.map_nil]); first | done | rfl | (simp only [List.length_drop, List.length_take]; rfl)) ?_; (with_reducible refine (atticlaw14_begun.calls k  true _ A7.out).mono ?_); rintro e w17 ⟨rfl, hb⟩; refine ⟨_, rfl, ?_⟩; have n0_ := Aside0.mk (blk_below (g := gb206) (o := .cells #[.slice A0_0 l0_0.length c0_0] 24 (0, 0)) (by (with_reducible repeat first | apply blk_drewN | apply blk_drew | apply blk_alloc); exact BK206.out) hb); have n1_ := Aside0.mk (below_step (by repeat (first | (with_reducible first | exact HB.out | apply below_alloc | apply pw_below_drewN | apply below_drew1 | refine below_set ?_ GE206.out) | exact HB.out)) hb); clear BK206; clear HB; have BK206 := n0_; have HB := n1_; clear n0_ n1_; (try clear hb); (try clear hb2); (try clear hk); (try clear hi); (try clear A7); have hcz18_0 : w17.cell? ⟨gb206, 0, none⟩ = some (.slice A0_0 l0_0.length c0_0) := (blk_cell BK206.out 0).trans rfl; have hfz18_0 := blk_frozen BK206.out 0) | (go_at_call 9; (with_reducible refine (atticlaw14_few.calls _ _ l0_0 false _ ?side1 ?side2 A9.out).mono ?_); (case side1 => repeat (first | exact (Kd.C_below HR0_0.out HB.out) | (with_reducible refine Kd.C_alloc ?_ _) | (with_reducible refine Kd.C_drewN ?_ _) | (with_reducible refine Kd.C_drew ?_))); (case side2 => exact HC0_0.out); rintro e w19 ⟨rfl, hb⟩; have n0_ := Aside0.mk (blk_below (g := gb206) (o := .cells #[.slice A0_0 l0_0.length c0_0] 24 (0, 0)) (by (with_reducible repeat first | apply blk_drewN | apply blk_drew | apply blk_alloc); exact BK206.out) hb); have n1_ := Aside0.mk (below_step (by repeat (first | (with_reducible first | exact HB.out | apply below_alloc | apply pw_below_drewN | apply below_drew1 | refine below_set ?_ GE206.out) | exact HB.out)) hb); clear BK206; clear HB; have BK206 := n0_; have HB := n1_; clear n0_ n1_; (try clear hb); (try clear hb2); (try clear hk); (try clear hi); (try clear A9)))
    go_meet
    case rel => exact ⟨_, (true), (by first | rfl | (simp; done) | (simp [*]; done) | (simp [Int.tdiv_eq_ediv_of_nonneg]; done)), H', ⟨by first | omega | exact Nat.le_refl _⟩, ⟨by (with_reducible repeat first | apply blk_drewN | apply blk_drew | apply blk_alloc); exact BK206.out⟩, ⟨by repeat (first | (with_reducible first | exact HB.out | apply below_alloc | apply pw_below_drewN | apply below_drew1 | refine below_set ?_ GE206.out) | exact HB.out)⟩⟩
  ·replace c8 := Bool.eq_false_iff.mpr c8
   subst c8
   have H1 : (atticlaw14_TableCounts.j0 k a1 a2 a3 true l0_0) = some r := by rw [if_neg (show ¬ (false = true) by decide)] at H; exact H
   clear H
   have H := H1
   clear H1
   have H' := Aside0.mk H
   clear H
   go_wp2_with (first | ((with_reducible refine gate_callee (f := 8) rfl ?_); refine goesL_ (some 22) rfl rfl Try.func8 (by kernel_rfl) rfl #[] rfl (by (try simp only [List.map_toArray, List.map_cons, List.map_nil]); first | done | rfl | (simp only [List.length_drop, List.length_take]; rfl)) ?_; (with_reducible refine (atticlaw14_begun.calls k  false _ A7.out).mono ?_); rintro e w20 ⟨rfl, hb⟩; refine ⟨_, rfl, ?_⟩; have n0_ := Aside0.mk (blk_below (g := gb206) (o := .cells #[.slice A0_0 l0_0.length c0_0] 24 (0, 0)) (by (with_reducible repeat first | apply blk_drewN | apply blk_drew | apply blk_alloc); exact BK206.out) hb); have n1_ := Aside0.mk (below_step (by repeat (first | (with_reducible first | exact HB.out | apply below_alloc | apply pw_below_drewN | apply below_drew1 | refine below_set ?_ GE206.out) | exact HB.out)) hb); clear BK206; clear HB; have BK206 := n0_; have HB := n1_; clear n0_ n1_; (try clear hb); (try clear hb2); (try clear hk); (try clear hi); (try clear A7)))
   go_meet
   case rel => exact ⟨_, (true), (by first | rfl | (simp; done) | (simp [*]; done) | (simp [Int.tdiv_eq_ediv_of_nonneg]; done)), H', ⟨by first | omega | exact Nat.le_refl _⟩, ⟨by (with_reducible repeat first | apply blk_drewN | apply blk_drew | apply blk_alloc); exact BK206.out⟩, ⟨by repeat (first | (with_reducible first | exact HB.out | apply below_alloc | apply pw_below_drewN | apply below_drew1 | refine below_set ?_ GE206.out) | exact HB.out)⟩⟩
 case rest =>
  clear HC5
  try clear c1
  try clear p2
  try clear c4
  try clear c8
  try clear c10
  try clear hcz13_0
  try clear hcz15_0
  try clear hcz18_0
  try clear hfz13_0
  try clear hfz15_0
  try clear hfz18_0
  obtain ⟨kq, x33_4, rfl, HA, HJ4, BK206, HB⟩ := hcut
  cases kq with
  | zero => exact absurd HA.out (by simp [atticlaw14_TableCounts.j0])
  | succ kj4 =>
   have H := HA.out
   clear HA
   simp only [atticlaw14_TableCounts.j0] at H
   by_cases c21 : x33_4 = true
   ·subst c21
    have H1 : ((atticlaw14_begun.f kj4).bind fun t210 => (some t210)) = some r := by rw [if_pos rfl] at H; exact H
    clear H
    have H := H1
    clear H1
    replace H := Option.bind_eq_some_iff.mp H
    obtain ⟨t210, A220, H⟩ := H
    replace H : (some t210) = some r := H
    have A22 := Aside0.mk A220
    clear A220
    obtain rfl := Option.some.inj H
    go_wp2_with (first | ((with_reducible refine gate_callee (f := 8) rfl ?_); refine goesL_ (some 34) rfl rfl Try.func8 (by kernel_rfl) rfl #[] rfl (by (try simp only [List.map_toArray, List.map_cons, List.map_nil]); first | done | rfl | (simp only [List.length_drop, List.length_take]; rfl)) ?_; (with_reducible refine (atticlaw14_begun.calls kj4  t210 _ A22.out).mono ?_); rintro e w23 ⟨rfl, hb⟩; refine ⟨_, rfl, ?_⟩; have n0_ := Aside0.mk (blk_below (g := gb206) (o := .cells #[.slice A0_0 l0_0.length c0_0] 24 (0, 0)) (by (with_reducible repeat first | apply blk_drewN | apply blk_drew | apply blk_alloc); exact BK206.out) hb); have n1_ := Aside0.mk (below_step (by repeat (first | (with_reducible first | exact HB.out | apply below_alloc | apply pw_below_drewN | apply below_drew1 | refine below_set ?_ GE206.out) | exact HB.out)) hb); clear BK206; clear HB; have BK206 := n0_; have HB := n1_; clear n0_ n1_; (try clear hb); (try clear hb2); (try clear hk); (try clear hi); (try clear A22)))
    go_ret
    exact ⟨by first | rfl | (simp [errW_none, errW_some] <;> rfl) | (simp [*, errW_none, errW_some] <;> rfl) | (simp [Int.tdiv_eq_ediv_of_nonneg]; done), by repeat (first | (with_reducible first | exact HB.out | apply below_alloc | apply pw_below_drewN | apply below_drew1 | refine below_set ?_ GE206.out) | exact HB.out)⟩
   ·replace c21 := Bool.eq_false_iff.mpr c21
    subst c21
    have H1 : ((atticlaw14_TableCounts_1.f kj4 l0_0).bind fun bt211 => (if bt211.1 = (l0_0.length : Int) then ((told_All.f kj4 l0_0 1048576).bind fun t213 => (atticlaw14_TableCounts.j1 kj4 a1 a2 a3 bt211.2 (bt211.2 != (t213.length : Int)) l0_0)) else (atticlaw14_TableCounts.j1 kj4 a1 a2 a3 bt211.2 true l0_0))) = some r := by rw [if_neg (show ¬ (false = true) by decide)] at H; exact H
    clear H
    have H := H1
    clear H1
    replace H := Option.bind_eq_some_iff.mp H
    obtain ⟨⟨t211, t212⟩, A240, H⟩ := H
    replace H : (if t211 = (l0_0.length : Int) then ((told_All.f kj4 l0_0 1048576).bind fun t213 => (atticlaw14_TableCounts.j1 kj4 a1 a2 a3 t212 (t212 != (t213.length : Int)) l0_0)) else (atticlaw14_TableCounts.j1 kj4 a1 a2 a3 t212 true l0_0)) = some r := H
    have A24 := Aside0.mk A240
    clear A240
    have HC25 := Aside0.mk H
    clear H
    have hcz26_0 : wc.cell? ⟨gb206, 0, none⟩ = some (.slice A0_0 l0_0.length c0_0) := (blk_cell BK206.out 0).trans rfl
    have hfz26_0 := blk_frozen BK206.out 0
    go_upto_region 5 with (first | (go_at_call 20; (with_reducible refine (atticlaw14_TableCounts_1.calls kj4 _ _ l0_0 t211 t212 _ ?side1 ?side2 A24.out).mono ?_); (case side1 => repeat (first | exact (Kd.C_below HR0_0.out HB.out) | (with_reducible refine Kd.C_alloc ?_ _) | (with_reducible refine Kd.C_drewN ?_ _) | (with_reducible refine Kd.C_drew ?_))); (case side2 => exact HC0_0.out); rintro e w27 ⟨rfl, hb⟩; have n0_ := Aside0.mk (blk_below (g := gb206) (o := .cells #[.slice A0_0 l0_0.length c0_0] 24 (0, 0)) (by (with_reducible repeat first | apply blk_drewN | apply blk_drew | apply blk_alloc); exact BK206.out) hb); have n1_ := Aside0.mk (below_step (by repeat (first | (with_reducible first | exact HB.out | apply below_alloc | apply pw_below_drewN | apply below_drew1 | refine below_set ?_ GE206.out) | exact HB.out)) hb); clear BK206; clear HB; have BK206 := n0_; have HB := n1_; clear n0_ n1_; (try clear hb); (try clear hb2); (try clear hk); (try clear hi); (try clear A24)))
    (try simp only [Act.put, List.setIfInBounds_toArray, List.set_cons_zero, List.set_cons_succ])
    go_cut [53] (fun v53 wc => ∃ (kq : Nat) (x53_24 : Bool), v53 = .bool x53_24 ∧ Aside0 (atticlaw14_TableCounts.j1 kq a1 a2 a3 t212 x53_24 l0_0 = some r) ∧ Aside0 (kq ≤ kj4) ∧ Aside0 (wc.heap[gb206]? = some (.cells #[(.slice A0_0 l0_0.length c0_0)] 24 (0, 0))) ∧ Aside0 (Below w.heap.size w wc))
    case first =>
     have H := HC25.out
     clear HC25
     by_cases c28 : t211 = (l0_0.length : Int)
     ·rw [if_pos c28] at H
      have c28b0 : (t211 == (l0_0.length : Int)) = true := beq_iff_eq.mpr c28
      have c28b1 : (t211 != (l0_0.length : Int)) = false := bne_eq_false_iff_eq.mpr c28
      clear c28
      (first | rw [c28b0] | (simp only [i64_w, i32_w]; rw [c28b0]) | skip)
      replace H := Option.bind_eq_some_iff.mp H
      obtain ⟨t213, A290, H⟩ := H
      replace H : (atticlaw14_TableCounts.j1 kj4 a1 a2 a3 t212 (t212 != (t213.length : Int)) l0_0) = some r := H
      have A29 := Aside0.mk A290
      clear A290
      have H' := Aside0.mk H
      clear H
      have hcz30_0 : w27.cell? ⟨gb206, 0, none⟩ = some (.slice A0_0 l0_0.length c0_0) := (blk_cell BK206.out 0).trans rfl
      have hfz30_0 := blk_frozen BK206.out 0
      go_wp2_with (first | (go_at_call 23; (with_reducible refine (told_All.calls kj4 _ _ l0_0 1048576 t213 _ ?side1 ?side2 A29.out).mono ?_); (case side1 => repeat (first | exact (Kd.C_below HR0_0.out HB.out) | (with_reducible refine Kd.C_alloc ?_ _) | (with_reducible refine Kd.C_drewN ?_ _) | (with_reducible refine Kd.C_drew ?_))); (case side2 => exact HC0_0.out); rintro ez_ wz_ ⟨fv_, rfl, HZ_⟩) | (go_at_call 22; (refine HZ_.mono ?_); rintro e w31 ⟨v214, rfl, ho0, hb⟩; have n0_ := Aside0.mk (Kd.R_lower ho0 (below_size (by repeat (first | (with_reducible first | exact HB.out | apply below_alloc | apply pw_below_drewN | apply below_drew1 | refine below_set ?_ GE206.out) | exact HB.out)))); have n1_ := Aside0.mk (blk_below (g := gb206) (o := .cells #[.slice A0_0 l0_0.length c0_0] 24 (0, 0)) (by (with_reducible repeat first | apply blk_drewN | apply blk_drew | apply blk_alloc); exact BK206.out) hb); have n2_ := Aside0.mk (below_step (by repeat (first | (with_reducible first | exact HB.out | apply below_alloc | apply pw_below_drewN | apply below_drew1 | refine below_set ?_ GE206.out) | exact HB.out)) hb); clear BK206; clear HB; have HO215 := n0_; have BK206 := n1_; have HB := n2_; clear n0_ n1_ n2_; (try clear hb); (try clear hb2); (try clear hk); (try clear hi); (try clear ho0); (try clear A29); obtain ⟨Ao32, co32, eo32⟩ := Kd.R_slice HO215.out; subst eo32))
      go_meet
      case rel => exact ⟨_, ((t212 != (t213.length : Int))), (by first | rfl | (simp; done) | (simp [*]; done) | (simp [Int.tdiv_eq_ediv_of_nonneg]; done)), H', ⟨by have := HJ4.out; first | omega | exact Nat.le_refl _⟩, ⟨by (with_reducible repeat first | apply blk_drewN | apply blk_drew | apply blk_alloc); exact BK206.out⟩, ⟨by repeat (first | (with_reducible first | exact HB.out | apply below_alloc | apply pw_below_drewN | apply below_drew1 | refine below_set ?_ GE206.out) | exact HB.out)⟩⟩
     ·rw [if_neg c28] at H
      have c28b0 : (t211 == (l0_0.length : Int)) = false := beq_eq_false_iff_ne.mpr c28
      have c28b1 : (t211 != (l0_0.length : Int)) = true := bne_iff_ne.mpr c28
      (first | rw [c28b0] | (simp only [i64_w, i32_w]; rw [c28b0]) | skip)
      have H' := Aside0.mk H
      clear H
      have hcz33_0 : w27.cell? ⟨gb206, 0, none⟩ = some (.slice A0_0 l0_0.length c0_0) := (blk_cell BK206.out 0).trans rfl
      have hfz33_0 := blk_frozen BK206.out 0
      go_wp2
      go_meet
      case rel => exact ⟨_, (true), (by first | rfl | (simp; done) | (simp [*]; done) | (simp [Int.tdiv_eq_ediv_of_nonneg]; done)), H', ⟨by have := HJ4.out; first | omega | exact Nat.le_refl _⟩, ⟨by (with_reducible repeat first | apply blk_drewN | apply blk_drew | apply blk_alloc); exact BK206.out⟩, ⟨by repeat (first | (with_reducible first | exact HB.out | apply below_alloc | apply pw_below_drewN | apply below_drew1 | refine below_set ?_ GE206.out) | exact HB.out)⟩⟩
    case rest =>
     clear HC25
     try clear c1
     try clear c2
     try clear p2
     try clear c4
     try clear c8
     try clear c10
     try clear c21
     try clear c28
     try clear c28b0
     try clear c28b1
     try clear hcz13_0
     try clear hcz15_0
     try clear hcz18_0
     try clear hcz26_0
     try clear hcz30_0
     try clear hcz33_0
     try clear hfz13_0
     try clear hfz15_0
     try clear hfz18_0
     try clear hfz26_0
     try clear hfz30_0
     try clear hfz33_0
     try clear p2
     obtain ⟨kq, x53_24, rfl, HA, HJ24, BK206, HB⟩ := hcut
     cases kq with
     | zero => exact absurd HA.out (by simp [atticlaw14_TableCounts.j1])
     | succ kj24 =>
      have H := HA.out
      clear HA
      simp only [atticlaw14_TableCounts.j1] at H
      by_cases c34 : x53_24 = true
      ·subst c34
       have H1 : (some false) = some r := by rw [if_pos rfl] at H; exact H
       clear H
       have H := H1
       clear H1
       exact absurd (Option.some.inj H) (by rw [hrt_.out]; decide)
      ·replace c34 := Bool.eq_false_iff.mpr c34
       subst c34
       have H1 : ((table_Taken.f kj24 l0_0 a1 a2).bind fun t216 => ((table_Put.f kj24 l0_0 a1 a2 (!t216)).bind fun bt217 => (if bt217.2 = 0 then ((atticlaw14_TableCounts_1.f kj24 bt217.1).bind fun bt222 => ((table_Put.f kj24 bt217.1 a1 a2 t216).bind fun bt224 => (if bt224.2 = 0 then ((table_Same.f kj24 bt224.1 l0_0).bind fun t229 => (if t229 = true then ((table_Taken.f kj24 bt217.1 a1 a2).bind fun t230 => (if (t230 == t216) = true then (some false) else (if bt222.2 = (wrap64 (t212 + 1)) then (if bt222.2 = (wrap64 (t212 - 1)) then (atticlaw14_TableCounts.j2 kj24 a1 a3 l0_0) else (if t216 = true then (some false) else (atticlaw14_TableCounts.j2 kj24 a1 a3 l0_0))) else (if t216 = true then (if bt222.2 = (wrap64 (t212 - 1)) then (atticlaw14_TableCounts.j2 kj24 a1 a3 l0_0) else (some false)) else (some false))))) else (some false))) else (some false)))) else (atticlaw14_TableCounts.j2 kj24 a1 a3 l0_0)))) = some r := by rw [if_neg (show ¬ (false = true) by decide)] at H; exact H
       clear H
       have H := H1
       clear H1
       replace H := Option.bind_eq_some_iff.mp H
       obtain ⟨t216, A350, H⟩ := H
       replace H : ((table_Put.f kj24 l0_0 a1 a2 (!t216)).bind fun bt217 => (if bt217.2 = 0 then ((atticlaw14_TableCounts_1.f kj24 bt217.1).bind fun bt222 => ((table_Put.f kj24 bt217.1 a1 a2 t216).bind fun bt224 => (if bt224.2 = 0 then ((table_Same.f kj24 bt224.1 l0_0).bind fun t229 => (if t229 = true then ((table_Taken.f kj24 bt217.1 a1 a2).bind fun t230 => (if (t230 == t216) = true then (some false) else (if bt222.2 = (wrap64 (t212 + 1)) then (if bt222.2 = (wrap64 (t212 - 1)) then (atticlaw14_TableCounts.j2 kj24 a1 a3 l0_0) else (if t216 = true then (some false) else (atticlaw14_TableCounts.j2 kj24 a1 a3 l0_0))) else (if t216 = true then (if bt222.2 = (wrap64 (t212 - 1)) then (atticlaw14_TableCounts.j2 kj24 a1 a3 l0_0) else (some false)) else (some false))))) else (some false))) else (some false)))) else (atticlaw14_TableCounts.j2 kj24 a1 a3 l0_0))) = some r := H
       have A35 := Aside0.mk A350
       clear A350
       replace H := Option.bind_eq_some_iff.mp H
       obtain ⟨⟨t217, t220⟩, A360, H⟩ := H
       replace H : (if t220 = 0 then ((atticlaw14_TableCounts_1.f kj24 t217).bind fun bt222 => ((table_Put.f kj24 t217 a1 a2 t216).bind fun bt224 => (if bt224.2 = 0 then ((table_Same.f kj24 bt224.1 l0_0).bind fun t229 => (if t229 = true then ((table_Taken.f kj24 t217 a1 a2).bind fun t230 => (if (t230 == t216) = true then (some false) else (if bt222.2 = (wrap64 (t212 + 1)) then (if bt222.2 = (wrap64 (t212 - 1)) then (atticlaw14_TableCounts.j2 kj24 a1 a3 l0_0) else (if t216 = true then (some false) else (atticlaw14_TableCounts.j2 kj24 a1 a3 l0_0))) else (if t216 = true then (if bt222.2 = (wrap64 (t212 - 1)) then (atticlaw14_TableCounts.j2 kj24 a1 a3 l0_0) else (some false)) else (some false))))) else (some false))) else (some false)))) else (atticlaw14_TableCounts.j2 kj24 a1 a3 l0_0)) = some r := H
       have A36 := Aside0.mk A360
       clear A360
       have HC37 := Aside0.mk H
       clear H
       have hcz38_0 : wc.cell? ⟨gb206, 0, none⟩ = some (.slice A0_0 l0_0.length c0_0) := (blk_cell BK206.out 0).trans rfl
       have hfz38_0 := blk_frozen BK206.out 0
       go_upto_if 68 with (first | ((with_reducible refine gate_callee (f := 16) rfl ?_); refine goesL_ (some 57) rfl rfl Try.func16 (by kernel_rfl) rfl #[.agg #[.slice A0_0 l0_0.length c0_0], .int .i64 a1, .int .i64 a2] rfl (by (try simp only [List.map_toArray, List.map_cons, List.map_nil]); first | done | rfl | (simp only [List.length_drop, List.length_take]; rfl)) ?_; (with_reducible refine (table_Taken.calls kj24 _ _ l0_0 a1 a2 t216 _ ?side1 ?side2 A35.out).mono ?_); (case side1 => repeat (first | exact (Kd.C_below HR0_0.out HB.out) | (with_reducible refine Kd.C_alloc ?_ _) | (with_reducible refine Kd.C_drewN ?_ _) | (with_reducible refine Kd.C_drew ?_))); (case side2 => exact HC0_0.out); rintro e w39 ⟨rfl, hb⟩; refine ⟨_, rfl, ?_⟩; have n0_ := Aside0.mk (blk_below (g := gb206) (o := .cells #[.slice A0_0 l0_0.length c0_0] 24 (0, 0)) (by (with_reducible repeat first | apply blk_drewN | apply blk_drew | apply blk_alloc); exact BK206.out) hb); have n1_ := Aside0.mk (below_step (by repeat (first | (with_reducible first | exact HB.out | apply below_alloc | apply pw_below_drewN | apply below_drew1 | refine below_set ?_ GE206.out) | exact HB.out)) hb); clear BK206; clear HB; have BK206 := n0_; have HB := n1_; clear n0_ n1_; (try clear hb); (try clear hb2); (try clear hk); (try clear hi); (try clear A35); have hcz40_0 : w39.cell? ⟨gb206, 0, none⟩ = some (.slice A0_0 l0_0.length c0_0) := (blk_cell BK206.out 0).trans rfl; have hfz40_0 := blk_frozen BK206.out 0) | ((with_reducible refine gate_callee (f := 14) rfl ?_); refine goesL_ (some 64) rfl rfl Try.func14 (by kernel_rfl) rfl #[.agg #[.slice A0_0 l0_0.length c0_0], .int .i64 a1, .int .i64 a2, .bool (!t216)] rfl (by (try simp only [List.map_toArray, List.map_cons, List.map_nil]); first | done | rfl | (simp only [List.length_drop, List.length_take]; rfl)) ?_; (with_reducible refine (table_Put.calls kj24 _ _ l0_0 a1 a2 (!t216) t217 t220 _ ?side1 ?side2 A36.out).mono ?_); (case side1 => repeat (first | exact (Kd.C_below HR0_0.out HB.out) | (with_reducible refine Kd.C_alloc ?_ _) | (with_reducible refine Kd.C_drewN ?_ _) | (with_reducible refine Kd.C_drew ?_))); (case side2 => exact HC0_0.out); rintro e w41 ⟨v218, rfl, ho0, hb⟩; refine ⟨_, rfl, ?_⟩; have n0_ := Aside0.mk (Kd.R_lower ho0 (below_size (by repeat (first | (with_reducible first | exact HB.out | apply below_alloc | apply pw_below_drewN | apply below_drew1 | refine below_set ?_ GE206.out) | exact HB.out)))); have n1_ := Aside0.mk (blk_below (g := gb206) (o := .cells #[.slice A0_0 l0_0.length c0_0] 24 (0, 0)) (by (with_reducible repeat first | apply blk_drewN | apply blk_drew | apply blk_alloc); exact BK206.out) hb); have n2_ := Aside0.mk (below_step (by repeat (first | (with_reducible first | exact HB.out | apply below_alloc | apply pw_below_drewN | apply below_drew1 | refine below_set ?_ GE206.out) | exact HB.out)) hb); clear BK206; clear HB; have HO219 := n0_; have BK206 := n1_; have HB := n2_; clear n0_ n1_ n2_; (try clear hb); (try clear hb2); (try clear hk); (try clear hi); (try clear ho0); (try clear A36)) | ((with_reducible refine gate_dst (N := 13) rfl ?_); (try (refine gate_guard (by rfl) ?_; dsimp only)); refine box_event ?hg (N := 13) ?hd (cs := #[.slice none 0 0]) (t := 24) ?hr ?_; (case hd => rfl); (case hg => rfl); (case hr => first | (go_simp; done) | (go_simp; rfl)); intro gb221 hg w42 hbox hb; have n0_ := Aside0.mk (Kd.R_below (by (with_reducible repeat (first | apply Kd.R_alloc | apply Kd.R_drewN | apply Kd.R_drew)); exact HO219.out) hb); have n1_ := Aside0.mk (blk_below (g := gb206) (o := .cells #[.slice A0_0 l0_0.length c0_0] 24 (0, 0)) (by (with_reducible repeat first | apply blk_drewN | apply blk_drew | apply blk_alloc); exact BK206.out) hb); have n2_ := Aside0.mk (below_step (by repeat (first | (with_reducible first | exact HB.out | apply below_alloc | apply pw_below_drewN | apply below_drew1 | refine below_set ?_ GE206.out) | exact HB.out)) hb); have n3_ := Aside0.mk (hbox); have n4_ := Aside0.mk ((by rw [hg]; exact (below_size (by repeat (first | (with_reducible first | exact HB.out | apply below_alloc | apply pw_below_drewN | apply below_drew1 | refine below_set ?_ GE206.out) | exact HB.out))) : w.heap.size ≤ gb221)); have n5_ := Aside0.mk ((by rw [hg]; exact (below_size (by repeat (first | (with_reducible first | exact HB.out | apply below_alloc | apply pw_below_drewN | apply below_drew1 | refine below_set ?_ GE206.out) | exact HB.out))) : w.heap.size ≤ gb221)); have n6_ := Aside0.mk ((by rw [hg]; exact Nat.ne_of_lt (blk_lt (g := gb206) (o := .cells #[.slice A0_0 l0_0.length c0_0] 24 (0, 0)) (by (with_reducible repeat first | apply blk_drewN | apply blk_drew | apply blk_alloc); exact BK206.out)) : gb206 ≠ gb221)); have n7_ := Aside0.mk ((by rw [hg]; exact Nat.ne_of_gt (blk_lt (g := gb206) (o := .cells #[.slice A0_0 l0_0.length c0_0] 24 (0, 0)) (by (with_reducible repeat first | apply blk_drewN | apply blk_drew | apply blk_alloc); exact BK206.out)) : gb221 ≠ gb206)); clear HO219; clear BK206; clear HB; have HO219 := n0_; have BK206 := n1_; have HB := n2_; have BK221 := n3_; have GW221 := n4_; have GE221 := n5_; have NB206_221 := n6_; have NB221_206 := n7_; clear n0_ n1_ n2_ n3_ n4_ n5_ n6_ n7_; clear hb hbox hg; obtain ⟨Ao43, co43, eo43⟩ := Kd.R_slice HO219.out; subst eo43; have hnb44 := NB221_206.out; have hnc44 := NB206_221.out; have hcz45_0 : w42.cell? ⟨gb221, 0, none⟩ = some (.slice none 0 0) := (blk_cell BK221.out 0).trans rfl; have hfz45_0 := blk_frozen BK221.out 0))
       (try simp only [Act.put, List.setIfInBounds_toArray, List.set_cons_zero, List.set_cons_succ])
       go_cut [] (fun wc => ∃ (kq : Nat), Aside0 (atticlaw14_TableCounts.j2 kq a1 a3 l0_0 = some r) ∧ Aside0 (kq ≤ kj24) ∧ Aside0 (Kd.R k34 34 wc w.heap.size (fun _ => True) (.slice Ao43 t217.length co43) t217) ∧ Aside0 (wc.heap[gb206]? = some (.cells #[(.slice A0_0 l0_0.length c0_0)] 24 (0, 0))) ∧ Aside0 (wc.heap[gb221]? = some (.cells #[(.slice Ao43 t217.length co43)] 24 (0, 0))) ∧ Aside0 (Below w.heap.size w wc))
       case first =>
        have H := HC37.out
        clear HC37
        by_cases c46 : t220 = 0
        ·rw [if_pos c46] at H
         have c46b0 : (t220 == 0) = true := beq_iff_eq.mpr c46
         have c46b1 : (t220 != 0) = false := bne_eq_false_iff_eq.mpr c46
         clear c46
         (first | rw [c46b0] | (simp only [i64_w, i32_w]; rw [c46b0]) | skip)
         replace H := Option.bind_eq_some_iff.mp H
         obtain ⟨⟨t222, t223⟩, A470, H⟩ := H
         replace H : ((table_Put.f kj24 t217 a1 a2 t216).bind fun bt224 => (if bt224.2 = 0 then ((table_Same.f kj24 bt224.1 l0_0).bind fun t229 => (if t229 = true then ((table_Taken.f kj24 t217 a1 a2).bind fun t230 => (if (t230 == t216) = true then (some false) else (if t223 = (wrap64 (t212 + 1)) then (if t223 = (wrap64 (t212 - 1)) then (atticlaw14_TableCounts.j2 kj24 a1 a3 l0_0) else (if t216 = true then (some false) else (atticlaw14_TableCounts.j2 kj24 a1 a3 l0_0))) else (if t216 = true then (if t223 = (wrap64 (t212 - 1)) then (atticlaw14_TableCounts.j2 kj24 a1 a3 l0_0) else (some false)) else (some false))))) else (some false))) else (some false))) = some r := H
         have A47 := Aside0.mk A470
         clear A470
         replace H := Option.bind_eq_some_iff.mp H
         obtain ⟨⟨t224, t227⟩, A480, H⟩ := H
         replace H : (if t227 = 0 then ((table_Same.f kj24 t224 l0_0).bind fun t229 => (if t229 = true then ((table_Taken.f kj24 t217 a1 a2).bind fun t230 => (if (t230 == t216) = true then (some false) else (if t223 = (wrap64 (t212 + 1)) then (if t223 = (wrap64 (t212 - 1)) then (atticlaw14_TableCounts.j2 kj24 a1 a3 l0_0) else (if t216 = true then (some false) else (atticlaw14_TableCounts.j2 kj24 a1 a3 l0_0))) else (if t216 = true then (if t223 = (wrap64 (t212 - 1)) then (atticlaw14_TableCounts.j2 kj24 a1 a3 l0_0) else (some false)) else (some false))))) else (some false))) else (some false)) = some r := H
         have A48 := Aside0.mk A480
         clear A480
         by_cases c49 : t227 = 0
         ·rw [if_pos c49] at H
          have c49b0 : (t227 == 0) = true := beq_iff_eq.mpr c49
          have c49b1 : (t227 != 0) = false := bne_eq_false_iff_eq.mpr c49
          clear c49
          replace H := Option.bind_eq_some_iff.mp H
          obtain ⟨t229, A500, H⟩ := H
          replace H : (if t229 = true then ((table_Taken.f kj24 t217 a1 a2).bind fun t230 => (if (t230 == t216) = true then (some false) else (if t223 = (wrap64 (t212 + 1)) then (if t223 = (wrap64 (t212 - 1)) then (atticlaw14_TableCounts.j2 kj24 a1 a3 l0_0) else (if t216 = true then (some false) else (atticlaw14_TableCounts.j2 kj24 a1 a3 l0_0))) else (if t216 = true then (if t223 = (wrap64 (t212 - 1)) then (atticlaw14_TableCounts.j2 kj24 a1 a3 l0_0) else (some false)) else (some false))))) else (some false)) = some r := H
          have A50 := Aside0.mk A500
          clear A500
          by_cases c51 : t229 = true
          ·subst c51
           have H1 : ((table_Taken.f kj24 t217 a1 a2).bind fun t230 => (if (t230 == t216) = true then (some false) else (if t223 = (wrap64 (t212 + 1)) then (if t223 = (wrap64 (t212 - 1)) then (atticlaw14_TableCounts.j2 kj24 a1 a3 l0_0) else (if t216 = true then (some false) else (atticlaw14_TableCounts.j2 kj24 a1 a3 l0_0))) else (if t216 = true then (if t223 = (wrap64 (t212 - 1)) then (atticlaw14_TableCounts.j2 kj24 a1 a3 l0_0) else (some false)) else (some false))))) = some r := by rw [if_pos rfl] at H; exact H
           clear H
           have H := H1
           clear H1
           replace H := Option.bind_eq_some_iff.mp H
           obtain ⟨t230, A520, H⟩ := H
           replace H : (if (t230 == t216) = true then (some false) else (if t223 = (wrap64 (t212 + 1)) then (if t223 = (wrap64 (t212 - 1)) then (atticlaw14_TableCounts.j2 kj24 a1 a3 l0_0) else (if t216 = true then (some false) else (atticlaw14_TableCounts.j2 kj24 a1 a3 l0_0))) else (if t216 = true then (if t223 = (wrap64 (t212 - 1)) then (atticlaw14_TableCounts.j2 kj24 a1 a3 l0_0) else (some false)) else (some false)))) = some r := H
           have A52 := Aside0.mk A520
           clear A520
           by_cases c53 : (t230 == t216) = true
           ·rw [if_pos c53] at H
            have c53b0 : (t230 == t216) = true := c53
            (try (have c53b1 : decide (t230 = t216) = true := by simpa using c53))
            (try (have c53b2 : (t230 == t216) = true := by simpa using c53))
            clear c53
            exact absurd (Option.some.inj H) (by rw [hrt_.out]; decide)
           ·rw [if_neg c53] at H
            have c53b0 : (t230 == t216) = false := by simpa using c53
            (try (have c53b1 : decide (t230 = t216) = false := by simpa using c53))
            (try (have c53b2 : (t230 == t216) = false := by simpa using c53))
            (try (have c53b3 : ¬ (t230 = t216) := by simpa using c53))
            clear c53
            by_cases c54 : t223 = (wrap64 (t212 + 1))
            ·rw [if_pos c54] at H
             have c54b0 : (t223 == (wrap64 (t212 + 1))) = true := beq_iff_eq.mpr c54
             have c54b1 : (t223 != (wrap64 (t212 + 1))) = false := bne_eq_false_iff_eq.mpr c54
             clear c54
             by_cases c55 : t223 = (wrap64 (t212 - 1))
             ·rw [if_pos c55] at H
              have c55b0 : (t223 == (wrap64 (t212 - 1))) = true := beq_iff_eq.mpr c55
              have c55b1 : (t223 != (wrap64 (t212 - 1))) = false := bne_eq_false_iff_eq.mpr c55
              clear c55
              have H' := Aside0.mk H
              clear H
              have hnb56 := NB221_206.out
              have hnc56 := NB206_221.out
              have hcz57_0 : w42.cell? ⟨gb221, 0, none⟩ = some (.slice none 0 0) := (blk_cell BK221.out 0).trans rfl
              have hfz57_0 := blk_frozen BK221.out 0
              go_wp2_with (first | (go_at_call 20; (with_reducible refine (atticlaw14_TableCounts_1.calls kj24 _ _ t217 t222 t223 _ ?side1 ?side2 A47.out).mono ?_); (case side1 => refine (Kd.R_reads' (e := 34) (base := w.heap.size) (ok := fun k_ => True) (n := t217.length) (c := co43) ?_).2.2; exact (by (with_reducible repeat (first | apply Kd.R_alloc | apply Kd.R_drewN | apply Kd.R_drew)); exact (Kd.R_mono (Kd.R_far (p := ⟨gb221, 0, none⟩) (Kd.R_types HO219.out BK221.out (by decide)) (fun _ hk => hk.2) (.slice Ao43 t217.length co43)) (fun _ h_ => h_.1)))); (case side2 => exact (Kd.R_reads' HO219.out).2.1); rintro e w58 ⟨rfl, hb⟩; have n0_ := Aside0.mk (Kd.R_below (by (with_reducible repeat (first | apply Kd.R_alloc | apply Kd.R_drewN | apply Kd.R_drew)); exact (Kd.R_mono (Kd.R_far (p := ⟨gb221, 0, none⟩) (Kd.R_types HO219.out BK221.out (by decide)) (fun _ hk => hk.2) (.slice Ao43 t217.length co43)) (fun _ h_ => h_.1))) hb); have n1_ := Aside0.mk (blk_below (g := gb206) (o := .cells #[.slice A0_0 l0_0.length c0_0] 24 (0, 0)) (by (with_reducible repeat first | apply blk_drewN | apply blk_drew | apply blk_alloc); refine blk_far ?_ NB206_221.out _; (with_reducible repeat first | apply blk_drewN | apply blk_drew | apply blk_alloc); exact BK206.out) hb); have n2_ := Aside0.mk (blk_below (g := gb221) (o := .cells #[.slice Ao43 t217.length co43] 24 (0, 0)) (by (with_reducible repeat first | apply blk_drewN | apply blk_drew | apply blk_alloc); refine blk_put (cs := #[.slice none 0 0]) ?_ 0 _ rfl; (with_reducible repeat first | apply blk_drewN | apply blk_drew | apply blk_alloc); exact BK221.out) hb); have n3_ := Aside0.mk (below_step (by repeat (first | (with_reducible first | exact HB.out | apply below_alloc | apply pw_below_drewN | apply below_drew1 | refine below_set ?_ GE206.out | refine below_set ?_ GE221.out) | exact HB.out)) hb); clear HO219; clear BK206; clear BK221; clear HB; have HO219 := n0_; have BK206 := n1_; have BK221 := n2_; have HB := n3_; clear n0_ n1_ n2_ n3_; (try clear hb); (try clear hb2); (try clear hk); (try clear hi); (try clear A47); have hcz59_0 : w58.cell? ⟨gb221, 0, none⟩ = some (.slice Ao43 t217.length co43) := (blk_cell BK221.out 0).trans rfl; have hfz59_0 := blk_frozen BK221.out 0) | ((with_reducible refine gate_callee (f := 14) rfl ?_); refine goesL_ (some 80) rfl rfl Try.func14 (by kernel_rfl) rfl #[.agg #[.slice Ao43 t217.length co43], .int .i64 a1, .int .i64 a2, .bool t216] rfl (by (try simp only [List.map_toArray, List.map_cons, List.map_nil]); first | done | rfl | (simp only [List.length_drop, List.length_take]; rfl)) ?_; (with_reducible refine (table_Put.calls kj24 _ _ t217 a1 a2 t216 t224 t227 _ ?side1 ?side2 A48.out).mono ?_); (case side1 => repeat (first | exact (Kd.R_reads' HO219.out).2.2 | (with_reducible refine Kd.C_alloc ?_ _) | (with_reducible refine Kd.C_drewN ?_ _) | (with_reducible refine Kd.C_drew ?_))); (case side2 => exact (Kd.R_reads' HO219.out).2.1); rintro e w60 ⟨v225, rfl, ho0, hb⟩; refine ⟨_, rfl, ?_⟩; have n0_ := Aside0.mk (Kd.R_elder' (by (with_reducible repeat (first | apply Kd.R_alloc | apply Kd.R_drewN | apply Kd.R_drew)); exact HO219.out) (Kd.R_base ho0) hb); have n1_ := Aside0.mk (Kd.R_lower (Kd.R_new' ho0 (Kd.R_lt (by (with_reducible repeat (first | apply Kd.R_alloc | apply Kd.R_drewN | apply Kd.R_drew)); exact HO219.out))) (below_size (by repeat (first | (with_reducible first | exact HB.out | apply below_alloc | apply pw_below_drewN | apply below_drew1 | refine below_set ?_ GE206.out | refine below_set ?_ GE221.out) | exact HB.out)))); have n2_ := Aside0.mk (blk_below (g := gb206) (o := .cells #[.slice A0_0 l0_0.length c0_0] 24 (0, 0)) (by (with_reducible repeat first | apply blk_drewN | apply blk_drew | apply blk_alloc); exact BK206.out) hb); have n3_ := Aside0.mk (blk_below (g := gb221) (o := .cells #[.slice Ao43 t217.length co43] 24 (0, 0)) (by (with_reducible repeat first | apply blk_drewN | apply blk_drew | apply blk_alloc); exact BK221.out) hb); have n4_ := Aside0.mk (below_step (by repeat (first | (with_reducible first | exact HB.out | apply below_alloc | apply pw_below_drewN | apply below_drew1 | refine below_set ?_ GE206.out | refine below_set ?_ GE221.out) | exact HB.out)) hb); clear HO219; clear BK206; clear BK221; clear HB; have HO219 := n0_; have HO226 := n1_; have BK206 := n2_; have BK221 := n3_; have HB := n4_; clear n0_ n1_ n2_ n3_ n4_; (try clear hb); (try clear hb2); (try clear hk); (try clear hi); (try clear ho0); (try clear A48)) | ((with_reducible refine gate_dst (N := 17) rfl ?_); (try (refine gate_guard (by rfl) ?_; dsimp only)); refine box_event ?hg (N := 17) ?hd (cs := #[.slice none 0 0]) (t := 24) ?hr ?_; (case hd => rfl); (case hg => rfl); (case hr => first | (go_simp; done) | (go_simp; rfl)); intro gb228 hg w61 hbox hb; have n0_ := Aside0.mk (Kd.R_below (by (with_reducible repeat (first | apply Kd.R_alloc | apply Kd.R_drewN | apply Kd.R_drew)); exact HO219.out) hb); have n1_ := Aside0.mk (Kd.R_below (by (with_reducible repeat (first | apply Kd.R_alloc | apply Kd.R_drewN | apply Kd.R_drew)); exact HO226.out) hb); have n2_ := Aside0.mk (blk_below (g := gb206) (o := .cells #[.slice A0_0 l0_0.length c0_0] 24 (0, 0)) (by (with_reducible repeat first | apply blk_drewN | apply blk_drew | apply blk_alloc); exact BK206.out) hb); have n3_ := Aside0.mk (blk_below (g := gb221) (o := .cells #[.slice Ao43 t217.length co43] 24 (0, 0)) (by (with_reducible repeat first | apply blk_drewN | apply blk_drew | apply blk_alloc); exact BK221.out) hb); have n4_ := Aside0.mk (below_step (by repeat (first | (with_reducible first | exact HB.out | apply below_alloc | apply pw_below_drewN | apply below_drew1 | refine below_set ?_ GE206.out | refine below_set ?_ GE221.out) | exact HB.out)) hb); have n5_ := Aside0.mk (hbox); have n6_ := Aside0.mk ((by rw [hg]; exact (below_size (by repeat (first | (with_reducible first | exact HB.out | apply below_alloc | apply pw_below_drewN | apply below_drew1 | refine below_set ?_ GE206.out | refine below_set ?_ GE221.out) | exact HB.out))) : w.heap.size ≤ gb228)); have n7_ := Aside0.mk ((by rw [hg]; exact (below_size (by repeat (first | (with_reducible first | exact HB.out | apply below_alloc | apply pw_below_drewN | apply below_drew1 | refine below_set ?_ GE206.out | refine below_set ?_ GE221.out) | exact HB.out))) : w.heap.size ≤ gb228)); have n8_ := Aside0.mk ((by rw [hg]; exact Nat.ne_of_lt (blk_lt (g := gb206) (o := .cells #[.slice A0_0 l0_0.length c0_0] 24 (0, 0)) (by (with_reducible repeat first | apply blk_drewN | apply blk_drew | apply blk_alloc); exact BK206.out)) : gb206 ≠ gb228)); have n9_ := Aside0.mk ((by rw [hg]; exact Nat.ne_of_gt (blk_lt (g := gb206) (o := .cells #[.slice A0_0 l0_0.length c0_0] 24 (0, 0)) (by (with_reducible repeat first | apply blk_drewN | apply blk_drew | apply blk_alloc); exact BK206.out)) : gb228 ≠ gb206)); have n10_ := Aside0.mk ((by rw [hg]; exact Nat.ne_of_lt (blk_lt (g := gb221) (o := .cells #[.slice Ao43 t217.length co43] 24 (0, 0)) (by (with_reducible repeat first | apply blk_drewN | apply blk_drew | apply blk_alloc); exact BK221.out)) : gb221 ≠ gb228)); have n11_ := Aside0.mk ((by rw [hg]; exact Nat.ne_of_gt (blk_lt (g := gb221) (o := .cells #[.slice Ao43 t217.length co43] 24 (0, 0)) (by (with_reducible repeat first | apply blk_drewN | apply blk_drew | apply blk_alloc); exact BK221.out)) : gb228 ≠ gb221)); clear HO219; clear HO226; clear BK206; clear BK221; clear HB; have HO219 := n0_; have HO226 := n1_; have BK206 := n2_; have BK221 := n3_; have HB := n4_; have BK228 := n5_; have GW228 := n6_; have GE228 := n7_; have NB206_228 := n8_; have NB228_206 := n9_; have NB221_228 := n10_; have NB228_221 := n11_; clear n0_ n1_ n2_ n3_ n4_ n5_ n6_ n7_ n8_ n9_ n10_ n11_; clear hb hbox hg; obtain ⟨Ao62, co62, eo62⟩ := Kd.R_slice HO226.out; subst eo62; have hnb63 := NB228_206.out; have hnc63 := NB206_228.out; have hnb64 := NB228_221.out; have hnc64 := NB221_228.out; have hcz65_0 : w61.cell? ⟨gb228, 0, none⟩ = some (.slice none 0 0) := (blk_cell BK228.out 0).trans rfl; have hfz65_0 := blk_frozen BK228.out 0; have hcz66_0 : w61.cell? ⟨gb206, 0, none⟩ = some (.slice A0_0 l0_0.length c0_0) := (blk_cell BK206.out 0).trans rfl; have hfz66_0 := blk_frozen BK206.out 0) | (go_at_call 24; (with_reducible refine (table_Same.calls kj24 _ _ t224 _ _ l0_0 true _ ?side1 ?side2 ?side3 ?side4 A50.out).mono ?_); (case side1 => refine (Kd.R_reads' (e := 34) (base := w.heap.size) (ok := fun k_ => (True ∧ some k_ ≠ (.slice Ao43 t217.length co43 : Value).ownBlock)) (n := t224.length) (c := co62) ?_).2.2; exact (by (with_reducible repeat (first | apply Kd.R_alloc | apply Kd.R_drewN | apply Kd.R_drew)); exact (Kd.R_mono (Kd.R_far (p := ⟨gb228, 0, none⟩) (Kd.R_types HO226.out BK228.out (by decide)) (fun _ hk => hk.2) (.slice Ao62 t224.length co62)) (fun _ h_ => h_.1)))); (case side2 => exact (Kd.R_reads' HO226.out).2.1); (case side3 => exact Kd.C_below HR0_0.out (by repeat (first | (with_reducible first | exact HB.out | apply below_alloc | apply pw_below_drewN | apply below_drew1 | refine below_set ?_ GE206.out | refine below_set ?_ GE221.out | refine below_set ?_ GE228.out) | exact HB.out))); (case side4 => exact HC0_0.out); rintro e w67 ⟨rfl, hb⟩; have n0_ := Aside0.mk (Kd.R_below (by (with_reducible repeat (first | apply Kd.R_alloc | apply Kd.R_drewN | apply Kd.R_drew)); exact (Kd.R_mono (Kd.R_far (p := ⟨gb228, 0, none⟩) (Kd.R_types HO219.out BK228.out (by decide)) (fun _ hk => hk.2) (.slice Ao62 t224.length co62)) (fun _ h_ => h_.1))) hb); have n1_ := Aside0.mk (Kd.R_below (by (with_reducible repeat (first | apply Kd.R_alloc | apply Kd.R_drewN | apply Kd.R_drew)); exact (Kd.R_mono (Kd.R_far (p := ⟨gb228, 0, none⟩) (Kd.R_types HO226.out BK228.out (by decide)) (fun _ hk => hk.2) (.slice Ao62 t224.length co62)) (fun _ h_ => h_.1))) hb); have n2_ := Aside0.mk (blk_below (g := gb206) (o := .cells #[.slice A0_0 l0_0.length c0_0] 24 (0, 0)) (by (with_reducible repeat first | apply blk_drewN | apply blk_drew | apply blk_alloc); refine blk_far ?_ NB206_228.out _; (with_reducible repeat first | apply blk_drewN | apply blk_drew | apply blk_alloc); exact BK206.out) hb); have n3_ := Aside0.mk (blk_below (g := gb221) (o := .cells #[.slice Ao43 t217.length co43] 24 (0, 0)) (by (with_reducible repeat first | apply blk_drewN | apply blk_drew | apply blk_alloc); refine blk_far ?_ NB221_228.out _; (with_reducible repeat first | apply blk_drewN | apply blk_drew | apply blk_alloc); exact BK221.out) hb); have n4_ := Aside0.mk (blk_below (g := gb228) (o := .cells #[.slice Ao62 t224.length co62] 24 (0, 0)) (by (with_reducible repeat first | apply blk_drewN | apply blk_drew | apply blk_alloc); refine blk_put (cs := #[.slice none 0 0]) ?_ 0 _ rfl; (with_reducible repeat first | apply blk_drewN | apply blk_drew | apply blk_alloc); exact BK228.out) hb); have n5_ := Aside0.mk (below_step (by repeat (first | (with_reducible first | exact HB.out | apply below_alloc | apply pw_below_drewN | apply below_drew1 | refine below_set ?_ GE206.out | refine below_set ?_ GE221.out | refine below_set ?_ GE228.out) | exact HB.out)) hb); clear HO219; clear HO226; clear BK206; clear BK221; clear BK228; clear HB; have HO219 := n0_; have HO226 := n1_; have BK206 := n2_; have BK221 := n3_; have BK228 := n4_; have HB := n5_; clear n0_ n1_ n2_ n3_ n4_ n5_; (try clear hb); (try clear hb2); (try clear hk); (try clear hi); (try clear A50); have hcz68_0 : w67.cell? ⟨gb221, 0, none⟩ = some (.slice Ao43 t217.length co43) := (blk_cell BK221.out 0).trans rfl; have hfz68_0 := blk_frozen BK221.out 0) | (go_at_call 16; (with_reducible refine (table_Taken.calls kj24 _ _ t217 a1 a2 t230 _ ?side1 ?side2 A52.out).mono ?_); (case side1 => repeat (first | exact (Kd.R_reads' HO219.out).2.2 | (with_reducible refine Kd.C_alloc ?_ _) | (with_reducible refine Kd.C_drewN ?_ _) | (with_reducible refine Kd.C_drew ?_))); (case side2 => exact (Kd.R_reads' HO219.out).2.1); rintro e w69 ⟨rfl, hb⟩; have n0_ := Aside0.mk (Kd.R_below (by (with_reducible repeat (first | apply Kd.R_alloc | apply Kd.R_drewN | apply Kd.R_drew)); exact HO219.out) hb); have n1_ := Aside0.mk (Kd.R_below (by (with_reducible repeat (first | apply Kd.R_alloc | apply Kd.R_drewN | apply Kd.R_drew)); exact HO226.out) hb); have n2_ := Aside0.mk (blk_below (g := gb206) (o := .cells #[.slice A0_0 l0_0.length c0_0] 24 (0, 0)) (by (with_reducible repeat first | apply blk_drewN | apply blk_drew | apply blk_alloc); exact BK206.out) hb); have n3_ := Aside0.mk (blk_below (g := gb221) (o := .cells #[.slice Ao43 t217.length co43] 24 (0, 0)) (by (with_reducible repeat first | apply blk_drewN | apply blk_drew | apply blk_alloc); exact BK221.out) hb); have n4_ := Aside0.mk (blk_below (g := gb228) (o := .cells #[.slice Ao62 t224.length co62] 24 (0, 0)) (by (with_reducible repeat first | apply blk_drewN | apply blk_drew | apply blk_alloc); exact BK228.out) hb); have n5_ := Aside0.mk (below_step (by repeat (first | (with_reducible first | exact HB.out | apply below_alloc | apply pw_below_drewN | apply below_drew1 | refine below_set ?_ GE206.out | refine below_set ?_ GE221.out | refine below_set ?_ GE228.out) | exact HB.out)) hb); clear HO219; clear HO226; clear BK206; clear BK221; clear BK228; clear HB; have HO219 := n0_; have HO226 := n1_; have BK206 := n2_; have BK221 := n3_; have BK228 := n4_; have HB := n5_; clear n0_ n1_ n2_ n3_ n4_ n5_; (try clear hb); (try clear hb2); (try clear hk); (try clear hi); (try clear A52)))
              go_meet
              case rel => exact ⟨_, H', ⟨by have := HJ4.out; have := HJ24.out; first | omega | exact Nat.le_refl _⟩, ⟨by (with_reducible repeat (first | apply Kd.R_alloc | apply Kd.R_drewN | apply Kd.R_drew)); exact Kd.R_mono HO219.out (fun _ hk => trivial)⟩, ⟨by (with_reducible repeat first | apply blk_drewN | apply blk_drew | apply blk_alloc); exact BK206.out⟩, ⟨by (with_reducible repeat first | apply blk_drewN | apply blk_drew | apply blk_alloc); exact BK221.out⟩, ⟨by repeat (first | (with_reducible first | exact HB.out | apply below_alloc | apply pw_below_drewN | apply below_drew1 | refine below_set ?_ GE206.out | refine below_set ?_ GE221.out | refine below_set ?_ GE228.out) | exact HB.out)⟩⟩
             ·rw [if_neg c55] at H
              have c55b0 : (t223 == (wrap64 (t212 - 1))) = false := beq_eq_false_iff_ne.mpr c55
              have c55b1 : (t223 != (wrap64 (t212 - 1))) = true := bne_iff_ne.mpr c55
              by_cases c70 : t216 = true
              ·subst c70
               have H1 : (some false) = some r := by rw [if_pos rfl] at H; exact H
               clear H
               have H := H1
               clear H1
               exact absurd (Option.some.inj H) (by rw [hrt_.out]; decide)
              ·replace c70 := Bool.eq_false_iff.mpr c70
               subst c70
               have H1 : (atticlaw14_TableCounts.j2 kj24 a1 a3 l0_0) = some r := by rw [if_neg (show ¬ (false = true) by decide)] at H; exact H
               clear H
               have H := H1
               clear H1
               have H' := Aside0.mk H
               clear H
               have hnb71 := NB221_206.out
               have hnc71 := NB206_221.out
               have hcz72_0 : w42.cell? ⟨gb221, 0, none⟩ = some (.slice none 0 0) := (blk_cell BK221.out 0).trans rfl
               have hfz72_0 := blk_frozen BK221.out 0
               go_wp2_with (first | (go_at_call 20; (with_reducible refine (atticlaw14_TableCounts_1.calls kj24 _ _ t217 t222 t223 _ ?side1 ?side2 A47.out).mono ?_); (case side1 => refine (Kd.R_reads' (e := 34) (base := w.heap.size) (ok := fun k_ => True) (n := t217.length) (c := co43) ?_).2.2; exact (by (with_reducible repeat (first | apply Kd.R_alloc | apply Kd.R_drewN | apply Kd.R_drew)); exact (Kd.R_mono (Kd.R_far (p := ⟨gb221, 0, none⟩) (Kd.R_types HO219.out BK221.out (by decide)) (fun _ hk => hk.2) (.slice Ao43 t217.length co43)) (fun _ h_ => h_.1)))); (case side2 => exact (Kd.R_reads' HO219.out).2.1); rintro e w73 ⟨rfl, hb⟩; have n0_ := Aside0.mk (Kd.R_below (by (with_reducible repeat (first | apply Kd.R_alloc | apply Kd.R_drewN | apply Kd.R_drew)); exact (Kd.R_mono (Kd.R_far (p := ⟨gb221, 0, none⟩) (Kd.R_types HO219.out BK221.out (by decide)) (fun _ hk => hk.2) (.slice Ao43 t217.length co43)) (fun _ h_ => h_.1))) hb); have n1_ := Aside0.mk (blk_below (g := gb206) (o := .cells #[.slice A0_0 l0_0.length c0_0] 24 (0, 0)) (by (with_reducible repeat first | apply blk_drewN | apply blk_drew | apply blk_alloc); refine blk_far ?_ NB206_221.out _; (with_reducible repeat first | apply blk_drewN | apply blk_drew | apply blk_alloc); exact BK206.out) hb); have n2_ := Aside0.mk (blk_below (g := gb221) (o := .cells #[.slice Ao43 t217.length co43] 24 (0, 0)) (by (with_reducible repeat first | apply blk_drewN | apply blk_drew | apply blk_alloc); refine blk_put (cs := #[.slice none 0 0]) ?_ 0 _ rfl; (with_reducible repeat first | apply blk_drewN | apply blk_drew | apply blk_alloc); exact BK221.out) hb); have n3_ := Aside0.mk (below_step (by repeat (first | (with_reducible first | exact HB.out | apply below_alloc | apply pw_below_drewN | apply below_drew1 | refine below_set ?_ GE206.out | refine below_set ?_ GE221.out) | exact HB.out)) hb); clear HO219; clear BK206; clear BK221; clear HB; have HO219 := n0_; have BK206 := n1_; have BK221 := n2_; have HB := n3_; clear n0_ n1_ n2_ n3_; (try clear hb); (try clear hb2); (try clear hk); (try clear hi); (try clear A47); have hcz74_0 : w73.cell? ⟨gb221, 0, none⟩ = some (.slice Ao43 t217.length co43) := (blk_cell BK221.out 0).trans rfl; have hfz74_0 := blk_frozen BK221.out 0) | ((with_reducible refine gate_callee (f := 14) rfl ?_); refine goesL_ (some 80) rfl rfl Try.func14 (by kernel_rfl) rfl #[.agg #[.slice Ao43 t217.length co43], .int .i64 a1, .int .i64 a2, .bool false] rfl (by (try simp only [List.map_toArray, List.map_cons, List.map_nil]); first | done | rfl | (simp only [List.length_drop, List.length_take]; rfl)) ?_; (with_reducible refine (table_Put.calls kj24 _ _ t217 a1 a2 false t224 t227 _ ?side1 ?side2 A48.out).mono ?_); (case side1 => repeat (first | exact (Kd.R_reads' HO219.out).2.2 | (with_reducible refine Kd.C_alloc ?_ _) | (with_reducible refine Kd.C_drewN ?_ _) | (with_reducible refine Kd.C_drew ?_))); (case side2 => exact (Kd.R_reads' HO219.out).2.1); rintro e w75 ⟨v225, rfl, ho0, hb⟩; refine ⟨_, rfl, ?_⟩; have n0_ := Aside0.mk (Kd.R_elder' (by (with_reducible repeat (first | apply Kd.R_alloc | apply Kd.R_drewN | apply Kd.R_drew)); exact HO219.out) (Kd.R_base ho0) hb); have n1_ := Aside0.mk (Kd.R_lower (Kd.R_new' ho0 (Kd.R_lt (by (with_reducible repeat (first | apply Kd.R_alloc | apply Kd.R_drewN | apply Kd.R_drew)); exact HO219.out))) (below_size (by repeat (first | (with_reducible first | exact HB.out | apply below_alloc | apply pw_below_drewN | apply below_drew1 | refine below_set ?_ GE206.out | refine below_set ?_ GE221.out) | exact HB.out)))); have n2_ := Aside0.mk (blk_below (g := gb206) (o := .cells #[.slice A0_0 l0_0.length c0_0] 24 (0, 0)) (by (with_reducible repeat first | apply blk_drewN | apply blk_drew | apply blk_alloc); exact BK206.out) hb); have n3_ := Aside0.mk (blk_below (g := gb221) (o := .cells #[.slice Ao43 t217.length co43] 24 (0, 0)) (by (with_reducible repeat first | apply blk_drewN | apply blk_drew | apply blk_alloc); exact BK221.out) hb); have n4_ := Aside0.mk (below_step (by repeat (first | (with_reducible first | exact HB.out | apply below_alloc | apply pw_below_drewN | apply below_drew1 | refine below_set ?_ GE206.out | refine below_set ?_ GE221.out) | exact HB.out)) hb); clear HO219; clear BK206; clear BK221; clear HB; have HO219 := n0_; have HO226 := n1_; have BK206 := n2_; have BK221 := n3_; have HB := n4_; clear n0_ n1_ n2_ n3_ n4_; (try clear hb); (try clear hb2); (try clear hk); (try clear hi); (try clear ho0); (try clear A48)) | ((with_reducible refine gate_dst (N := 17) rfl ?_); (try (refine gate_guard (by rfl) ?_; dsimp only)); refine box_event ?hg (N := 17) ?hd (cs := #[.slice none 0 0]) (t := 24) ?hr ?_; (case hd => rfl); (case hg => rfl); (case hr => first | (go_simp; done) | (go_simp; rfl)); intro gb228 hg w76 hbox hb; have n0_ := Aside0.mk (Kd.R_below (by (with_reducible repeat (first | apply Kd.R_alloc | apply Kd.R_drewN | apply Kd.R_drew)); exact HO219.out) hb); have n1_ := Aside0.mk (Kd.R_below (by (with_reducible repeat (first | apply Kd.R_alloc | apply Kd.R_drewN | apply Kd.R_drew)); exact HO226.out) hb); have n2_ := Aside0.mk (blk_below (g := gb206) (o := .cells #[.slice A0_0 l0_0.length c0_0] 24 (0, 0)) (by (with_reducible repeat first | apply blk_drewN | apply blk_drew | apply blk_alloc); exact BK206.out) hb); have n3_ := Aside0.mk (blk_below (g := gb221) (o := .cells #[.slice Ao43 t217.length co43] 24 (0, 0)) (by (with_reducible repeat first | apply blk_drewN | apply blk_drew | apply blk_alloc); exact BK221.out) hb); have n4_ := Aside0.mk (below_step (by repeat (first | (with_reducible first | exact HB.out | apply below_alloc | apply pw_below_drewN | apply below_drew1 | refine below_set ?_ GE206.out | refine below_set ?_ GE221.out) | exact HB.out)) hb); have n5_ := Aside0.mk (hbox); have n6_ := Aside0.mk ((by rw [hg]; exact (below_size (by repeat (first | (with_reducible first | exact HB.out | apply below_alloc | apply pw_below_drewN | apply below_drew1 | refine below_set ?_ GE206.out | refine below_set ?_ GE221.out) | exact HB.out))) : w.heap.size ≤ gb228)); have n7_ := Aside0.mk ((by rw [hg]; exact (below_size (by repeat (first | (with_reducible first | exact HB.out | apply below_alloc | apply pw_below_drewN | apply below_drew1 | refine below_set ?_ GE206.out | refine below_set ?_ GE221.out) | exact HB.out))) : w.heap.size ≤ gb228)); have n8_ := Aside0.mk ((by rw [hg]; exact Nat.ne_of_lt (blk_lt (g := gb206) (o := .cells #[.slice A0_0 l0_0.length c0_0] 24 (0, 0)) (by (with_reducible repeat first | apply blk_drewN | apply blk_drew | apply blk_alloc); exact BK206.out)) : gb206 ≠ gb228)); have n9_ := Aside0.mk ((by rw [hg]; exact Nat.ne_of_gt (blk_lt (g := gb206) (o := .cells #[.slice A0_0 l0_0.length c0_0] 24 (0, 0)) (by (with_reducible repeat first | apply blk_drewN | apply blk_drew | apply blk_alloc); exact BK206.out)) : gb228 ≠ gb206)); have n10_ := Aside0.mk ((by rw [hg]; exact Nat.ne_of_lt (blk_lt (g := gb221) (o := .cells #[.slice Ao43 t217.length co43] 24 (0, 0)) (by (with_reducible repeat first | apply blk_drewN | apply blk_drew | apply blk_alloc); exact BK221.out)) : gb221 ≠ gb228)); have n11_ := Aside0.mk ((by rw [hg]; exact Nat.ne_of_gt (blk_lt (g := gb221) (o := .cells #[.slice Ao43 t217.length co43] 24 (0, 0)) (by (with_reducible repeat first | apply blk_drewN | apply blk_drew | apply blk_alloc); exact BK221.out)) : gb228 ≠ gb221)); clear HO219; clear HO226; clear BK206; clear BK221; clear HB; have HO219 := n0_; have HO226 := n1_; have BK206 := n2_; have BK221 := n3_; have HB := n4_; have BK228 := n5_; have GW228 := n6_; have GE228 := n7_; have NB206_228 := n8_; have NB228_206 := n9_; have NB221_228 := n10_; have NB228_221 := n11_; clear n0_ n1_ n2_ n3_ n4_ n5_ n6_ n7_ n8_ n9_ n10_ n11_; clear hb hbox hg; obtain ⟨Ao77, co77, eo77⟩ := Kd.R_slice HO226.out; subst eo77; have hnb78 := NB228_206.out; have hnc78 := NB206_228.out; have hnb79 := NB228_221.out; have hnc79 := NB221_228.out; have hcz80_0 : w76.cell? ⟨gb228, 0, none⟩ = some (.slice none 0 0) := (blk_cell BK228.out 0).trans rfl; have hfz80_0 := blk_frozen BK228.out 0; have hcz81_0 : w76.cell? ⟨gb206, 0, none⟩ = some (.slice A0_0 l0_0.length c0_0) := (blk_cell BK206.out 0).trans rfl; have hfz81_0 := blk_frozen BK206.out 0) | (go_at_call 24; (with_reducible refine (table_Same.calls kj24 _ _ t224 _ _ l0_0 true _ ?side1 ?side2 ?side3 ?side4 A50.out).mono ?_); (case side1 => refine (Kd.R_reads' (e := 34) (base := w.heap.size) (ok := fun k_ => (True ∧ some k_ ≠ (.slice Ao43 t217.length co43 : Value).ownBlock)) (n := t224.length) (c := co77) ?_).2.2; exact (by (with_reducible repeat (first | apply Kd.R_alloc | apply Kd.R_drewN | apply Kd.R_drew)); exact (Kd.R_mono (Kd.R_far (p := ⟨gb228, 0, none⟩) (Kd.R_types HO226.out BK228.out (by decide)) (fun _ hk => hk.2) (.slice Ao77 t224.length co77)) (fun _ h_ => h_.1)))); (case side2 => exact (Kd.R_reads' HO226.out).2.1); (case side3 => exact Kd.C_below HR0_0.out (by repeat (first | (with_reducible first | exact HB.out | apply below_alloc | apply pw_below_drewN | apply below_drew1 | refine below_set ?_ GE206.out | refine below_set ?_ GE221.out | refine below_set ?_ GE228.out) | exact HB.out))); (case side4 => exact HC0_0.out); rintro e w82 ⟨rfl, hb⟩; have n0_ := Aside0.mk (Kd.R_below (by (with_reducible repeat (first | apply Kd.R_alloc | apply Kd.R_drewN | apply Kd.R_drew)); exact (Kd.R_mono (Kd.R_far (p := ⟨gb228, 0, none⟩) (Kd.R_types HO219.out BK228.out (by decide)) (fun _ hk => hk.2) (.slice Ao77 t224.length co77)) (fun _ h_ => h_.1))) hb); have n1_ := Aside0.mk (Kd.R_below (by (with_reducible repeat (first | apply Kd.R_alloc | apply Kd.R_drewN | apply Kd.R_drew)); exact (Kd.R_mono (Kd.R_far (p := ⟨gb228, 0, none⟩) (Kd.R_types HO226.out BK228.out (by decide)) (fun _ hk => hk.2) (.slice Ao77 t224.length co77)) (fun _ h_ => h_.1))) hb); have n2_ := Aside0.mk (blk_below (g := gb206) (o := .cells #[.slice A0_0 l0_0.length c0_0] 24 (0, 0)) (by (with_reducible repeat first | apply blk_drewN | apply blk_drew | apply blk_alloc); refine blk_far ?_ NB206_228.out _; (with_reducible repeat first | apply blk_drewN | apply blk_drew | apply blk_alloc); exact BK206.out) hb); have n3_ := Aside0.mk (blk_below (g := gb221) (o := .cells #[.slice Ao43 t217.length co43] 24 (0, 0)) (by (with_reducible repeat first | apply blk_drewN | apply blk_drew | apply blk_alloc); refine blk_far ?_ NB221_228.out _; (with_reducible repeat first | apply blk_drewN | apply blk_drew | apply blk_alloc); exact BK221.out) hb); have n4_ := Aside0.mk (blk_below (g := gb228) (o := .cells #[.slice Ao77 t224.length co77] 24 (0, 0)) (by (with_reducible repeat first | apply blk_drewN | apply blk_drew | apply blk_alloc); refine blk_put (cs := #[.slice none 0 0]) ?_ 0 _ rfl; (with_reducible repeat first | apply blk_drewN | apply blk_drew | apply blk_alloc); exact BK228.out) hb); have n5_ := Aside0.mk (below_step (by repeat (first | (with_reducible first | exact HB.out | apply below_alloc | apply pw_below_drewN | apply below_drew1 | refine below_set ?_ GE206.out | refine below_set ?_ GE221.out | refine below_set ?_ GE228.out) | exact HB.out)) hb); clear HO219; clear HO226; clear BK206; clear BK221; clear BK228; clear HB; have HO219 := n0_; have HO226 := n1_; have BK206 := n2_; have BK221 := n3_; have BK228 := n4_; have HB := n5_; clear n0_ n1_ n2_ n3_ n4_ n5_; (try clear hb); (try clear hb2); (try clear hk); (try clear hi); (try clear A50); have hcz83_0 : w82.cell? ⟨gb221, 0, none⟩ = some (.slice Ao43 t217.length co43) := (blk_cell BK221.out 0).trans rfl; have hfz83_0 := blk_frozen BK221.out 0) | (go_at_call 16; (with_reducible refine (table_Taken.calls kj24 _ _ t217 a1 a2 t230 _ ?side1 ?side2 A52.out).mono ?_); (case side1 => repeat (first | exact (Kd.R_reads' HO219.out).2.2 | (with_reducible refine Kd.C_alloc ?_ _) | (with_reducible refine Kd.C_drewN ?_ _) | (with_reducible refine Kd.C_drew ?_))); (case side2 => exact (Kd.R_reads' HO219.out).2.1); rintro e w84 ⟨rfl, hb⟩; have n0_ := Aside0.mk (Kd.R_below (by (with_reducible repeat (first | apply Kd.R_alloc | apply Kd.R_drewN | apply Kd.R_drew)); exact HO219.out) hb); have n1_ := Aside0.mk (Kd.R_below (by (with_reducible repeat (first | apply Kd.R_alloc | apply Kd.R_drewN | apply Kd.R_drew)); exact HO226.out) hb); have n2_ := Aside0.mk (blk_below (g := gb206) (o := .cells #[.slice A0_0 l0_0.length c0_0] 24 (0, 0)) (by (with_reducible repeat first | apply blk_drewN | apply blk_drew | apply blk_alloc); exact BK206.out) hb); have n3_ := Aside0.mk (blk_below (g := gb221) (o := .cells #[.slice Ao43 t217.length co43] 24 (0, 0)) (by (with_reducible repeat first | apply blk_drewN | apply blk_drew | apply blk_alloc); exact BK221.out) hb); have n4_ := Aside0.mk (blk_below (g := gb228) (o := .cells #[.slice Ao77 t224.length co77] 24 (0, 0)) (by (with_reducible repeat first | apply blk_drewN | apply blk_drew | apply blk_alloc); exact BK228.out) hb); have n5_ := Aside0.mk (below_step (by repeat (first | (with_reducible first | exact HB.out | apply below_alloc | apply pw_below_drewN | apply below_drew1 | refine below_set ?_ GE206.out | refine below_set ?_ GE221.out | refine below_set ?_ GE228.out) | exact HB.out)) hb); clear HO219; clear HO226; clear BK206; clear BK221; clear BK228; clear HB; have HO219 := n0_; have HO226 := n1_; have BK206 := n2_; have BK221 := n3_; have BK228 := n4_; have HB := n5_; clear n0_ n1_ n2_ n3_ n4_ n5_; (try clear hb); (try clear hb2); (try clear hk); (try clear hi); (try clear A52)))
               go_meet
               case rel => exact ⟨_, H', ⟨by have := HJ4.out; have := HJ24.out; first | omega | exact Nat.le_refl _⟩, ⟨by (with_reducible repeat (first | apply Kd.R_alloc | apply Kd.R_drewN | apply Kd.R_drew)); exact Kd.R_mono HO219.out (fun _ hk => trivial)⟩, ⟨by (with_reducible repeat first | apply blk_drewN | apply blk_drew | apply blk_alloc); exact BK206.out⟩, ⟨by (with_reducible repeat first | apply blk_drewN | apply blk_drew | apply blk_alloc); exact BK221.out⟩, ⟨by repeat (first | (with_reducible first | exact HB.out | apply below_alloc | apply pw_below_drewN | apply below_drew1 | refine below_set ?_ GE206.out | refine below_set ?_ GE221.out | refine below_set ?_ GE228.out) | exact HB.out)⟩⟩
            ·rw [if_neg c54] at H
             have c54b0 : (t223 == (wrap64 (t212 + 1))) = false := beq_eq_false_iff_ne.mpr c54
             have c54b1 : (t223 != (wrap64 (t212 + 1))) = true := bne_iff_ne.mpr c54
             by_cases c85 : t216 = true
             ·subst c85
              have H1 : (if t223 = (wrap64 (t212 - 1)) then (atticlaw14_TableCounts.j2 kj24 a1 a3 l0_0) else (some false)) = some r := by rw [if_pos rfl] at H; exact H
              clear H
              have H := H1
              clear H1
              by_cases c86 : t223 = (wrap64 (t212 - 1))
              ·rw [if_pos c86] at H
               have c86b0 : (t223 == (wrap64 (t212 - 1))) = true := beq_iff_eq.mpr c86
               have c86b1 : (t223 != (wrap64 (t212 - 1))) = false := bne_eq_false_iff_eq.mpr c86
               clear c86
               have H' := Aside0.mk H
               clear H
               have hnb87 := NB221_206.out
               have hnc87 := NB206_221.out
               have hcz88_0 : w42.cell? ⟨gb221, 0, none⟩ = some (.slice none 0 0) := (blk_cell BK221.out 0).trans rfl
               have hfz88_0 := blk_frozen BK221.out 0
               go_wp2_with (first | (go_at_call 20; (with_reducible refine (atticlaw14_TableCounts_1.calls kj24 _ _ t217 t222 t223 _ ?side1 ?side2 A47.out).mono ?_); (case side1 => refine (Kd.R_reads' (e := 34) (base := w.heap.size) (ok := fun k_ => True) (n := t217.length) (c := co43) ?_).2.2; exact (by (with_reducible repeat (first | apply Kd.R_alloc | apply Kd.R_drewN | apply Kd.R_drew)); exact (Kd.R_mono (Kd.R_far (p := ⟨gb221, 0, none⟩) (Kd.R_types HO219.out BK221.out (by decide)) (fun _ hk => hk.2) (.slice Ao43 t217.length co43)) (fun _ h_ => h_.1)))); (case side2 => exact (Kd.R_reads' HO219.out).2.1); rintro e w89 ⟨rfl, hb⟩; have n0_ := Aside0.mk (Kd.R_below (by (with_reducible repeat (first | apply Kd.R_alloc | apply Kd.R_drewN | apply Kd.R_drew)); exact (Kd.R_mono (Kd.R_far (p := ⟨gb221, 0, none⟩) (Kd.R_types HO219.out BK221.out (by decide)) (fun _ hk => hk.2) (.slice Ao43 t217.length co43)) (fun _ h_ => h_.1))) hb); have n1_ := Aside0.mk (blk_below (g := gb206) (o := .cells #[.slice A0_0 l0_0.length c0_0] 24 (0, 0)) (by (with_reducible repeat first | apply blk_drewN | apply blk_drew | apply blk_alloc); refine blk_far ?_ NB206_221.out _; (with_reducible repeat first | apply blk_drewN | apply blk_drew | apply blk_alloc); exact BK206.out) hb); have n2_ := Aside0.mk (blk_below (g := gb221) (o := .cells #[.slice Ao43 t217.length co43] 24 (0, 0)) (by (with_reducible repeat first | apply blk_drewN | apply blk_drew | apply blk_alloc); refine blk_put (cs := #[.slice none 0 0]) ?_ 0 _ rfl; (with_reducible repeat first | apply blk_drewN | apply blk_drew | apply blk_alloc); exact BK221.out) hb); have n3_ := Aside0.mk (below_step (by repeat (first | (with_reducible first | exact HB.out | apply below_alloc | apply pw_below_drewN | apply below_drew1 | refine below_set ?_ GE206.out | refine below_set ?_ GE221.out) | exact HB.out)) hb); clear HO219; clear BK206; clear BK221; clear HB; have HO219 := n0_; have BK206 := n1_; have BK221 := n2_; have HB := n3_; clear n0_ n1_ n2_ n3_; (try clear hb); (try clear hb2); (try clear hk); (try clear hi); (try clear A47); have hcz90_0 : w89.cell? ⟨gb221, 0, none⟩ = some (.slice Ao43 t217.length co43) := (blk_cell BK221.out 0).trans rfl; have hfz90_0 := blk_frozen BK221.out 0) | ((with_reducible refine gate_callee (f := 14) rfl ?_); refine goesL_ (some 80) rfl rfl Try.func14 (by kernel_rfl) rfl #[.agg #[.slice Ao43 t217.length co43], .int .i64 a1, .int .i64 a2, .bool true] rfl (by (try simp only [List.map_toArray, List.map_cons, List.map_nil]); first | done | rfl | (simp only [List.length_drop, List.length_take]; rfl)) ?_; (with_reducible refine (table_Put.calls kj24 _ _ t217 a1 a2 true t224 t227 _ ?side1 ?side2 A48.out).mono ?_); (case side1 => repeat (first | exact (Kd.R_reads' HO219.out).2.2 | (with_reducible refine Kd.C_alloc ?_ _) | (with_reducible refine Kd.C_drewN ?_ _) | (with_reducible refine Kd.C_drew ?_))); (case side2 => exact (Kd.R_reads' HO219.out).2.1); rintro e w91 ⟨v225, rfl, ho0, hb⟩; refine ⟨_, rfl, ?_⟩; have n0_ := Aside0.mk (Kd.R_elder' (by (with_reducible repeat (first | apply Kd.R_alloc | apply Kd.R_drewN | apply Kd.R_drew)); exact HO219.out) (Kd.R_base ho0) hb); have n1_ := Aside0.mk (Kd.R_lower (Kd.R_new' ho0 (Kd.R_lt (by (with_reducible repeat (first | apply Kd.R_alloc | apply Kd.R_drewN | apply Kd.R_drew)); exact HO219.out))) (below_size (by repeat (first | (with_reducible first | exact HB.out | apply below_alloc | apply pw_below_drewN | apply below_drew1 | refine below_set ?_ GE206.out | refine below_set ?_ GE221.out) | exact HB.out)))); have n2_ := Aside0.mk (blk_below (g := gb206) (o := .cells #[.slice A0_0 l0_0.length c0_0] 24 (0, 0)) (by (with_reducible repeat first | apply blk_drewN | apply blk_drew | apply blk_alloc); exact BK206.out) hb); have n3_ := Aside0.mk (blk_below (g := gb221) (o := .cells #[.slice Ao43 t217.length co43] 24 (0, 0)) (by (with_reducible repeat first | apply blk_drewN | apply blk_drew | apply blk_alloc); exact BK221.out) hb); have n4_ := Aside0.mk (below_step (by repeat (first | (with_reducible first | exact HB.out | apply below_alloc | apply pw_below_drewN | apply below_drew1 | refine below_set ?_ GE206.out | refine below_set ?_ GE221.out) | exact HB.out)) hb); clear HO219; clear BK206; clear BK221; clear HB; have HO219 := n0_; have HO226 := n1_; have BK206 := n2_; have BK221 := n3_; have HB := n4_; clear n0_ n1_ n2_ n3_ n4_; (try clear hb); (try clear hb2); (try clear hk); (try clear hi); (try clear ho0); (try clear A48)) | ((with_reducible refine gate_dst (N := 17) rfl ?_); (try (refine gate_guard (by rfl) ?_; dsimp only)); refine box_event ?hg (N := 17) ?hd (cs := #[.slice none 0 0]) (t := 24) ?hr ?_; (case hd => rfl); (case hg => rfl); (case hr => first | (go_simp; done) | (go_simp; rfl)); intro gb228 hg w92 hbox hb; have n0_ := Aside0.mk (Kd.R_below (by (with_reducible repeat (first | apply Kd.R_alloc | apply Kd.R_drewN | apply Kd.R_drew)); exact HO219.out) hb); have n1_ := Aside0.mk (Kd.R_below (by (with_reducible repeat (first | apply Kd.R_alloc | apply Kd.R_drewN | apply Kd.R_drew)); exact HO226.out) hb); have n2_ := Aside0.mk (blk_below (g := gb206) (o := .cells #[.slice A0_0 l0_0.length c0_0] 24 (0, 0)) (by (with_reducible repeat first | apply blk_drewN | apply blk_drew | apply blk_alloc); exact BK206.out) hb); have n3_ := Aside0.mk (blk_below (g := gb221) (o := .cells #[.slice Ao43 t217.length co43] 24 (0, 0)) (by (with_reducible repeat first | apply blk_drewN | apply blk_drew | apply blk_alloc); exact BK221.out) hb); have n4_ := Aside0.mk (below_step (by repeat (first | (with_reducible first | exact HB.out | apply below_alloc | apply pw_below_drewN | apply below_drew1 | refine below_set ?_ GE206.out | refine below_set ?_ GE221.out) | exact HB.out)) hb); have n5_ := Aside0.mk (hbox); have n6_ := Aside0.mk ((by rw [hg]; exact (below_size (by repeat (first | (with_reducible first | exact HB.out | apply below_alloc | apply pw_below_drewN | apply below_drew1 | refine below_set ?_ GE206.out | refine below_set ?_ GE221.out) | exact HB.out))) : w.heap.size ≤ gb228)); have n7_ := Aside0.mk ((by rw [hg]; exact (below_size (by repeat (first | (with_reducible first | exact HB.out | apply below_alloc | apply pw_below_drewN | apply below_drew1 | refine below_set ?_ GE206.out | refine below_set ?_ GE221.out) | exact HB.out))) : w.heap.size ≤ gb228)); have n8_ := Aside0.mk ((by rw [hg]; exact Nat.ne_of_lt (blk_lt (g := gb206) (o := .cells #[.slice A0_0 l0_0.length c0_0] 24 (0, 0)) (by (with_reducible repeat first | apply blk_drewN | apply blk_drew | apply blk_alloc); exact BK206.out)) : gb206 ≠ gb228)); have n9_ := Aside0.mk ((by rw [hg]; exact Nat.ne_of_gt (blk_lt (g := gb206) (o := .cells #[.slice A0_0 l0_0.length c0_0] 24 (0, 0)) (by (with_reducible repeat first | apply blk_drewN | apply blk_drew | apply blk_alloc); exact BK206.out)) : gb228 ≠ gb206)); have n10_ := Aside0.mk ((by rw [hg]; exact Nat.ne_of_lt (blk_lt (g := gb221) (o := .cells #[.slice Ao43 t217.length co43] 24 (0, 0)) (by (with_reducible repeat first | apply blk_drewN | apply blk_drew | apply blk_alloc); exact BK221.out)) : gb221 ≠ gb228)); have n11_ := Aside0.mk ((by rw [hg]; exact Nat.ne_of_gt (blk_lt (g := gb221) (o := .cells #[.slice Ao43 t217.length co43] 24 (0, 0)) (by (with_reducible repeat first | apply blk_drewN | apply blk_drew | apply blk_alloc); exact BK221.out)) : gb228 ≠ gb221)); clear HO219; clear HO226; clear BK206; clear BK221; clear HB; have HO219 := n0_; have HO226 := n1_; have BK206 := n2_; have BK221 := n3_; have HB := n4_; have BK228 := n5_; have GW228 := n6_; have GE228 := n7_; have NB206_228 := n8_; have NB228_206 := n9_; have NB221_228 := n10_; have NB228_221 := n11_; clear n0_ n1_ n2_ n3_ n4_ n5_ n6_ n7_ n8_ n9_ n10_ n11_; clear hb hbox hg; obtain ⟨Ao93, co93, eo93⟩ := Kd.R_slice HO226.out; subst eo93; have hnb94 := NB228_206.out; have hnc94 := NB206_228.out; have hnb95 := NB228_221.out; have hnc95 := NB221_228.out; have hcz96_0 : w92.cell? ⟨gb228, 0, none⟩ = some (.slice none 0 0) := (blk_cell BK228.out 0).trans rfl; have hfz96_0 := blk_frozen BK228.out 0; have hcz97_0 : w92.cell? ⟨gb206, 0, none⟩ = some (.slice A0_0 l0_0.length c0_0) := (blk_cell BK206.out 0).trans rfl; have hfz97_0 := blk_frozen BK206.out 0) | (go_at_call 24; (with_reducible refine (table_Same.calls kj24 _ _ t224 _ _ l0_0 true _ ?side1 ?side2 ?side3 ?side4 A50.out).mono ?_); (case side1 => refine (Kd.R_reads' (e := 34) (base := w.heap.size) (ok := fun k_ => (True ∧ some k_ ≠ (.slice Ao43 t217.length co43 : Value).ownBlock)) (n := t224.length) (c := co93) ?_).2.2; exact (by (with_reducible repeat (first | apply Kd.R_alloc | apply Kd.R_drewN | apply Kd.R_drew)); exact (Kd.R_mono (Kd.R_far (p := ⟨gb228, 0, none⟩) (Kd.R_types HO226.out BK228.out (by decide)) (fun _ hk => hk.2) (.slice Ao93 t224.length co93)) (fun _ h_ => h_.1)))); (case side2 => exact (Kd.R_reads' HO226.out).2.1); (case side3 => exact Kd.C_below HR0_0.out (by repeat (first | (with_reducible first | exact HB.out | apply below_alloc | apply pw_below_drewN | apply below_drew1 | refine below_set ?_ GE206.out | refine below_set ?_ GE221.out | refine below_set ?_ GE228.out) | exact HB.out))); (case side4 => exact HC0_0.out); rintro e w98 ⟨rfl, hb⟩; have n0_ := Aside0.mk (Kd.R_below (by (with_reducible repeat (first | apply Kd.R_alloc | apply Kd.R_drewN | apply Kd.R_drew)); exact (Kd.R_mono (Kd.R_far (p := ⟨gb228, 0, none⟩) (Kd.R_types HO219.out BK228.out (by decide)) (fun _ hk => hk.2) (.slice Ao93 t224.length co93)) (fun _ h_ => h_.1))) hb); have n1_ := Aside0.mk (Kd.R_below (by (with_reducible repeat (first | apply Kd.R_alloc | apply Kd.R_drewN | apply Kd.R_drew)); exact (Kd.R_mono (Kd.R_far (p := ⟨gb228, 0, none⟩) (Kd.R_types HO226.out BK228.out (by decide)) (fun _ hk => hk.2) (.slice Ao93 t224.length co93)) (fun _ h_ => h_.1))) hb); have n2_ := Aside0.mk (blk_below (g := gb206) (o := .cells #[.slice A0_0 l0_0.length c0_0] 24 (0, 0)) (by (with_reducible repeat first | apply blk_drewN | apply blk_drew | apply blk_alloc); refine blk_far ?_ NB206_228.out _; (with_reducible repeat first | apply blk_drewN | apply blk_drew | apply blk_alloc); exact BK206.out) hb); have n3_ := Aside0.mk (blk_below (g := gb221) (o := .cells #[.slice Ao43 t217.length co43] 24 (0, 0)) (by (with_reducible repeat first | apply blk_drewN | apply blk_drew | apply blk_alloc); refine blk_far ?_ NB221_228.out _; (with_reducible repeat first | apply blk_drewN | apply blk_drew | apply blk_alloc); exact BK221.out) hb); have n4_ := Aside0.mk (blk_below (g := gb228) (o := .cells #[.slice Ao93 t224.length co93] 24 (0, 0)) (by (with_reducible repeat first | apply blk_drewN | apply blk_drew | apply blk_alloc); refine blk_put (cs := #[.slice none 0 0]) ?_ 0 _ rfl; (with_reducible repeat first | apply blk_drewN | apply blk_drew | apply blk_alloc); exact BK228.out) hb); have n5_ := Aside0.mk (below_step (by repeat (first | (with_reducible first | exact HB.out | apply below_alloc | apply pw_below_drewN | apply below_drew1 | refine below_set ?_ GE206.out | refine below_set ?_ GE221.out | refine below_set ?_ GE228.out) | exact HB.out)) hb); clear HO219; clear HO226; clear BK206; clear BK221; clear BK228; clear HB; have HO219 := n0_; have HO226 := n1_; have BK206 := n2_; have BK221 := n3_; have BK228 := n4_; have HB := n5_; clear n0_ n1_ n2_ n3_ n4_ n5_; (try clear hb); (try clear hb2); (try clear hk); (try clear hi); (try clear A50); have hcz99_0 : w98.cell? ⟨gb221, 0, none⟩ = some (.slice Ao43 t217.length co43) := (blk_cell BK221.out 0).trans rfl; have hfz99_0 := blk_frozen BK221.out 0) | (go_at_call 16; (with_reducible refine (table_Taken.calls kj24 _ _ t217 a1 a2 t230 _ ?side1 ?side2 A52.out).mono ?_); (case side1 => repeat (first | exact (Kd.R_reads' HO219.out).2.2 | (with_reducible refine Kd.C_alloc ?_ _) | (with_reducible refine Kd.C_drewN ?_ _) | (with_reducible refine Kd.C_drew ?_))); (case side2 => exact (Kd.R_reads' HO219.out).2.1); rintro e w100 ⟨rfl, hb⟩; have n0_ := Aside0.mk (Kd.R_below (by (with_reducible repeat (first | apply Kd.R_alloc | apply Kd.R_drewN | apply Kd.R_drew)); exact HO219.out) hb); have n1_ := Aside0.mk (Kd.R_below (by (with_reducible repeat (first | apply Kd.R_alloc | apply Kd.R_drewN | apply Kd.R_drew)); exact HO226.out) hb); have n2_ := Aside0.mk (blk_below (g := gb206) (o := .cells #[.slice A0_0 l0_0.length c0_0] 24 (0, 0)) (by (with_reducible repeat first | apply blk_drewN | apply blk_drew | apply blk_alloc); exact BK206.out) hb); have n3_ := Aside0.mk (blk_below (g := gb221) (o := .cells #[.slice Ao43 t217.length co43] 24 (0, 0)) (by (with_reducible repeat first | apply blk_drewN | apply blk_drew | apply blk_alloc); exact BK221.out) hb); have n4_ := Aside0.mk (blk_below (g := gb228) (o := .cells #[.slice Ao93 t224.length co93] 24 (0, 0)) (by (with_reducible repeat first | apply blk_drewN | apply blk_drew | apply blk_alloc); exact BK228.out) hb); have n5_ := Aside0.mk (below_step (by repeat (first | (with_reducible first | exact HB.out | apply below_alloc | apply pw_below_drewN | apply below_drew1 | refine below_set ?_ GE206.out | refine below_set ?_ GE221.out | refine below_set ?_ GE228.out) | exact HB.out)) hb); clear HO219; clear HO226; clear BK206; clear BK221; clear BK228; clear HB; have HO219 := n0_; have HO226 := n1_; have BK206 := n2_; have BK221 := n3_; have BK228 := n4_; have HB := n5_; clear n0_ n1_ n2_ n3_ n4_ n5_; (try clear hb); (try clear hb2); (try clear hk); (try clear hi); (try clear A52)))
               go_meet
               case rel => exact ⟨_, H', ⟨by have := HJ4.out; have := HJ24.out; first | omega | exact Nat.le_refl _⟩, ⟨by (with_reducible repeat (first | apply Kd.R_alloc | apply Kd.R_drewN | apply Kd.R_drew)); exact Kd.R_mono HO219.out (fun _ hk => trivial)⟩, ⟨by (with_reducible repeat first | apply blk_drewN | apply blk_drew | apply blk_alloc); exact BK206.out⟩, ⟨by (with_reducible repeat first | apply blk_drewN | apply blk_drew | apply blk_alloc); exact BK221.out⟩, ⟨by repeat (first | (with_reducible first | exact HB.out | apply below_alloc | apply pw_below_drewN | apply below_drew1 | refine below_set ?_ GE206.out | refine below_set ?_ GE221.out | refine below_set ?_ GE228.out) | exact HB.out)⟩⟩
              ·rw [if_neg c86] at H
               have c86b0 : (t223 == (wrap64 (t212 - 1))) = false := beq_eq_false_iff_ne.mpr c86
               have c86b1 : (t223 != (wrap64 (t212 - 1))) = true := bne_iff_ne.mpr c86
               exact absurd (Option.some.inj H) (by rw [hrt_.out]; decide)
             ·replace c85 := Bool.eq_false_iff.mpr c85
              subst c85
              have H1 : (some false) = some r := by rw [if_neg (show ¬ (false = true) by decide)] at H; exact H
              clear H
              have H := H1
              clear H1
              exact absurd (Option.some.inj H) (by rw [hrt_.out]; decide)
          ·replace c51 := Bool.eq_false_iff.mpr c51
           subst c51
           have H1 : (some false) = some r := by rw [if_neg (show ¬ (false = true) by decide)] at H; exact H
           clear H
           have H := H1
           clear H1
           exact absurd (Option.some.inj H) (by rw [hrt_.out]; decide)
         ·rw [if_neg c49] at H
          have c49b0 : (t227 == 0) = false := beq_eq_false_iff_ne.mpr c49
          have c49b1 : (t227 != 0) = true := bne_iff_ne.mpr c49
          exact absurd (Option.some.inj H) (by rw [hrt_.out]; decide)
        ·rw [if_neg c46] at H
         have c46b0 : (t220 == 0) = false := beq_eq_false_iff_ne.mpr c46
         have c46b1 : (t220 != 0) = true := bne_iff_ne.mpr c46
         (first | rw [c46b0] | (simp only [i64_w, i32_w]; rw [c46b0]) | skip)
         have H' := Aside0.mk H
         clear H
         go_wp2
         go_meet
         case rel => exact ⟨_, H', ⟨by have := HJ4.out; have := HJ24.out; first | omega | exact Nat.le_refl _⟩, ⟨by (with_reducible repeat (first | apply Kd.R_alloc | apply Kd.R_drewN | apply Kd.R_drew)); exact Kd.R_mono (Kd.R_far (p := ⟨gb221, 0, none⟩) (Kd.R_types HO219.out BK221.out (by decide)) (fun _ hk => hk.2) (.slice Ao43 t217.length co43)) (fun _ hk => trivial)⟩, ⟨by (with_reducible repeat first | apply blk_drewN | apply blk_drew | apply blk_alloc); refine blk_far ?_ NB206_221.out _; (with_reducible repeat first | apply blk_drewN | apply blk_drew | apply blk_alloc); exact BK206.out⟩, ⟨by (with_reducible repeat first | apply blk_drewN | apply blk_drew | apply blk_alloc); refine blk_put (cs := #[.slice none 0 0]) ?_ 0 _ rfl; (with_reducible repeat first | apply blk_drewN | apply blk_drew | apply blk_alloc); exact BK221.out⟩, ⟨by repeat (first | (with_reducible first | exact HB.out | apply below_alloc | apply pw_below_drewN | apply below_drew1 | refine below_set ?_ GE206.out | refine below_set ?_ GE221.out) | exact HB.out)⟩⟩
       case rest =>
        clear HC37
        try clear c1
        try clear c2
        try clear p2
        try clear c3
        try clear c4
        try clear c5
        try clear c6
        try clear p6
        try clear c7
        try clear c8
        try clear c9
        try clear c10
        try clear c14
        try clear c16
        try clear c21
        try clear c28
        try clear c28b0
        try clear c28b1
        try clear c34
        try clear c44
        try clear c46
        try clear c46b0
        try clear c46b1
        try clear c49
        try clear c49b0
        try clear c49b1
        try clear c51
        try clear c53
        try clear c53b0
        try clear c53b1
        try clear c53b2
        try clear c54
        try clear c54b0
        try clear c54b1
        try clear c55
        try clear c55b0
        try clear c55b1
        try clear c56
        try clear c63
        try clear c64
        try clear p64
        try clear c70
        try clear c71
        try clear c78
        try clear c79
        try clear c85
        try clear c86
        try clear c86b0
        try clear c86b1
        try clear c87
        try clear c94
        try clear c95
        try clear hcz13_0
        try clear hcz15_0
        try clear hcz18_0
        try clear hcz26_0
        try clear hcz30_0
        try clear hcz33_0
        try clear hcz38_0
        try clear hcz40_0
        try clear hcz45_0
        try clear hcz57_0
        try clear hcz59_0
        try clear hcz65_0
        try clear hcz66_0
        try clear hcz68_0
        try clear hcz72_0
        try clear hcz74_0
        try clear hcz80_0
        try clear hcz81_0
        try clear hcz83_0
        try clear hcz88_0
        try clear hcz90_0
        try clear hcz96_0
        try clear hcz97_0
        try clear hcz99_0
        try clear hfz13_0
        try clear hfz15_0
        try clear hfz18_0
        try clear hfz26_0
        try clear hfz30_0
        try clear hfz33_0
        try clear hfz38_0
        try clear hfz40_0
        try clear hfz45_0
        try clear hfz57_0
        try clear hfz59_0
        try clear hfz65_0
        try clear hfz66_0
        try clear hfz68_0
        try clear hfz72_0
        try clear hfz74_0
        try clear hfz80_0
        try clear hfz81_0
        try clear hfz83_0
        try clear hfz88_0
        try clear hfz90_0
        try clear hfz96_0
        try clear hfz97_0
        try clear hfz99_0
        try clear p2
        obtain ⟨kq, HA, HJ36, HO_222000, BK206, BK221, HB⟩ := hcut
        cases kq with
        | zero => exact absurd HA.out (by simp [atticlaw14_TableCounts.j2])
        | succ kj36 =>
         have H := HA.out
         clear HA
         simp only [atticlaw14_TableCounts.j2] at H
         replace H := Option.bind_eq_some_iff.mp H
         obtain ⟨⟨t231, t234⟩, A1010, H⟩ := H
         replace H : (if t234 = 0 then (if 0 ≤ a1 then (if a1 < (l0_0.length : Int) then ((table_Assign.f kj36 t231 a1 ((rd_T34 l0_0 a1).f0)).bind fun bt237 => (if bt237.2 = 0 then ((table_Same.f kj36 bt237.1 l0_0).bind fun t242 => (some t242)) else (some false))) else (none)) else (none)) else (some true)) = some r := H
         have A101 := Aside0.mk A1010
         clear A1010
         by_cases c102 : t234 = 0
         ·rw [if_pos c102] at H
          have c102b0 : (t234 == 0) = true := beq_iff_eq.mpr c102
          have c102b1 : (t234 != 0) = false := bne_eq_false_iff_eq.mpr c102
          clear c102
          by_cases c103 : 0 ≤ a1
          ·rw [if_pos c103] at H
           have c103b0 : decide (0 ≤ a1) = true := decide_eq_true c103
           clear c103
           by_cases c104 : a1 < (l0_0.length : Int)
           ·rw [if_pos c104] at H
            have c104b0 : decide (a1 < (l0_0.length : Int)) = true := decide_eq_true c104
            clear c104
            replace H := Option.bind_eq_some_iff.mp H
            obtain ⟨⟨t237, t240⟩, A1050, H⟩ := H
            replace H : (if t240 = 0 then ((table_Same.f kj36 t237 l0_0).bind fun t242 => (some t242)) else (some false)) = some r := H
            have A105 := Aside0.mk A1050
            clear A1050
            by_cases c106 : t240 = 0
            ·rw [if_pos c106] at H
             have c106b0 : (t240 == 0) = true := beq_iff_eq.mpr c106
             have c106b1 : (t240 != 0) = false := bne_eq_false_iff_eq.mpr c106
             clear c106
             replace H := Option.bind_eq_some_iff.mp H
             obtain ⟨t242, A1070, H⟩ := H
             replace H : (some t242) = some r := H
             have A107 := Aside0.mk A1070
             clear A1070
             obtain rfl := Option.some.inj H
             have hnb108 := NB206_221.out
             have hnc108 := NB221_206.out
             have hcz109_0 : wc.cell? ⟨gb206, 0, none⟩ = some (.slice A0_0 l0_0.length c0_0) := (blk_cell BK206.out 0).trans rfl
             have hfz109_0 := blk_frozen BK206.out 0
             try go_wp2_with (first | ((with_reducible refine gate_callee (f := 11) rfl ?_); refine goesL_ (some 122) rfl rfl Try.func11 (by kernel_rfl) rfl #[.agg #[.slice A0_0 l0_0.length c0_0], .int .i64 a1, .int .i64 a3] rfl (by (try simp only [List.map_toArray, List.map_cons, List.map_nil]); first | done | rfl | (simp only [List.length_drop, List.length_take]; rfl)) ?_; (with_reducible refine (table_Assign.calls kj36 _ _ l0_0 a1 a3 t231 t234 _ ?side1 ?side2 A101.out).mono ?_); (case side1 => repeat (first | exact (Kd.C_below HR0_0.out HB.out) | (with_reducible refine Kd.C_alloc ?_ _) | (with_reducible refine Kd.C_drewN ?_ _) | (with_reducible refine Kd.C_drew ?_))); (case side2 => exact HC0_0.out); rintro e w110 ⟨v232, rfl, ho0, hb⟩; refine ⟨_, rfl, ?_⟩; have n0_ := Aside0.mk (Kd.R_elder' (by (with_reducible repeat (first | apply Kd.R_alloc | apply Kd.R_drewN | apply Kd.R_drew)); exact HO_222000.out) (Kd.R_base ho0) hb); have n1_ := Aside0.mk (Kd.R_lower (Kd.R_new' ho0 (Kd.R_lt (by (with_reducible repeat (first | apply Kd.R_alloc | apply Kd.R_drewN | apply Kd.R_drew)); exact HO_222000.out))) (below_size (by repeat (first | (with_reducible first | exact HB.out | apply below_alloc | apply pw_below_drewN | apply below_drew1 | refine below_set ?_ GE206.out | refine below_set ?_ GE221.out) | exact HB.out)))); have n2_ := Aside0.mk (blk_below (g := gb206) (o := .cells #[.slice A0_0 l0_0.length c0_0] 24 (0, 0)) (by (with_reducible repeat first | apply blk_drewN | apply blk_drew | apply blk_alloc); exact BK206.out) hb); have n3_ := Aside0.mk (blk_below (g := gb221) (o := .cells #[.slice Ao43 t217.length co43] 24 (0, 0)) (by (with_reducible repeat first | apply blk_drewN | apply blk_drew | apply blk_alloc); exact BK221.out) hb); have n4_ := Aside0.mk (below_step (by repeat (first | (with_reducible first | exact HB.out | apply below_alloc | apply pw_below_drewN | apply below_drew1 | refine below_set ?_ GE206.out | refine below_set ?_ GE221.out) | exact HB.out)) hb); clear HO_222000; clear BK206; clear BK221; clear HB; have HO_222000 := n0_; have HO233 := n1_; have BK206 := n2_; have BK221 := n3_; have HB := n4_; clear n0_ n1_ n2_ n3_ n4_; (try clear hb); (try clear hb2); (try clear hk); (try clear hi); (try clear ho0); (try clear A101)) | ((with_reducible refine gate_dst (N := 19) rfl ?_); (try (refine gate_guard (by rfl) ?_; dsimp only)); refine box_event ?hg (N := 19) ?hd (cs := #[.slice none 0 0]) (t := 24) ?hr ?_; (case hd => rfl); (case hg => rfl); (case hr => first | (go_simp; done) | (go_simp; rfl)); intro gb235 hg w111 hbox hb; have n0_ := Aside0.mk (Kd.R_below (by (with_reducible repeat (first | apply Kd.R_alloc | apply Kd.R_drewN | apply Kd.R_drew)); exact HO_222000.out) hb); have n1_ := Aside0.mk (Kd.R_below (by (with_reducible repeat (first | apply Kd.R_alloc | apply Kd.R_drewN | apply Kd.R_drew)); exact HO233.out) hb); have n2_ := Aside0.mk (blk_below (g := gb206) (o := .cells #[.slice A0_0 l0_0.length c0_0] 24 (0, 0)) (by (with_reducible repeat first | apply blk_drewN | apply blk_drew | apply blk_alloc); exact BK206.out) hb); have n3_ := Aside0.mk (blk_below (g := gb221) (o := .cells #[.slice Ao43 t217.length co43] 24 (0, 0)) (by (with_reducible repeat first | apply blk_drewN | apply blk_drew | apply blk_alloc); exact BK221.out) hb); have n4_ := Aside0.mk (below_step (by repeat (first | (with_reducible first | exact HB.out | apply below_alloc | apply pw_below_drewN | apply below_drew1 | refine below_set ?_ GE206.out | refine below_set ?_ GE221.out) | exact HB.out)) hb); have n5_ := Aside0.mk (hbox); have n6_ := Aside0.mk ((by rw [hg]; exact (below_size (by repeat (first | (with_reducible first | exact HB.out | apply below_alloc | apply pw_below_drewN | apply below_drew1 | refine below_set ?_ GE206.out | refine below_set ?_ GE221.out) | exact HB.out))) : w.heap.size ≤ gb235)); have n7_ := Aside0.mk ((by rw [hg]; exact (below_size (by repeat (first | (with_reducible first | exact HB.out | apply below_alloc | apply pw_below_drewN | apply below_drew1 | refine below_set ?_ GE206.out | refine below_set ?_ GE221.out) | exact HB.out))) : w.heap.size ≤ gb235)); have n8_ := Aside0.mk ((by rw [hg]; exact Nat.ne_of_lt (blk_lt (g := gb206) (o := .cells #[.slice A0_0 l0_0.length c0_0] 24 (0, 0)) (by (with_reducible repeat first | apply blk_drewN | apply blk_drew | apply blk_alloc); exact BK206.out)) : gb206 ≠ gb235)); have n9_ := Aside0.mk ((by rw [hg]; exact Nat.ne_of_gt (blk_lt (g := gb206) (o := .cells #[.slice A0_0 l0_0.length c0_0] 24 (0, 0)) (by (with_reducible repeat first | apply blk_drewN | apply blk_drew | apply blk_alloc); exact BK206.out)) : gb235 ≠ gb206)); have n10_ := Aside0.mk ((by rw [hg]; exact Nat.ne_of_lt (blk_lt (g := gb221) (o := .cells #[.slice Ao43 t217.length co43] 24 (0, 0)) (by (with_reducible repeat first | apply blk_drewN | apply blk_drew | apply blk_alloc); exact BK221.out)) : gb221 ≠ gb235)); have n11_ := Aside0.mk ((by rw [hg]; exact Nat.ne_of_gt (blk_lt (g := gb221) (o := .cells #[.slice Ao43 t217.length co43] 24 (0, 0)) (by (with_reducible repeat first | apply blk_drewN | apply blk_drew | apply blk_alloc); exact BK221.out)) : gb235 ≠ gb221)); clear HO_222000; clear HO233; clear BK206; clear BK221; clear HB; have HO_222000 := n0_; have HO233 := n1_; have BK206 := n2_; have BK221 := n3_; have HB := n4_; have BK235 := n5_; have GW235 := n6_; have GE235 := n7_; have NB206_235 := n8_; have NB235_206 := n9_; have NB221_235 := n10_; have NB235_221 := n11_; clear n0_ n1_ n2_ n3_ n4_ n5_ n6_ n7_ n8_ n9_ n10_ n11_; clear hb hbox hg; obtain ⟨Ao112, co112, eo112⟩ := Kd.R_slice HO233.out; subst eo112; have hnb113 := NB235_206.out; have hnc113 := NB206_235.out; have hnb114 := NB235_221.out; have hnc114 := NB221_235.out; have hcz115_0 : w111.cell? ⟨gb235, 0, none⟩ = some (.slice none 0 0) := (blk_cell BK235.out 0).trans rfl; have hfz115_0 := blk_frozen BK235.out 0))
             have n0_ : Aside0 (Kd.R k34 34 (w111.setCell ⟨gb235, 0, none⟩ (.slice Ao112 t231.length co112)) w.heap.size (fun k_ => some k_ ≠ (.slice Ao112 t231.length co112 : Value).ownBlock) (.slice Ao43 t217.length co43) t217) := ⟨by (with_reducible repeat (first | apply Kd.R_alloc | apply Kd.R_drewN | apply Kd.R_drew)); exact Kd.R_mono (Kd.R_far (p := ⟨gb235, 0, none⟩) (Kd.R_types HO_222000.out BK235.out (by decide)) (fun _ hk => hk.2) (.slice Ao112 t231.length co112)) (fun _ hk => hk.1.2)⟩
             have n1_ : Aside0 (Kd.R k34 34 (w111.setCell ⟨gb235, 0, none⟩ (.slice Ao112 t231.length co112)) w.heap.size (fun k_ => some k_ ≠ (.slice Ao43 t217.length co43 : Value).ownBlock) (.slice Ao112 t231.length co112) t231) := ⟨by (with_reducible repeat (first | apply Kd.R_alloc | apply Kd.R_drewN | apply Kd.R_drew)); exact Kd.R_mono (Kd.R_far (p := ⟨gb235, 0, none⟩) (Kd.R_types HO233.out BK235.out (by decide)) (fun _ hk => hk.2) (.slice Ao112 t231.length co112)) (fun _ hk => hk.1.2)⟩
             have n2_ : Aside0 ((w111.setCell ⟨gb235, 0, none⟩ (.slice Ao112 t231.length co112)).heap[gb206]? = some (.cells #[.slice A0_0 l0_0.length c0_0] 24 (0, 0))) := ⟨by (with_reducible repeat first | apply blk_drewN | apply blk_drew | apply blk_alloc); refine blk_far ?_ NB206_235.out _; (with_reducible repeat first | apply blk_drewN | apply blk_drew | apply blk_alloc); exact BK206.out⟩
             have n3_ : Aside0 ((w111.setCell ⟨gb235, 0, none⟩ (.slice Ao112 t231.length co112)).heap[gb221]? = some (.cells #[.slice Ao43 t217.length co43] 24 (0, 0))) := ⟨by (with_reducible repeat first | apply blk_drewN | apply blk_drew | apply blk_alloc); refine blk_far ?_ NB221_235.out _; (with_reducible repeat first | apply blk_drewN | apply blk_drew | apply blk_alloc); exact BK221.out⟩
             have n4_ : Aside0 ((w111.setCell ⟨gb235, 0, none⟩ (.slice Ao112 t231.length co112)).heap[gb235]? = some (.cells #[.slice Ao112 t231.length co112] 24 (0, 0))) := ⟨by (with_reducible repeat first | apply blk_drewN | apply blk_drew | apply blk_alloc); refine blk_put (cs := #[.slice none 0 0]) ?_ 0 _ rfl; (with_reducible repeat first | apply blk_drewN | apply blk_drew | apply blk_alloc); exact BK235.out⟩
             have n5_ : Aside0 (Below w.heap.size w (w111.setCell ⟨gb235, 0, none⟩ (.slice Ao112 t231.length co112))) := ⟨by repeat (first | (with_reducible first | exact HB.out | apply below_alloc | apply pw_below_drewN | apply below_drew1 | refine below_set ?_ GE206.out | refine below_set ?_ GE221.out | refine below_set ?_ GE235.out) | exact HB.out)⟩
             (try clear HO_222000)
             (try clear HO233)
             (try clear BK206)
             (try clear BK221)
             (try clear BK235)
             (try clear HB)
             generalize (w111.setCell ⟨gb235, 0, none⟩ (.slice Ao112 t231.length co112)) = w116 at n0_ n1_ n2_ n3_ n4_ n5_ ⊢
             have HO_222000 := n0_
             have HO233 := n1_
             have BK206 := n2_
             have BK221 := n3_
             have BK235 := n4_
             have HB := n5_
             clear n0_ n1_ n2_ n3_ n4_ n5_
             have n0_ := Aside0.mk (Kd.R_drew HO_222000.out)
             have n1_ := Aside0.mk (Kd.R_drew HO233.out)
             have n2_ := Aside0.mk (blk_drew BK206.out)
             have n3_ := Aside0.mk (blk_drew BK221.out)
             have n4_ := Aside0.mk (blk_drew BK235.out)
             have n5_ := Aside0.mk (below_drew1 HB.out)
             clear HO_222000
             clear HO233
             clear BK206
             clear BK221
             clear BK235
             clear HB
             have HO_222000 := n0_
             have HO233 := n1_
             have BK206 := n2_
             have BK221 := n3_
             have BK235 := n4_
             have HB := n5_
             clear n0_ n1_ n2_ n3_ n4_ n5_
             have p236 : 0 ≤ (a1 : Int) := of_decide_eq_true (by first | (with_reducible assumption) | assumption)
             have q236 : a1 < (l0_0.length : Int) := of_decide_eq_true (by first | (with_reducible assumption) | assumption)
             obtain ⟨ad236, e236, hx236_0, hx236_1⟩ := at_T34 HR0_0.out a1 p236 q236
             have hw236_1 := hx236_1
             have hw236_0 := hx236_0
             cases e236
             replace hx236_0 := (HB.out.cell (World.block_lt_of_cell? w _ hx236_0)).trans hx236_0
             replace hx236_1 := (HB.out.cell (World.block_lt_of_cell? w _ hx236_1)).trans hx236_1
             replace p236 := eq_true p236
             replace q236 := eq_true q236
             refine start_ (n := 15) (S := fun w' => w'.cell? ⟨gb235, 0, none⟩ = some (.slice Ao112 t231.length co112) ∧ w'.cell? ⟨gb206, 0, none⟩ = some (.slice (some ad236) l0_0.length c0_0) ∧ w'.cell? (ad236.add ((a1).toNat * 2)) = some (.int .i64 ((rd_T34 l0_0 a1).f0)) ∧ w'.cell? ⟨(ad236.add ((a1).toNat * 2)).block, (ad236.add ((a1).toNat * 2)).off + 1, none⟩ = some (.int .u32 ((rd_T34 l0_0 a1).f1))) (ds := []) #[false, false, false, false, false, false, false, false, false, false, false, false, false, false, false] (by kernel_rfl) rfl rfl ⟨(blk_cell BK235.out 0).trans rfl, (blk_cell BK206.out 0).trans rfl, ((HB.out.cell (World.block_lt_of_cell? w _ hw236_0)).trans hw236_0), ((HB.out.cell (World.block_lt_of_cell? w _ hw236_1)).trans hw236_1)⟩ (fun hHeld => ?_); refine with_tabW atticlaw14_TableCounts.tab17 atticlaw14_TableCounts.bits17 (fun HT_ HW_ => ?_)
             generalize w116.drew = w117 at HO_222000 HO233 BK206 BK221 BK235 HB hx236_0 hx236_1 hHeld ⊢
             refine pure_ (i := 1) (N := some 129) (v := ?_) (a' := ?_) #[false, true, false, false, false, false, false, false, false, false, false, false, false, false, false] rfl rfl (any_of HT_.out (by kernel_rfl)) (fun _ _ _ h => h) (Or.inl ⟨by rfl, ?_⟩) ?_ ?_
             rotate_left
             ·intro w'
              go_simp
              with_reducible rfl
             rotate_left
             ·simp only [Act.put, List.setIfInBounds_toArray, List.set_cons_zero, List.set_cons_succ, i64_w, i32_w]
              rfl
             refine pure_ (i := 2) (N := some 130) (v := ?_) (a' := ?_) #[false, true, true, false, false, false, false, false, false, false, false, false, false, false, false] rfl rfl (any_of HT_.out (by kernel_rfl)) (fun _ _ _ h => h) (Or.inl ⟨by rfl, ?_⟩) ?_ ?_
             rotate_left
             ·intro w'
              go_simp
              with_reducible rfl
             rotate_left
             ·simp only [Act.put, List.setIfInBounds_toArray, List.set_cons_zero, List.set_cons_succ, i64_w, i32_w]
              rfl
             refine pure_ (i := 4) (N := some 132) (v := ?_) (a' := ?_) #[false, true, true, false, true, false, false, false, false, false, false, false, false, false, false] rfl rfl (any_of HT_.out (by kernel_rfl)) (fun _ _ _ h => h) (Or.inl ⟨by rfl, ?_⟩) ?_ ?_
             rotate_left
             ·intro w'
              go_simp
              with_reducible rfl
             rotate_left
             ·simp only [Act.put, List.setIfInBounds_toArray, List.set_cons_zero, List.set_cons_succ, i64_w, i32_w]
              rfl
             refine take_ (i := 0) (N := some 128) (v := ?_) (a' := ?_) #[true, true, true, false, true, false, false, false, false, false, false, false, false, false, false] rfl rfl (take_ofW HT_.out HW_.out (by kernel_rfl)) (fun _ _ _ h => h) (Or.inl ⟨by rfl, ?_⟩) hHeld ?_ ?_
             rotate_left
             ·rintro w' ⟨s0, s1, s2, s3⟩
              go_simp
              with_reducible rfl
             rotate_left
             ·simp only [Act.put, List.setIfInBounds_toArray, List.set_cons_zero, List.set_cons_succ, i64_w, i32_w]
              rfl
             refine take_ (i := 3) (N := some 131) (v := ?_) (a' := ?_) #[true, true, true, true, true, false, false, false, false, false, false, false, false, false, false] rfl rfl (take_ofW HT_.out HW_.out (by kernel_rfl)) (fun _ _ _ h => h) (Or.inl ⟨by rfl, ?_⟩) hHeld ?_ ?_
             rotate_left
             ·rintro w' ⟨s0, s1, s2, s3⟩
              go_simp
              with_reducible rfl
             rotate_left
             ·simp only [Act.put, List.setIfInBounds_toArray, List.set_cons_zero, List.set_cons_succ, i64_w, i32_w]
              rfl
             refine pure_ (i := 5) (N := some 133) (v := ?_) (a' := ?_) #[true, true, true, true, true, true, false, false, false, false, false, false, false, false, false] rfl rfl (any_of HT_.out (by kernel_rfl)) (fun _ _ _ h => h) (Or.inl ⟨by rfl, ?_⟩) ?_ ?_
             rotate_left
             ·intro w'
              go_simp
              with_reducible rfl
             rotate_left
             ·simp only [Act.put, List.setIfInBounds_toArray, List.set_cons_zero, List.set_cons_succ, i64_w, i32_w]
              rfl
             refine pure_ (i := 6) (N := some 134) (v := ?_) (a' := ?_) #[true, true, true, true, true, true, true, false, false, false, false, false, false, false, false] rfl rfl (any_of HT_.out (by kernel_rfl)) (fun _ _ _ h => h) (Or.inl ⟨by rfl, ?_⟩) ?_ ?_
             rotate_left
             ·intro w'
              go_simp
              with_reducible rfl
             rotate_left
             ·simp only [Act.put, List.setIfInBounds_toArray, List.set_cons_zero, List.set_cons_succ, i64_w, i32_w]
              rfl
             refine take_ (i := 7) (N := some 135) (v := ?_) (a' := ?_) #[true, true, true, true, true, true, true, true, false, false, false, false, false, false, false] rfl rfl (take_ofW HT_.out HW_.out (by kernel_rfl)) (fun _ _ _ h => h) (Or.inl ⟨by rfl, ?_⟩) hHeld ?_ ?_
             rotate_left
             ·rintro w' ⟨s0, s1, s2, s3⟩
              go_simp
              with_reducible rfl
             rotate_left
             ·simp only [Act.put, List.setIfInBounds_toArray, List.set_cons_zero, List.set_cons_succ, i64_w, i32_w]
              rfl
             refine join_ (σ := Value × Nat) 2 #[true, true, true, true, true, true, true, true, true, true, true, true, true, false, false] (fun s_ => [(136, .tuple #[.agg #[s_.1], .int .i64 t240]), (21, .pointer (some ⟨s_.2, 0, none⟩)), (127, .tuple #[.agg #[s_.1], .int .i64 t240]), (137, .agg #[s_.1]), (138, .int .i64 t240)]) (fun s_ w' => (w'.cell? ⟨gb235, 0, none⟩ = some (.slice Ao112 t231.length co112) ∧ w'.cell? ⟨gb206, 0, none⟩ = some (.slice (some ad236) l0_0.length c0_0) ∧ w'.cell? (ad236.add ((a1).toNat * 2)) = some (.int .i64 ((rd_T34 l0_0 a1).f0)) ∧ w'.cell? ⟨(ad236.add ((a1).toNat * 2)).block, (ad236.add ((a1).toNat * 2)).off + 1, none⟩ = some (.int .u32 ((rd_T34 l0_0 a1).f1))) ∧ (Kd.R k34 34 w' w.heap.size (fun k_ => some k_ ≠ (s_.1 : Value).ownBlock ∧ some k_ ≠ (.slice Ao43 t217.length co43 : Value).ownBlock) (.slice Ao112 t231.length co112) t231) ∧ (Kd.R k34 34 w' w.heap.size (fun k_ => some k_ ≠ (.slice Ao112 t231.length co112 : Value).ownBlock ∧ some k_ ≠ (.slice Ao43 t217.length co43 : Value).ownBlock) s_.1 t237) ∧ (Kd.R k34 34 w' w.heap.size (fun k_ => some k_ ≠ (.slice Ao112 t231.length co112 : Value).ownBlock ∧ some k_ ≠ (s_.1 : Value).ownBlock) (.slice Ao43 t217.length co43) t217) ∧ (w'.heap[gb206]? = some (.cells #[.slice (some ad236) l0_0.length c0_0] 24 (0, 0))) ∧ (w'.heap[gb221]? = some (.cells #[.slice Ao43 t217.length co43] 24 (0, 0))) ∧ (w'.heap[gb235]? = some (.cells #[.slice Ao112 t231.length co112] 24 (0, 0))) ∧ (w'.heap[s_.2]? = some (.cells #[.slice none 0 0] 24 (0, 0))) ∧ (w.heap.size ≤ s_.2) ∧ (w.heap.size ≤ s_.2) ∧ (gb206 ≠ s_.2) ∧ (s_.2 ≠ gb206) ∧ (gb221 ≠ s_.2) ∧ (s_.2 ≠ gb221) ∧ (gb235 ≠ s_.2) ∧ (s_.2 ≠ gb235) ∧ (Below w.heap.size w w')) ?_ ?_
             rotate_left
             ·intro hCont
              refine two_ (i := 8) (j := 12) (Ni := some 136) (Nj := some 21) #[true, true, true, true, true, true, true, true, true, false, false, false, false, false, false] #[true, true, true, true, true, true, true, true, false, false, false, false, true, false, false] rfl rfl rfl rfl (two_of HT_.out (by kernel_rfl)) (by decide) (by decide) (fun K hK => ?_) (fun K hK => ?_)
              ·skip
               refine goes_ Try.func11 (by kernel_rfl) rfl #[.agg #[.slice Ao112 t231.length co112], .int .i64 a1, .int .i64 ((rd_T34 l0_0 a1).f0)] (by rfl) rfl rfl (by (try simp only [List.map_toArray, List.map_cons, List.map_nil]); first | done | rfl | (simp only [List.length_drop, List.length_take]; rfl)) ?_
               with_reducible refine (table_Assign.calls kj36 _ _ t231 a1 ((rd_T34 l0_0 a1).f0) t237 t240 _ ?side1 ?side2 A105.out).mono ?_
               (case side1 => repeat (first | exact (Kd.R_reads' HO233.out).2.2 | (with_reducible refine Kd.C_alloc ?_ _) | (with_reducible refine Kd.C_drewN ?_ _) | (with_reducible refine Kd.C_drew ?_)))
               (case side2 => exact (Kd.R_reads' HO233.out).2.1)
               rintro e w118 ⟨v238, rfl, ho0, hb⟩
               refine ⟨_, rfl, ?_⟩
               have n0_ := Aside0.mk (Kd.R_elder' (by (with_reducible repeat (first | apply Kd.R_alloc | apply Kd.R_drewN | apply Kd.R_drew)); exact HO_222000.out) (Kd.R_base ho0) hb)
               have n1_ := Aside0.mk (Kd.R_elder' (by (with_reducible repeat (first | apply Kd.R_alloc | apply Kd.R_drewN | apply Kd.R_drew)); exact HO233.out) (Kd.R_base ho0) hb)
               have n2_ := Aside0.mk (Kd.R_lower (Kd.R_new' (Kd.R_new' ho0 (Kd.R_lt (by (with_reducible repeat (first | apply Kd.R_alloc | apply Kd.R_drewN | apply Kd.R_drew)); exact HO_222000.out))) (Kd.R_lt (by (with_reducible repeat (first | apply Kd.R_alloc | apply Kd.R_drewN | apply Kd.R_drew)); exact HO233.out))) (below_size (by repeat (first | (with_reducible first | exact HB.out | apply below_alloc | apply pw_below_drewN | apply below_drew1 | refine below_set ?_ GE206.out | refine below_set ?_ GE221.out | refine below_set ?_ GE235.out) | exact HB.out))))
               have n3_ := Aside0.mk (blk_below (g := gb206) (o := .cells #[.slice (some ad236) l0_0.length c0_0] 24 (0, 0)) (by (with_reducible repeat first | apply blk_drewN | apply blk_drew | apply blk_alloc); exact BK206.out) hb)
               have n4_ := Aside0.mk (blk_below (g := gb221) (o := .cells #[.slice Ao43 t217.length co43] 24 (0, 0)) (by (with_reducible repeat first | apply blk_drewN | apply blk_drew | apply blk_alloc); exact BK221.out) hb)
               have n5_ := Aside0.mk (blk_below (g := gb235) (o := .cells #[.slice Ao112 t231.length co112] 24 (0, 0)) (by (with_reducible repeat first | apply blk_drewN | apply blk_drew | apply blk_alloc); exact BK235.out) hb)
               have n6_ := Aside0.mk (below_step (by repeat (first | (with_reducible first | exact HB.out | apply below_alloc | apply pw_below_drewN | apply below_drew1 | refine below_set ?_ GE206.out | refine below_set ?_ GE221.out | refine below_set ?_ GE235.out) | exact HB.out)) hb)
               clear HO_222000
               clear HO233
               clear BK206
               clear BK221
               clear BK235
               clear HB
               have HO_222000 := n0_
               have HO233 := n1_
               have HO239 := n2_
               have BK206 := n3_
               have BK221 := n4_
               have BK235 := n5_
               have HB := n6_
               clear n0_ n1_ n2_ n3_ n4_ n5_ n6_
               (try clear hb)
               (try clear hb2)
               (try clear hk)
               (try clear hi)
               (try clear ho0)
               refine hK.out _ _ ⟨(blk_cell BK235.out 0).trans rfl, (blk_cell BK206.out 0).trans rfl, ((HB.out.cell (World.block_lt_of_cell? w _ hw236_0)).trans hw236_0), ((HB.out.cell (World.block_lt_of_cell? w _ hw236_1)).trans hw236_1)⟩ (fun hHeld => ?_)
               clear hK K
               refine norm_ (a' := ?_) ?_ ?_
               rotate_left
               ·show Act.put _ (some 136) _ = _
                simp only [Act.put, List.setIfInBounds_toArray, List.set_cons_zero, List.set_cons_succ, i64_w, i32_w]
                rfl
               refine pure_ (i := 9) (N := some 127) (v := ?_) (a' := ?_) #[true, true, true, true, true, true, true, true, true, true, false, false, false, false, false] rfl rfl (any_of HT_.out (by kernel_rfl)) (fun _ _ _ h => h) (Or.inl ⟨by rfl, ?_⟩) ?_ ?_
               rotate_left
               ·intro w'
                go_simp
                with_reducible rfl
               rotate_left
               ·simp only [Act.put, List.setIfInBounds_toArray, List.set_cons_zero, List.set_cons_succ, i64_w, i32_w]
                rfl
               refine pure_ (i := 10) (N := some 137) (v := ?_) (a' := ?_) #[true, true, true, true, true, true, true, true, true, true, true, false, false, false, false] rfl rfl (any_of HT_.out (by kernel_rfl)) (fun _ _ _ h => h) (Or.inl ⟨by rfl, ?_⟩) ?_ ?_
               rotate_left
               ·intro w'
                go_simp
                with_reducible rfl
               rotate_left
               ·simp only [Act.put, List.setIfInBounds_toArray, List.set_cons_zero, List.set_cons_succ, i64_w, i32_w]
                rfl
               refine pure_ (i := 11) (N := some 138) (v := ?_) (a' := ?_) #[true, true, true, true, true, true, true, true, true, true, true, true, false, false, false] rfl rfl (any_of HT_.out (by kernel_rfl)) (fun _ _ _ h => h) (Or.inl ⟨by rfl, ?_⟩) ?_ ?_
               rotate_left
               ·intro w'
                go_simp
                with_reducible rfl
               rotate_left
               ·simp only [Act.put, List.setIfInBounds_toArray, List.set_cons_zero, List.set_cons_succ, i64_w, i32_w]
                rfl
               refine one_ (i := 12) (N := some 21) #[true, true, true, true, true, true, true, true, true, true, true, true, true, false, false] rfl rfl (one_of HT_.out (by kernel_rfl)) (by decide) (fun K hK => ?_)
               refine box_step ?hg (N := 21) ?hd (cs := #[.slice none 0 0]) (t := 24) ?hr ?_; (case hd => rfl); (case hg => rfl); (case hr => first | (go_simp; done) | (go_simp; rfl))
               intro gb241 hg w119 hbox hb
               have n0_ := Aside0.mk (Kd.R_below (by (with_reducible repeat (first | apply Kd.R_alloc | apply Kd.R_drewN | apply Kd.R_drew)); exact HO_222000.out) hb)
               have n1_ := Aside0.mk (Kd.R_below (by (with_reducible repeat (first | apply Kd.R_alloc | apply Kd.R_drewN | apply Kd.R_drew)); exact HO233.out) hb)
               have n2_ := Aside0.mk (Kd.R_below (by (with_reducible repeat (first | apply Kd.R_alloc | apply Kd.R_drewN | apply Kd.R_drew)); exact HO239.out) hb)
               have n3_ := Aside0.mk (blk_below (g := gb206) (o := .cells #[.slice (some ad236) l0_0.length c0_0] 24 (0, 0)) (by (with_reducible repeat first | apply blk_drewN | apply blk_drew | apply blk_alloc); exact BK206.out) hb)
               have n4_ := Aside0.mk (blk_below (g := gb221) (o := .cells #[.slice Ao43 t217.length co43] 24 (0, 0)) (by (with_reducible repeat first | apply blk_drewN | apply blk_drew | apply blk_alloc); exact BK221.out) hb)
               have n5_ := Aside0.mk (blk_below (g := gb235) (o := .cells #[.slice Ao112 t231.length co112] 24 (0, 0)) (by (with_reducible repeat first | apply blk_drewN | apply blk_drew | apply blk_alloc); exact BK235.out) hb)
               have n6_ := Aside0.mk (below_step (by repeat (first | (with_reducible first | exact HB.out | apply below_alloc | apply pw_below_drewN | apply below_drew1 | refine below_set ?_ GE206.out | refine below_set ?_ GE221.out | refine below_set ?_ GE235.out) | exact HB.out)) hb)
               have n7_ := Aside0.mk (hbox)
               have n8_ := Aside0.mk ((by rw [hg]; exact (below_size (by repeat (first | (with_reducible first | exact HB.out | apply below_alloc | apply pw_below_drewN | apply below_drew1 | refine below_set ?_ GE206.out | refine below_set ?_ GE221.out | refine below_set ?_ GE235.out) | exact HB.out))) : w.heap.size ≤ gb241))
               have n9_ := Aside0.mk ((by rw [hg]; exact (below_size (by repeat (first | (with_reducible first | exact HB.out | apply below_alloc | apply pw_below_drewN | apply below_drew1 | refine below_set ?_ GE206.out | refine below_set ?_ GE221.out | refine below_set ?_ GE235.out) | exact HB.out))) : w.heap.size ≤ gb241))
               have n10_ := Aside0.mk ((by rw [hg]; exact Nat.ne_of_lt (blk_lt (g := gb206) (o := .cells #[.slice (some ad236) l0_0.length c0_0] 24 (0, 0)) (by (with_reducible repeat first | apply blk_drewN | apply blk_drew | apply blk_alloc); exact BK206.out)) : gb206 ≠ gb241))
               have n11_ := Aside0.mk ((by rw [hg]; exact Nat.ne_of_gt (blk_lt (g := gb206) (o := .cells #[.slice (some ad236) l0_0.length c0_0] 24 (0, 0)) (by (with_reducible repeat first | apply blk_drewN | apply blk_drew | apply blk_alloc); exact BK206.out)) : gb241 ≠ gb206))
               have n12_ := Aside0.mk ((by rw [hg]; exact Nat.ne_of_lt (blk_lt (g := gb221) (o := .cells #[.slice Ao43 t217.length co43] 24 (0, 0)) (by (with_reducible repeat first | apply blk_drewN | apply blk_drew | apply blk_alloc); exact BK221.out)) : gb221 ≠ gb241))
               have n13_ := Aside0.mk ((by rw [hg]; exact Nat.ne_of_gt (blk_lt (g := gb221) (o := .cells #[.slice Ao43 t217.length co43] 24 (0, 0)) (by (with_reducible repeat first | apply blk_drewN | apply blk_drew | apply blk_alloc); exact BK221.out)) : gb241 ≠ gb221))
               have n14_ := Aside0.mk ((by rw [hg]; exact Nat.ne_of_lt (blk_lt (g := gb235) (o := .cells #[.slice Ao112 t231.length co112] 24 (0, 0)) (by (with_reducible repeat first | apply blk_drewN | apply blk_drew | apply blk_alloc); exact BK235.out)) : gb235 ≠ gb241))
               have n15_ := Aside0.mk ((by rw [hg]; exact Nat.ne_of_gt (blk_lt (g := gb235) (o := .cells #[.slice Ao112 t231.length co112] 24 (0, 0)) (by (with_reducible repeat first | apply blk_drewN | apply blk_drew | apply blk_alloc); exact BK235.out)) : gb241 ≠ gb235))
               clear HO_222000
               clear HO233
               clear HO239
               clear BK206
               clear BK221
               clear BK235
               clear HB
               have HO_222000 := n0_
               have HO233 := n1_
               have HO239 := n2_
               have BK206 := n3_
               have BK221 := n4_
               have BK235 := n5_
               have HB := n6_
               have BK241 := n7_
               have GW241 := n8_
               have GE241 := n9_
               have NB206_241 := n10_
               have NB241_206 := n11_
               have NB221_241 := n12_
               have NB241_221 := n13_
               have NB235_241 := n14_
               have NB241_235 := n15_
               clear n0_ n1_ n2_ n3_ n4_ n5_ n6_ n7_ n8_ n9_ n10_ n11_ n12_ n13_ n14_ n15_
               clear hb hbox hg
               refine hK.out _ _ ⟨(blk_cell BK235.out 0).trans rfl, (blk_cell BK206.out 0).trans rfl, ((HB.out.cell (World.block_lt_of_cell? w _ hw236_0)).trans hw236_0), ((HB.out.cell (World.block_lt_of_cell? w _ hw236_1)).trans hw236_1)⟩ (fun hHeld => ?_)
               clear hK K
               refine norm_ (a' := ?_) ?_ ?_
               rotate_left
               ·show Act.put _ (some 21) _ = _
                simp only [Act.put, List.setIfInBounds_toArray, List.set_cons_zero, List.set_cons_succ, i64_w, i32_w]
                rfl
               exact norm_ (by simp only [putAll, Act.put, List.setIfInBounds_toArray, List.set_cons_zero, List.set_cons_succ]) (hCont (v238, gb241) _ ⟨hHeld, (by (with_reducible repeat (first | apply Kd.R_alloc | apply Kd.R_drewN | apply Kd.R_drew)); exact Kd.R_mono HO233.out (fun _ hk => ⟨hk.2, hk.1⟩)), (by (with_reducible repeat (first | apply Kd.R_alloc | apply Kd.R_drewN | apply Kd.R_drew)); exact Kd.R_mono HO239.out (fun _ hk => ⟨hk.2, hk.1.2⟩)), (by (with_reducible repeat (first | apply Kd.R_alloc | apply Kd.R_drewN | apply Kd.R_drew)); exact HO_222000.out), (by (with_reducible repeat first | apply blk_drewN | apply blk_drew | apply blk_alloc); exact BK206.out), (by (with_reducible repeat first | apply blk_drewN | apply blk_drew | apply blk_alloc); exact BK221.out), (by (with_reducible repeat first | apply blk_drewN | apply blk_drew | apply blk_alloc); exact BK235.out), (by (with_reducible repeat first | apply blk_drewN | apply blk_drew | apply blk_alloc); exact BK241.out), GW241.out, GE241.out, NB206_241.out, NB241_206.out, NB221_241.out, NB241_221.out, NB235_241.out, NB241_235.out, (by repeat (first | (with_reducible first | exact HB.out | apply below_alloc | apply pw_below_drewN | apply below_drew1 | refine below_set ?_ GE206.out | refine below_set ?_ GE221.out | refine below_set ?_ GE235.out | refine below_set ?_ GE241.out) | exact HB.out))⟩)
              ·skip
               refine box_step ?hg (N := 21) ?hd (cs := #[.slice none 0 0]) (t := 24) ?hr ?_; (case hd => rfl); (case hg => rfl); (case hr => first | (go_simp; done) | (go_simp; rfl))
               intro gb241 hg w118 hbox hb
               have n0_ := Aside0.mk (Kd.R_below (by (with_reducible repeat (first | apply Kd.R_alloc | apply Kd.R_drewN | apply Kd.R_drew)); exact HO_222000.out) hb)
               have n1_ := Aside0.mk (Kd.R_below (by (with_reducible repeat (first | apply Kd.R_alloc | apply Kd.R_drewN | apply Kd.R_drew)); exact HO233.out) hb)
               have n2_ := Aside0.mk (blk_below (g := gb206) (o := .cells #[.slice (some ad236) l0_0.length c0_0] 24 (0, 0)) (by (with_reducible repeat first | apply blk_drewN | apply blk_drew | apply blk_alloc); exact BK206.out) hb)
               have n3_ := Aside0.mk (blk_below (g := gb221) (o := .cells #[.slice Ao43 t217.length co43] 24 (0, 0)) (by (with_reducible repeat first | apply blk_drewN | apply blk_drew | apply blk_alloc); exact BK221.out) hb)
               have n4_ := Aside0.mk (blk_below (g := gb235) (o := .cells #[.slice Ao112 t231.length co112] 24 (0, 0)) (by (with_reducible repeat first | apply blk_drewN | apply blk_drew | apply blk_alloc); exact BK235.out) hb)
               have n5_ := Aside0.mk (below_step (by repeat (first | (with_reducible first | exact HB.out | apply below_alloc | apply pw_below_drewN | apply below_drew1 | refine below_set ?_ GE206.out | refine below_set ?_ GE221.out | refine below_set ?_ GE235.out) | exact HB.out)) hb)
               have n6_ := Aside0.mk (hbox)
               have n7_ := Aside0.mk ((by rw [hg]; exact (below_size (by repeat (first | (with_reducible first | exact HB.out | apply below_alloc | apply pw_below_drewN | apply below_drew1 | refine below_set ?_ GE206.out | refine below_set ?_ GE221.out | refine below_set ?_ GE235.out) | exact HB.out))) : w.heap.size ≤ gb241))
               have n8_ := Aside0.mk ((by rw [hg]; exact (below_size (by repeat (first | (with_reducible first | exact HB.out | apply below_alloc | apply pw_below_drewN | apply below_drew1 | refine below_set ?_ GE206.out | refine below_set ?_ GE221.out | refine below_set ?_ GE235.out) | exact HB.out))) : w.heap.size ≤ gb241))
               have n9_ := Aside0.mk ((by rw [hg]; exact Nat.ne_of_lt (blk_lt (g := gb206) (o := .cells #[.slice (some ad236) l0_0.length c0_0] 24 (0, 0)) (by (with_reducible repeat first | apply blk_drewN | apply blk_drew | apply blk_alloc); exact BK206.out)) : gb206 ≠ gb241))
               have n10_ := Aside0.mk ((by rw [hg]; exact Nat.ne_of_gt (blk_lt (g := gb206) (o := .cells #[.slice (some ad236) l0_0.length c0_0] 24 (0, 0)) (by (with_reducible repeat first | apply blk_drewN | apply blk_drew | apply blk_alloc); exact BK206.out)) : gb241 ≠ gb206))
               have n11_ := Aside0.mk ((by rw [hg]; exact Nat.ne_of_lt (blk_lt (g := gb221) (o := .cells #[.slice Ao43 t217.length co43] 24 (0, 0)) (by (with_reducible repeat first | apply blk_drewN | apply blk_drew | apply blk_alloc); exact BK221.out)) : gb221 ≠ gb241))
               have n12_ := Aside0.mk ((by rw [hg]; exact Nat.ne_of_gt (blk_lt (g := gb221) (o := .cells #[.slice Ao43 t217.length co43] 24 (0, 0)) (by (with_reducible repeat first | apply blk_drewN | apply blk_drew | apply blk_alloc); exact BK221.out)) : gb241 ≠ gb221))
               have n13_ := Aside0.mk ((by rw [hg]; exact Nat.ne_of_lt (blk_lt (g := gb235) (o := .cells #[.slice Ao112 t231.length co112] 24 (0, 0)) (by (with_reducible repeat first | apply blk_drewN | apply blk_drew | apply blk_alloc); exact BK235.out)) : gb235 ≠ gb241))
               have n14_ := Aside0.mk ((by rw [hg]; exact Nat.ne_of_gt (blk_lt (g := gb235) (o := .cells #[.slice Ao112 t231.length co112] 24 (0, 0)) (by (with_reducible repeat first | apply blk_drewN | apply blk_drew | apply blk_alloc); exact BK235.out)) : gb241 ≠ gb235))
               clear HO_222000
               clear HO233
               clear BK206
               clear BK221
               clear BK235
               clear HB
               have HO_222000 := n0_
               have HO233 := n1_
               have BK206 := n2_
               have BK221 := n3_
               have BK235 := n4_
               have HB := n5_
               have BK241 := n6_
               have GW241 := n7_
               have GE241 := n8_
               have NB206_241 := n9_
               have NB241_206 := n10_
               have NB221_241 := n11_
               have NB241_221 := n12_
               have NB235_241 := n13_
               have NB241_235 := n14_
               clear n0_ n1_ n2_ n3_ n4_ n5_ n6_ n7_ n8_ n9_ n10_ n11_ n12_ n13_ n14_
               clear hb hbox hg
               refine hK.out _ _ ⟨(blk_cell BK235.out 0).trans rfl, (blk_cell BK206.out 0).trans rfl, ((HB.out.cell (World.block_lt_of_cell? w _ hw236_0)).trans hw236_0), ((HB.out.cell (World.block_lt_of_cell? w _ hw236_1)).trans hw236_1)⟩ (fun hHeld => ?_)
               clear hK K
               refine norm_ (a' := ?_) ?_ ?_
               rotate_left
               ·show Act.put _ (some 21) _ = _
                simp only [Act.put, List.setIfInBounds_toArray, List.set_cons_zero, List.set_cons_succ, i64_w, i32_w]
                rfl
               refine one_ (i := 8) (N := some 136) #[true, true, true, true, true, true, true, true, true, false, false, false, true, false, false] rfl rfl (one_of HT_.out (by kernel_rfl)) (by decide) (fun K hK => ?_)
               refine goes_ Try.func11 (by kernel_rfl) rfl #[.agg #[.slice Ao112 t231.length co112], .int .i64 a1, .int .i64 ((rd_T34 l0_0 a1).f0)] (by rfl) rfl rfl (by (try simp only [List.map_toArray, List.map_cons, List.map_nil]); first | done | rfl | (simp only [List.length_drop, List.length_take]; rfl)) ?_
               with_reducible refine (table_Assign.calls kj36 _ _ t231 a1 ((rd_T34 l0_0 a1).f0) t237 t240 _ ?side1 ?side2 A105.out).mono ?_
               (case side1 => repeat (first | exact (Kd.R_reads' HO233.out).2.2 | (with_reducible refine Kd.C_alloc ?_ _) | (with_reducible refine Kd.C_drewN ?_ _) | (with_reducible refine Kd.C_drew ?_)))
               (case side2 => exact (Kd.R_reads' HO233.out).2.1)
               rintro e w119 ⟨v238, rfl, ho0, hb⟩
               refine ⟨_, rfl, ?_⟩
               have n0_ := Aside0.mk (Kd.R_elder' (by (with_reducible repeat (first | apply Kd.R_alloc | apply Kd.R_drewN | apply Kd.R_drew)); exact HO_222000.out) (Kd.R_base ho0) hb)
               have n1_ := Aside0.mk (Kd.R_elder' (by (with_reducible repeat (first | apply Kd.R_alloc | apply Kd.R_drewN | apply Kd.R_drew)); exact HO233.out) (Kd.R_base ho0) hb)
               have n2_ := Aside0.mk (Kd.R_lower (Kd.R_new' (Kd.R_new' ho0 (Kd.R_lt (by (with_reducible repeat (first | apply Kd.R_alloc | apply Kd.R_drewN | apply Kd.R_drew)); exact HO_222000.out))) (Kd.R_lt (by (with_reducible repeat (first | apply Kd.R_alloc | apply Kd.R_drewN | apply Kd.R_drew)); exact HO233.out))) (below_size (by repeat (first | (with_reducible first | exact HB.out | apply below_alloc | apply pw_below_drewN | apply below_drew1 | refine below_set ?_ GE206.out | refine below_set ?_ GE221.out | refine below_set ?_ GE235.out | refine below_set ?_ GE241.out) | exact HB.out))))
               have n3_ := Aside0.mk (blk_below (g := gb206) (o := .cells #[.slice (some ad236) l0_0.length c0_0] 24 (0, 0)) (by (with_reducible repeat first | apply blk_drewN | apply blk_drew | apply blk_alloc); exact BK206.out) hb)
               have n4_ := Aside0.mk (blk_below (g := gb221) (o := .cells #[.slice Ao43 t217.length co43] 24 (0, 0)) (by (with_reducible repeat first | apply blk_drewN | apply blk_drew | apply blk_alloc); exact BK221.out) hb)
               have n5_ := Aside0.mk (blk_below (g := gb235) (o := .cells #[.slice Ao112 t231.length co112] 24 (0, 0)) (by (with_reducible repeat first | apply blk_drewN | apply blk_drew | apply blk_alloc); exact BK235.out) hb)
               have n6_ := Aside0.mk (blk_below (g := gb241) (o := .cells #[.slice none 0 0] 24 (0, 0)) (by (with_reducible repeat first | apply blk_drewN | apply blk_drew | apply blk_alloc); exact BK241.out) hb)
               have n7_ := Aside0.mk (below_step (by repeat (first | (with_reducible first | exact HB.out | apply below_alloc | apply pw_below_drewN | apply below_drew1 | refine below_set ?_ GE206.out | refine below_set ?_ GE221.out | refine below_set ?_ GE235.out | refine below_set ?_ GE241.out) | exact HB.out)) hb)
               clear HO_222000
               clear HO233
               clear BK206
               clear BK221
               clear BK235
               clear BK241
               clear HB
               have HO_222000 := n0_
               have HO233 := n1_
               have HO239 := n2_
               have BK206 := n3_
               have BK221 := n4_
               have BK235 := n5_
               have BK241 := n6_
               have HB := n7_
               clear n0_ n1_ n2_ n3_ n4_ n5_ n6_ n7_
               (try clear hb)
               (try clear hb2)
               (try clear hk)
               (try clear hi)
               (try clear ho0)
               refine hK.out _ _ ⟨(blk_cell BK235.out 0).trans rfl, (blk_cell BK206.out 0).trans rfl, ((HB.out.cell (World.block_lt_of_cell? w _ hw236_0)).trans hw236_0), ((HB.out.cell (World.block_lt_of_cell? w _ hw236_1)).trans hw236_1)⟩ (fun hHeld => ?_)
               clear hK K
               refine norm_ (a' := ?_) ?_ ?_
               rotate_left
               ·show Act.put _ (some 136) _ = _
                simp only [Act.put, List.setIfInBounds_toArray, List.set_cons_zero, List.set_cons_succ, i64_w, i32_w]
                rfl
               refine pure_ (i := 9) (N := some 127) (v := ?_) (a' := ?_) #[true, true, true, true, true, true, true, true, true, true, false, false, true, false, false] rfl rfl (any_of HT_.out (by kernel_rfl)) (fun _ _ _ h => h) (Or.inl ⟨by rfl, ?_⟩) ?_ ?_
               rotate_left
               ·intro w'
                go_simp
                with_reducible rfl
               rotate_left
               ·simp only [Act.put, List.setIfInBounds_toArray, List.set_cons_zero, List.set_cons_succ, i64_w, i32_w]
                rfl
               refine pure_ (i := 10) (N := some 137) (v := ?_) (a' := ?_) #[true, true, true, true, true, true, true, true, true, true, true, false, true, false, false] rfl rfl (any_of HT_.out (by kernel_rfl)) (fun _ _ _ h => h) (Or.inl ⟨by rfl, ?_⟩) ?_ ?_
               rotate_left
               ·intro w'
                go_simp
                with_reducible rfl
               rotate_left
               ·simp only [Act.put, List.setIfInBounds_toArray, List.set_cons_zero, List.set_cons_succ, i64_w, i32_w]
                rfl
               refine pure_ (i := 11) (N := some 138) (v := ?_) (a' := ?_) #[true, true, true, true, true, true, true, true, true, true, true, true, true, false, false] rfl rfl (any_of HT_.out (by kernel_rfl)) (fun _ _ _ h => h) (Or.inl ⟨by rfl, ?_⟩) ?_ ?_
               rotate_left
               ·intro w'
                go_simp
                with_reducible rfl
               rotate_left
               ·simp only [Act.put, List.setIfInBounds_toArray, List.set_cons_zero, List.set_cons_succ, i64_w, i32_w]
                rfl
               exact norm_ (by simp only [putAll, Act.put, List.setIfInBounds_toArray, List.set_cons_zero, List.set_cons_succ]) (hCont (v238, gb241) _ ⟨hHeld, (by (with_reducible repeat (first | apply Kd.R_alloc | apply Kd.R_drewN | apply Kd.R_drew)); exact Kd.R_mono HO233.out (fun _ hk => ⟨hk.2, hk.1⟩)), (by (with_reducible repeat (first | apply Kd.R_alloc | apply Kd.R_drewN | apply Kd.R_drew)); exact Kd.R_mono HO239.out (fun _ hk => ⟨hk.2, hk.1.2⟩)), (by (with_reducible repeat (first | apply Kd.R_alloc | apply Kd.R_drewN | apply Kd.R_drew)); exact HO_222000.out), (by (with_reducible repeat first | apply blk_drewN | apply blk_drew | apply blk_alloc); exact BK206.out), (by (with_reducible repeat first | apply blk_drewN | apply blk_drew | apply blk_alloc); exact BK221.out), (by (with_reducible repeat first | apply blk_drewN | apply blk_drew | apply blk_alloc); exact BK235.out), (by (with_reducible repeat first | apply blk_drewN | apply blk_drew | apply blk_alloc); exact BK241.out), GW241.out, GE241.out, NB206_241.out, NB241_206.out, NB221_241.out, NB241_221.out, NB235_241.out, NB241_235.out, (by repeat (first | (with_reducible first | exact HB.out | apply below_alloc | apply pw_below_drewN | apply below_drew1 | refine below_set ?_ GE206.out | refine below_set ?_ GE221.out | refine below_set ?_ GE235.out | refine below_set ?_ GE241.out) | exact HB.out))⟩)
             rintro ⟨v238, gb241⟩ w120 ⟨hS_, h0_, h1_, h2_, h3_, h4_, h5_, h6_, h7_, h8_, h9_, h10_, h11_, h12_, h13_, h14_, h15_⟩
             have n0_ : Aside0 (Kd.R k34 34 w120 w.heap.size (fun k_ => some k_ ≠ (v238 : Value).ownBlock ∧ some k_ ≠ (.slice Ao43 t217.length co43 : Value).ownBlock) (.slice Ao112 t231.length co112) t231) := ⟨h0_⟩
             have n1_ : Aside0 (Kd.R k34 34 w120 w.heap.size (fun k_ => some k_ ≠ (.slice Ao112 t231.length co112 : Value).ownBlock ∧ some k_ ≠ (.slice Ao43 t217.length co43 : Value).ownBlock) v238 t237) := ⟨h1_⟩
             have n2_ : Aside0 (Kd.R k34 34 w120 w.heap.size (fun k_ => some k_ ≠ (.slice Ao112 t231.length co112 : Value).ownBlock ∧ some k_ ≠ (v238 : Value).ownBlock) (.slice Ao43 t217.length co43) t217) := ⟨h2_⟩
             have n3_ : Aside0 (w120.heap[gb206]? = some (.cells #[.slice (some ad236) l0_0.length c0_0] 24 (0, 0))) := ⟨h3_⟩
             have n4_ : Aside0 (w120.heap[gb221]? = some (.cells #[.slice Ao43 t217.length co43] 24 (0, 0))) := ⟨h4_⟩
             have n5_ : Aside0 (w120.heap[gb235]? = some (.cells #[.slice Ao112 t231.length co112] 24 (0, 0))) := ⟨h5_⟩
             have n6_ : Aside0 (w120.heap[gb241]? = some (.cells #[.slice none 0 0] 24 (0, 0))) := ⟨h6_⟩
             have n7_ : Aside0 (w.heap.size ≤ gb241) := ⟨h7_⟩
             have n8_ : Aside0 (w.heap.size ≤ gb241) := ⟨h8_⟩
             have n9_ : Aside0 (gb206 ≠ gb241) := ⟨h9_⟩
             have n10_ : Aside0 (gb241 ≠ gb206) := ⟨h10_⟩
             have n11_ : Aside0 (gb221 ≠ gb241) := ⟨h11_⟩
             have n12_ : Aside0 (gb241 ≠ gb221) := ⟨h12_⟩
             have n13_ : Aside0 (gb235 ≠ gb241) := ⟨h13_⟩
             have n14_ : Aside0 (gb241 ≠ gb235) := ⟨h14_⟩
             have n15_ : Aside0 (Below w.heap.size w w120) := ⟨h15_⟩
             clear HO_222000
             clear HO233
             clear BK206
             clear BK221
             clear BK235
             clear HB
             clear h0_ h1_ h2_ h3_ h4_ h5_ h6_ h7_ h8_ h9_ h10_ h11_ h12_ h13_ h14_ h15_
             have HO233 := n0_
             have HO239 := n1_
             have HO_222000 := n2_
             have BK206 := n3_
             have BK221 := n4_
             have BK235 := n5_
             have BK241 := n6_
             have GW241 := n7_
             have GE241 := n8_
             have NB206_241 := n9_
             have NB241_206 := n10_
             have NB221_241 := n11_
             have NB241_221 := n12_
             have NB235_241 := n13_
             have NB241_235 := n14_
             have HB := n15_
             clear n0_ n1_ n2_ n3_ n4_ n5_ n6_ n7_ n8_ n9_ n10_ n11_ n12_ n13_ n14_ n15_
             have hHeld : w120.cell? ⟨gb235, 0, none⟩ = some (.slice Ao112 t231.length co112) ∧ w120.cell? ⟨gb206, 0, none⟩ = some (.slice (some ad236) l0_0.length c0_0) ∧ w120.cell? (ad236.add ((a1).toNat * 2)) = some (.int .i64 ((rd_T34 l0_0 a1).f0)) ∧ w120.cell? ⟨(ad236.add ((a1).toNat * 2)).block, (ad236.add ((a1).toNat * 2)).off + 1, none⟩ = some (.int .u32 ((rd_T34 l0_0 a1).f1)) := hS_
             obtain ⟨Ao121, co121, eo121⟩ := Kd.R_slice HO239.out
             (first | subst eo121 | (injection eo121 with f1_ f2_ f3_; have f4_ := f1_.symm; have f5_ := f3_.symm; clear f1_ f2_ f3_; subst f4_; subst f5_))
             refine norm_ (a' := ?_) ?_ ?_
             rotate_left
             ·simp only [putAll, Act.put, List.setIfInBounds_toArray, List.set_cons_zero, List.set_cons_succ]
              rfl
             refine one_ (i := 13) (N := none) #[true, true, true, true, true, true, true, true, true, true, true, true, true, true, false] rfl rfl (one_of HT_.out (by kernel_rfl)) (by decide) (fun K hK => ?_)
             have hs122 : w120.cell? ⟨gb241, 0, none⟩ = some (.slice none 0 0) := (blk_cell BK241.out 0).trans rfl
             have hfs122 := blk_frozen BK241.out 0
             have hns122_0 := NB206_241.out
             have hns122_1 := NB221_241.out
             have hns122_2 := NB235_241.out
             have hms122_0 := NB241_206.out
             have hms122_1 := NB241_221.out
             have hms122_2 := NB241_235.out
             refine skip_ (w1 := ?_) (by rfl) rfl ?_ ?_
             rotate_left
             ·go_simp
              rfl
             refine hK.out _ _ ⟨((cell_far (p := ⟨gb241, _, none⟩) NB235_241.out _).trans (hHeld.1)), ((cell_far (p := ⟨gb241, _, none⟩) NB206_241.out _).trans (hHeld.2.1)), ((cell_far (p := ⟨gb241, _, none⟩) (by first | exact Nat.ne_of_lt (Nat.lt_of_lt_of_le (by have := World.block_lt_of_cell? _ _ hw236_0; first | rwa [add_block] at this | exact this) GW241.out) | (rw [add_block]; exact Nat.ne_of_lt (Nat.lt_of_lt_of_le (by have := World.block_lt_of_cell? _ _ hw236_0; first | rwa [add_block] at this | exact this) GW241.out)) | (show (Addr.add _ _).block ≠ _; rw [add_block]; exact Nat.ne_of_lt (Nat.lt_of_lt_of_le (by have := World.block_lt_of_cell? _ _ hw236_0; first | rwa [add_block] at this | exact this) GW241.out)) | (dsimp only; exact Nat.ne_of_lt (Nat.lt_of_lt_of_le (by have := World.block_lt_of_cell? _ _ hw236_0; first | rwa [add_block] at this | exact this) GW241.out))) _).trans (hHeld.2.2.1)), ((cell_far (p := ⟨gb241, _, none⟩) (by first | exact Nat.ne_of_lt (Nat.lt_of_lt_of_le (by have := World.block_lt_of_cell? _ _ hw236_1; first | rwa [add_block] at this | exact this) GW241.out) | (rw [add_block]; exact Nat.ne_of_lt (Nat.lt_of_lt_of_le (by have := World.block_lt_of_cell? _ _ hw236_1; first | rwa [add_block] at this | exact this) GW241.out)) | (show (Addr.add _ _).block ≠ _; rw [add_block]; exact Nat.ne_of_lt (Nat.lt_of_lt_of_le (by have := World.block_lt_of_cell? _ _ hw236_1; first | rwa [add_block] at this | exact this) GW241.out)) | (dsimp only; exact Nat.ne_of_lt (Nat.lt_of_lt_of_le (by have := World.block_lt_of_cell? _ _ hw236_1; first | rwa [add_block] at this | exact this) GW241.out))) _).trans (hHeld.2.2.2))⟩ (fun hHeld => ?_)
             clear hK K
             refine pure_ (i := 14) (N := some 20) (v := ?_) (a' := ?_) #[true, true, true, true, true, true, true, true, true, true, true, true, true, true, true] rfl rfl (any_of HT_.out (by kernel_rfl)) (fun _ _ _ h => h) (Or.inl ⟨by rfl, ?_⟩) ?_ ?_
             rotate_left
             ·intro w'
              go_simp
              with_reducible rfl
             rotate_left
             ·simp only [Act.put, List.setIfInBounds_toArray, List.set_cons_zero, List.set_cons_succ, i64_w, i32_w]
              rfl
             refine done_ (done_of HT_.out (by kernel_rfl)) ?_
             have hnb123 := NB241_206.out
             have hnc123 := NB206_241.out
             have hnb124 := NB241_221.out
             have hnc124 := NB221_241.out
             have hnb125 := NB241_235.out
             have hnc125 := NB235_241.out
             have hcz126_0 : w120.cell? ⟨gb241, 0, none⟩ = some (.slice none 0 0) := (blk_cell BK241.out 0).trans rfl
             have hfz126_0 := blk_frozen BK241.out 0
             have hcz127_0 : w120.cell? ⟨gb206, 0, none⟩ = some (.slice (some ad236) l0_0.length c0_0) := (blk_cell BK206.out 0).trans rfl
             have hfz127_0 := blk_frozen BK206.out 0
             try go_wp2_with (first | (go_at_call 24; (with_reducible refine (table_Same.calls kj36 _ _ t237 _ _ l0_0 t242 _ ?side1 ?side2 ?side3 ?side4 A107.out).mono ?_); (case side1 => refine (Kd.R_reads' (e := 34) (base := w.heap.size) (ok := fun k_ => (some k_ ≠ (.slice Ao112 t231.length co112 : Value).ownBlock ∧ some k_ ≠ (.slice Ao43 t217.length co43 : Value).ownBlock)) (n := t237.length) (c := co121) ?_).2.2; exact (by (with_reducible repeat (first | apply Kd.R_alloc | apply Kd.R_drewN | apply Kd.R_drew)); exact (Kd.R_mono (Kd.R_far (p := ⟨gb241, 0, none⟩) (Kd.R_types HO239.out BK241.out (by decide)) (fun _ hk => hk.2) (.slice Ao121 t237.length co121)) (fun _ h_ => h_.1)))); (case side2 => exact (Kd.R_reads' HO239.out).2.1); (case side3 => exact Kd.C_below HR0_0.out (by repeat (first | (with_reducible first | exact HB.out | apply below_alloc | apply pw_below_drewN | apply below_drew1 | refine below_set ?_ GE206.out | refine below_set ?_ GE221.out | refine below_set ?_ GE235.out | refine below_set ?_ GE241.out) | exact HB.out))); (case side4 => exact HC0_0.out); rintro e w128 ⟨rfl, hb⟩; have n0_ := Aside0.mk (Kd.R_below (by (with_reducible repeat (first | apply Kd.R_alloc | apply Kd.R_drewN | apply Kd.R_drew)); exact (Kd.R_mono (Kd.R_far (p := ⟨gb241, 0, none⟩) (Kd.R_types HO_222000.out BK241.out (by decide)) (fun _ hk => hk.2) (.slice Ao121 t237.length co121)) (fun _ h_ => h_.1))) hb); have n1_ := Aside0.mk (Kd.R_below (by (with_reducible repeat (first | apply Kd.R_alloc | apply Kd.R_drewN | apply Kd.R_drew)); exact (Kd.R_mono (Kd.R_far (p := ⟨gb241, 0, none⟩) (Kd.R_types HO233.out BK241.out (by decide)) (fun _ hk => hk.2) (.slice Ao121 t237.length co121)) (fun _ h_ => h_.1))) hb); have n2_ := Aside0.mk (Kd.R_below (by (with_reducible repeat (first | apply Kd.R_alloc | apply Kd.R_drewN | apply Kd.R_drew)); exact (Kd.R_mono (Kd.R_far (p := ⟨gb241, 0, none⟩) (Kd.R_types HO239.out BK241.out (by decide)) (fun _ hk => hk.2) (.slice Ao121 t237.length co121)) (fun _ h_ => h_.1))) hb); have n3_ := Aside0.mk (blk_below (g := gb206) (o := .cells #[.slice (some ad236) l0_0.length c0_0] 24 (0, 0)) (by (with_reducible repeat first | apply blk_drewN | apply blk_drew | apply blk_alloc); refine blk_far ?_ NB206_241.out _; (with_reducible repeat first | apply blk_drewN | apply blk_drew | apply blk_alloc); exact BK206.out) hb); have n4_ := Aside0.mk (blk_below (g := gb221) (o := .cells #[.slice Ao43 t217.length co43] 24 (0, 0)) (by (with_reducible repeat first | apply blk_drewN | apply blk_drew | apply blk_alloc); refine blk_far ?_ NB221_241.out _; (with_reducible repeat first | apply blk_drewN | apply blk_drew | apply blk_alloc); exact BK221.out) hb); have n5_ := Aside0.mk (blk_below (g := gb235) (o := .cells #[.slice Ao112 t231.length co112] 24 (0, 0)) (by (with_reducible repeat first | apply blk_drewN | apply blk_drew | apply blk_alloc); refine blk_far ?_ NB235_241.out _; (with_reducible repeat first | apply blk_drewN | apply blk_drew | apply blk_alloc); exact BK235.out) hb); have n6_ := Aside0.mk (blk_below (g := gb241) (o := .cells #[.slice Ao121 t237.length co121] 24 (0, 0)) (by (with_reducible repeat first | apply blk_drewN | apply blk_drew | apply blk_alloc); refine blk_put (cs := #[.slice none 0 0]) ?_ 0 _ rfl; (with_reducible repeat first | apply blk_drewN | apply blk_drew | apply blk_alloc); exact BK241.out) hb); have n7_ := Aside0.mk (below_step (by repeat (first | (with_reducible first | exact HB.out | apply below_alloc | apply pw_below_drewN | apply below_drew1 | refine below_set ?_ GE206.out | refine below_set ?_ GE221.out | refine below_set ?_ GE235.out | refine below_set ?_ GE241.out) | exact HB.out)) hb); clear HO_222000; clear HO233; clear HO239; clear BK206; clear BK221; clear BK235; clear BK241; clear HB; have HO_222000 := n0_; have HO233 := n1_; have HO239 := n2_; have BK206 := n3_; have BK221 := n4_; have BK235 := n5_; have BK241 := n6_; have HB := n7_; clear n0_ n1_ n2_ n3_ n4_ n5_ n6_ n7_; (try clear hb); (try clear hb2); (try clear hk); (try clear hi); (try clear A107)))
             go_ret
             exact ⟨by first | rfl | (simp [errW_none, errW_some] <;> rfl) | (simp [*, errW_none, errW_some] <;> rfl) | (simp [Int.tdiv_eq_ediv_of_nonneg]; done), by repeat (first | (with_reducible first | exact HB.out | apply below_alloc | apply pw_below_drewN | apply below_drew1 | refine below_set ?_ GE206.out | refine below_set ?_ GE221.out | refine below_set ?_ GE235.out | refine below_set ?_ GE241.out) | exact HB.out)⟩
            ·rw [if_neg c106] at H
             have c106b0 : (t240 == 0) = false := beq_eq_false_iff_ne.mpr c106
             have c106b1 : (t240 != 0) = true := bne_iff_ne.mpr c106
             exact absurd (Option.some.inj H) (by rw [hrt_.out]; decide)
           ·rw [if_neg c104] at H
            exact absurd H (by simp)
          ·rw [if_neg c103] at H
           exact absurd H (by simp)
         ·rw [if_neg c102] at H
          have c102b0 : (t234 == 0) = false := beq_eq_false_iff_ne.mpr c102
          have c102b1 : (t234 != 0) = true := bne_iff_ne.mpr c102
          obtain rfl := Option.some.inj H
          have hnb129 := NB206_221.out
          have hnc129 := NB221_206.out
          have hcz130_0 : wc.cell? ⟨gb206, 0, none⟩ = some (.slice A0_0 l0_0.length c0_0) := (blk_cell BK206.out 0).trans rfl
          have hfz130_0 := blk_frozen BK206.out 0
          go_wp2_with (first | ((with_reducible refine gate_callee (f := 11) rfl ?_); refine goesL_ (some 122) rfl rfl Try.func11 (by kernel_rfl) rfl #[.agg #[.slice A0_0 l0_0.length c0_0], .int .i64 a1, .int .i64 a3] rfl (by (try simp only [List.map_toArray, List.map_cons, List.map_nil]); first | done | rfl | (simp only [List.length_drop, List.length_take]; rfl)) ?_; (with_reducible refine (table_Assign.calls kj36 _ _ l0_0 a1 a3 t231 t234 _ ?side1 ?side2 A101.out).mono ?_); (case side1 => repeat (first | exact (Kd.C_below HR0_0.out HB.out) | (with_reducible refine Kd.C_alloc ?_ _) | (with_reducible refine Kd.C_drewN ?_ _) | (with_reducible refine Kd.C_drew ?_))); (case side2 => exact HC0_0.out); rintro e w131 ⟨v232, rfl, ho0, hb⟩; refine ⟨_, rfl, ?_⟩; have n0_ := Aside0.mk (Kd.R_elder' (by (with_reducible repeat (first | apply Kd.R_alloc | apply Kd.R_drewN | apply Kd.R_drew)); exact HO_222000.out) (Kd.R_base ho0) hb); have n1_ := Aside0.mk (Kd.R_lower (Kd.R_new' ho0 (Kd.R_lt (by (with_reducible repeat (first | apply Kd.R_alloc | apply Kd.R_drewN | apply Kd.R_drew)); exact HO_222000.out))) (below_size (by repeat (first | (with_reducible first | exact HB.out | apply below_alloc | apply pw_below_drewN | apply below_drew1 | refine below_set ?_ GE206.out | refine below_set ?_ GE221.out) | exact HB.out)))); have n2_ := Aside0.mk (blk_below (g := gb206) (o := .cells #[.slice A0_0 l0_0.length c0_0] 24 (0, 0)) (by (with_reducible repeat first | apply blk_drewN | apply blk_drew | apply blk_alloc); exact BK206.out) hb); have n3_ := Aside0.mk (blk_below (g := gb221) (o := .cells #[.slice Ao43 t217.length co43] 24 (0, 0)) (by (with_reducible repeat first | apply blk_drewN | apply blk_drew | apply blk_alloc); exact BK221.out) hb); have n4_ := Aside0.mk (below_step (by repeat (first | (with_reducible first | exact HB.out | apply below_alloc | apply pw_below_drewN | apply below_drew1 | refine below_set ?_ GE206.out | refine below_set ?_ GE221.out) | exact HB.out)) hb); clear HO_222000; clear BK206; clear BK221; clear HB; have HO_222000 := n0_; have HO233 := n1_; have BK206 := n2_; have BK221 := n3_; have HB := n4_; clear n0_ n1_ n2_ n3_ n4_; (try clear hb); (try clear hb2); (try clear hk); (try clear hi); (try clear ho0); (try clear A101)) | ((with_reducible refine gate_dst (N := 19) rfl ?_); (try (refine gate_guard (by rfl) ?_; dsimp only)); refine box_event ?hg (N := 19) ?hd (cs := #[.slice none 0 0]) (t := 24) ?hr ?_; (case hd => rfl); (case hg => rfl); (case hr => first | (go_simp; done) | (go_simp; rfl)); intro gb235 hg w132 hbox hb; have n0_ := Aside0.mk (Kd.R_below (by (with_reducible repeat (first | apply Kd.R_alloc | apply Kd.R_drewN | apply Kd.R_drew)); exact HO_222000.out) hb); have n1_ := Aside0.mk (Kd.R_below (by (with_reducible repeat (first | apply Kd.R_alloc | apply Kd.R_drewN | apply Kd.R_drew)); exact HO233.out) hb); have n2_ := Aside0.mk (blk_below (g := gb206) (o := .cells #[.slice A0_0 l0_0.length c0_0] 24 (0, 0)) (by (with_reducible repeat first | apply blk_drewN | apply blk_drew | apply blk_alloc); exact BK206.out) hb); have n3_ := Aside0.mk (blk_below (g := gb221) (o := .cells #[.slice Ao43 t217.length co43] 24 (0, 0)) (by (with_reducible repeat first | apply blk_drewN | apply blk_drew | apply blk_alloc); exact BK221.out) hb); have n4_ := Aside0.mk (below_step (by repeat (first | (with_reducible first | exact HB.out | apply below_alloc | apply pw_below_drewN | apply below_drew1 | refine below_set ?_ GE206.out | refine below_set ?_ GE221.out) | exact HB.out)) hb); have n5_ := Aside0.mk (hbox); have n6_ := Aside0.mk ((by rw [hg]; exact (below_size (by repeat (first | (with_reducible first | exact HB.out | apply below_alloc | apply pw_below_drewN | apply below_drew1 | refine below_set ?_ GE206.out | refine below_set ?_ GE221.out) | exact HB.out))) : w.heap.size ≤ gb235)); have n7_ := Aside0.mk ((by rw [hg]; exact (below_size (by repeat (first | (with_reducible first | exact HB.out | apply below_alloc | apply pw_below_drewN | apply below_drew1 | refine below_set ?_ GE206.out | refine below_set ?_ GE221.out) | exact HB.out))) : w.heap.size ≤ gb235)); have n8_ := Aside0.mk ((by rw [hg]; exact Nat.ne_of_lt (blk_lt (g := gb206) (o := .cells #[.slice A0_0 l0_0.length c0_0] 24 (0, 0)) (by (with_reducible repeat first | apply blk_drewN | apply blk_drew | apply blk_alloc); exact BK206.out)) : gb206 ≠ gb235)); have n9_ := Aside0.mk ((by rw [hg]; exact Nat.ne_of_gt (blk_lt (g := gb206) (o := .cells #[.slice A0_0 l0_0.length c0_0] 24 (0, 0)) (by (with_reducible repeat first | apply blk_drewN | apply blk_drew | apply blk_alloc); exact BK206.out)) : gb235 ≠ gb206)); have n10_ := Aside0.mk ((by rw [hg]; exact Nat.ne_of_lt (blk_lt (g := gb221) (o := .cells #[.slice Ao43 t217.length co43] 24 (0, 0)) (by (with_reducible repeat first | apply blk_drewN | apply blk_drew | apply blk_alloc); exact BK221.out)) : gb221 ≠ gb235)); have n11_ := Aside0.mk ((by rw [hg]; exact Nat.ne_of_gt (blk_lt (g := gb221) (o := .cells #[.slice Ao43 t217.length co43] 24 (0, 0)) (by (with_reducible repeat first | apply blk_drewN | apply blk_drew | apply blk_alloc); exact BK221.out)) : gb235 ≠ gb221)); clear HO_222000; clear HO233; clear BK206; clear BK221; clear HB; have HO_222000 := n0_; have HO233 := n1_; have BK206 := n2_; have BK221 := n3_; have HB := n4_; have BK235 := n5_; have GW235 := n6_; have GE235 := n7_; have NB206_235 := n8_; have NB235_206 := n9_; have NB221_235 := n10_; have NB235_221 := n11_; clear n0_ n1_ n2_ n3_ n4_ n5_ n6_ n7_ n8_ n9_ n10_ n11_; clear hb hbox hg; obtain ⟨Ao133, co133, eo133⟩ := Kd.R_slice HO233.out; subst eo133; have hnb134 := NB235_206.out; have hnc134 := NB206_235.out; have hnb135 := NB235_221.out; have hnc135 := NB221_235.out; have hcz136_0 : w132.cell? ⟨gb235, 0, none⟩ = some (.slice none 0 0) := (blk_cell BK235.out 0).trans rfl; have hfz136_0 := blk_frozen BK235.out 0))
          go_ret
          exact ⟨by first | rfl | (simp [errW_none, errW_some] <;> rfl) | (simp [*, errW_none, errW_some] <;> rfl) | (simp [Int.tdiv_eq_ediv_of_nonneg]; done), by repeat (first | (with_reducible first | exact HB.out | apply below_alloc | apply pw_below_drewN | apply below_drew1 | refine below_set ?_ GE206.out | refine below_set ?_ GE221.out | refine below_set ?_ GE235.out) | exact HB.out)⟩

/-- THE ONE PURE STATEMENT of atticlaw14_TableCounts. -/
def atticlaw14_TableCounts.Pure : Prop := ∀ (x0 : S24) (x1 : Int) (x2 : Int) (x3 : Int), G24 x0 → (Lit.int .i64 x1).wf = true → (Lit.int .i64 x2).wf = true → (Lit.int .i64 x3).wf = true → ∃ k, atticlaw14_TableCounts.f k x0.f0 x1 x2 x3 = some true
/-- The same, of inputs of a bulk that the second form allows. -/
def atticlaw14_TableCounts.UptoPure : Prop := ∀ (x0 : S24) (x1 : Int) (x2 : Int) (x3 : Int), G24 x0 → (Lit.int .i64 x1).wf = true → (Lit.int .i64 x2).wf = true → (Lit.int .i64 x3).wf = true → mu24 x0 + (1 + (1 + (1))) ≤ 1048576 → ∃ k, atticlaw14_TableCounts.f k x0.f0 x1 x2 x3 = some true

end Go.Proofs.Ytdjajecgojndfaa.Print
