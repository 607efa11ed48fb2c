-- Written by a program of this session (wip/xprint.py, by way of the print): Lean functions and proofs that the Go functions come to them.
import Derived.Test.YtdjajecgojndfaaPrint0
import Derived.Test.YtdjajecgojndfaaPrint3
import Derived.Test.YtdjajecgojndfaaPrint4
import Derived.Test.YtdjajecgojndfaaPrint5
namespace Go.Proofs.Ytdjajecgojndfaa.Print
open Go.RowKit Go.Proofs.YtdjajecgojndfaaW.PrintWords Go.Proofs.YtdjajecgojndfaaW.PrintLast Go.Proofs.YtdjajecgojndfaaW.PrintMore
attribute [local go_sem] max2_int min2_int max_two min_two max_three min_three max_four min_four   -- for this text's walks alone
set_option linter.unusedVariables false
set_option linter.unusedSimpArgs false

/-! ### atticlaw14_TablePuts: function 3 -/
mutual
def atticlaw14_TablePuts.j0 : Nat → Int → Int → Int → Bool → Bool → List (S34) → Option (Bool)
 | 0, _, _, _, _, _, _ => none
 | k + 1, x1, x2, x3, x4, x27, x245000 => if x27 = true then ((atticlaw14_begun.f k).bind fun t247 => (some t247)) else ((atticref14_Clone.f x245000).bind fun t248 => ((table_Assign.f k x245000 x1 x2).bind fun bt252 => ((atticref14_Assign.f k x245000 x1 x2).bind fun bt257 => ((atticref14_Same.f k bt252.1 bt257.1).bind fun t262 => (if t262 = true then (atticlaw14_TablePuts.j1 k x1 x3 x4 (bt252.2 != bt257.2) x245000 t248 bt252.1) else (atticlaw14_TablePuts.j1 k x1 x3 x4 true x245000 t248 bt252.1))))))
def atticlaw14_TablePuts.j1 : Nat → Int → Int → Bool → Bool → List (S34) → List (S34) → List (S34) → Option (Bool)
 | 0, _, _, _, _, _, _, _ => none
 | k + 1, x1, x3, x4, x53, x245000, x252000, x257000 => if x53 = true then (some false) else (atticlaw14_TablePuts.l0 k x1 x3 x4 (x257000.length : Int) 0 x245000 x252000 x257000)
def atticlaw14_TablePuts.l0 : Nat → Int → Int → Bool → Int → Int → List (S34) → List (S34) → List (S34) → Option (Bool)
 | 0, _, _, _, _, _, _, _, _ => none
 | k + 1, x1, x3, x4, x56, x57, x245000, x252000, x257000 => if x57 < x56 then (if 0 ≤ x57 then (if x57 < (x257000.length : Int) then (atticlaw14_TablePuts.l0 k x1 x3 x4 x56 (wrap64 (x57 + 1)) x245000 x252000 (x257000.set (x57 : Int).toNat (⟨(rd_T34 x257000 x57).f0, Go.bits .xor .u32 ((rd_T34 x257000 x57).f1) 255⟩ : S34))) else (none)) else (none)) else ((table_Put.f k x245000 x1 x3 x4).bind fun bt265 => ((atticref14_Put.f k x245000 x1 x3 x4).bind fun bt269 => ((atticref14_Same.f k bt265.1 bt269.1).bind fun t273 => (if t273 = true then (if bt265.2 = bt269.2 then ((table_Taken.f k x245000 x1 x3).bind fun t274 => ((atticref14_Taken.f k x245000 x1 x3).bind fun t275 => (atticlaw14_TablePuts.j3 k (t274 != t275) x245000 x252000))) else (atticlaw14_TablePuts.j3 k true x245000 x252000)) else (atticlaw14_TablePuts.j3 k true x245000 x252000)))))
def atticlaw14_TablePuts.j3 : Nat → Bool → List (S34) → List (S34) → Option (Bool)
 | 0, _, _, _ => none
 | k + 1, x105, x245000, x252000 => if x105 = true then (some false) else ((table_Clone.f x245000).bind fun t276 => ((atticref14_Same.f k t276 x245000).bind fun t280 => (if t280 = true then ((atticref14_Same.f k x245000 x252000).bind fun t281 => (some t281)) else (some false))))
end
def atticlaw14_TablePuts.f (k : Nat) (l0_0 : List (S34)) (a1 : Int) (a2 : Int) (a3 : Int) (a4 : Bool) : Option (Bool) := (atticlaw14_begun.f k).bind fun t245 => (if t245 = true then ((atticlaw14_few.f l0_0).bind fun t246 => (atticlaw14_TablePuts.j0 k a1 a2 a3 a4 (!t246) l0_0)) else (atticlaw14_TablePuts.j0 k a1 a2 a3 a4 true l0_0))
theorem atticlaw14_TablePuts.mono_l : ∀ k, (∀ y0 y1 y2 y3 y4 y5, LeO (atticlaw14_TablePuts.j0 k y0 y1 y2 y3 y4 y5) (atticlaw14_TablePuts.j0 (k + 1) y0 y1 y2 y3 y4 y5)) ∧ (∀ y0 y1 y2 y3 y4 y5 y6, LeO (atticlaw14_TablePuts.j1 k y0 y1 y2 y3 y4 y5 y6) (atticlaw14_TablePuts.j1 (k + 1) y0 y1 y2 y3 y4 y5 y6)) ∧ (∀ y0 y1 y2 y3 y4 y5 y6 y7, LeO (atticlaw14_TablePuts.l0 k y0 y1 y2 y3 y4 y5 y6 y7) (atticlaw14_TablePuts.l0 (k + 1) y0 y1 y2 y3 y4 y5 y6 y7)) ∧ (∀ y0 y1 y2, LeO (atticlaw14_TablePuts.j3 k y0 y1 y2) (atticlaw14_TablePuts.j3 (k + 1) y0 y1 y2))
 | 0 => ⟨fun _ _ _ _ _ _ r h => by simp [atticlaw14_TablePuts.j0] at h, fun _ _ _ _ _ _ _ r h => by simp [atticlaw14_TablePuts.j1] at h, fun _ _ _ _ _ _ _ _ r h => by simp [atticlaw14_TablePuts.l0] at h, fun _ _ _ r h => by simp [atticlaw14_TablePuts.j3] at h⟩
 | k + 1 => by
  obtain ⟨ih0, ih1, ih2, ih3⟩ := atticlaw14_TablePuts.mono_l k
  refine ⟨?_, ?_, ?_, ?_⟩
  ·intro y0 y1 y2 y3 y4 y5
   unfold atticlaw14_TablePuts.j0
   repeat' first
   | (with_reducible exact ih0 _ _ _ _ _ _)
   | (with_reducible exact ih1 _ _ _ _ _ _ _)
   | (with_reducible exact ih2 _ _ _ _ _ _ _ _)
   | (with_reducible exact ih3 _ _ _)
   | (with_reducible exact atticlaw14_begun.mono _)
   | (with_reducible exact atticref14_Assign.mono _ _ _ _)
   | (with_reducible exact atticref14_Put.mono _ _ _ _ _)
   | (with_reducible exact atticref14_Same.mono _ _ _)
   | (with_reducible exact atticref14_Taken.mono _ _ _ _)
   | (with_reducible exact table_Assign.mono _ _ _ _)
   | (with_reducible exact table_Put.mono _ _ _ _ _)
   | (with_reducible exact table_Taken.mono _ _ _ _)
   | (with_reducible exact LeO.refl _)
   | (with_reducible exact LeO.none _)
   | (with_reducible refine LeO.ite ?_ ?_)
   | (with_reducible refine LeO.bind ?_ (fun _ => ?_))
   | exact ih0 _ _ _ _ _ _
   | exact ih1 _ _ _ _ _ _ _
   | exact ih2 _ _ _ _ _ _ _ _
   | exact ih3 _ _ _
   | exact atticlaw14_begun.mono _
   | exact atticref14_Assign.mono _ _ _ _
   | exact atticref14_Put.mono _ _ _ _ _
   | exact atticref14_Same.mono _ _ _
   | exact atticref14_Taken.mono _ _ _ _
   | exact table_Assign.mono _ _ _ _
   | exact table_Put.mono _ _ _ _ _
   | exact table_Taken.mono _ _ _ _
   | exact LeO.none _
   | refine LeO.ite ?_ ?_
   | refine LeO.bind ?_ (fun _ => ?_)
  ·intro y0 y1 y2 y3 y4 y5 y6
   unfold atticlaw14_TablePuts.j1
   repeat' first
   | (with_reducible exact ih0 _ _ _ _ _ _)
   | (with_reducible exact ih1 _ _ _ _ _ _ _)
   | (with_reducible exact ih2 _ _ _ _ _ _ _ _)
   | (with_reducible exact ih3 _ _ _)
   | (with_reducible exact atticlaw14_begun.mono _)
   | (with_reducible exact atticref14_Assign.mono _ _ _ _)
   | (with_reducible exact atticref14_Put.mono _ _ _ _ _)
   | (with_reducible exact atticref14_Same.mono _ _ _)
   | (with_reducible exact atticref14_Taken.mono _ _ _ _)
   | (with_reducible exact table_Assign.mono _ _ _ _)
   | (with_reducible exact table_Put.mono _ _ _ _ _)
   | (with_reducible exact table_Taken.mono _ _ _ _)
   | (with_reducible exact LeO.refl _)
   | (with_reducible exact LeO.none _)
   | (with_reducible refine LeO.ite ?_ ?_)
   | (with_reducible refine LeO.bind ?_ (fun _ => ?_))
   | exact ih0 _ _ _ _ _ _
   | exact ih1 _ _ _ _ _ _ _
   | exact ih2 _ _ _ _ _ _ _ _
   | exact ih3 _ _ _
   | exact atticlaw14_begun.mono _
   | exact atticref14_Assign.mono _ _ _ _
   | exact atticref14_Put.mono _ _ _ _ _
   | exact atticref14_Same.mono _ _ _
   | exact atticref14_Taken.mono _ _ _ _
   | exact table_Assign.mono _ _ _ _
   | exact table_Put.mono _ _ _ _ _
   | exact table_Taken.mono _ _ _ _
   | exact LeO.none _
   | refine LeO.ite ?_ ?_
   | refine LeO.bind ?_ (fun _ => ?_)
  ·intro y0 y1 y2 y3 y4 y5 y6 y7
   unfold atticlaw14_TablePuts.l0
   repeat' first
   | (with_reducible exact ih0 _ _ _ _ _ _)
   | (with_reducible exact ih1 _ _ _ _ _ _ _)
   | (with_reducible exact ih2 _ _ _ _ _ _ _ _)
   | (with_reducible exact ih3 _ _ _)
   | (with_reducible exact atticlaw14_begun.mono _)
   | (with_reducible exact atticref14_Assign.mono _ _ _ _)
   | (with_reducible exact atticref14_Put.mono _ _ _ _ _)
   | (with_reducible exact atticref14_Same.mono _ _ _)
   | (with_reducible exact atticref14_Taken.mono _ _ _ _)
   | (with_reducible exact table_Assign.mono _ _ _ _)
   | (with_reducible exact table_Put.mono _ _ _ _ _)
   | (with_reducible exact table_Taken.mono _ _ _ _)
   | (with_reducible exact LeO.refl _)
   | (with_reducible exact LeO.none _)
   | (with_reducible refine LeO.ite ?_ ?_)
   | (with_reducible refine LeO.bind ?_ (fun _ => ?_))
   | exact ih0 _ _ _ _ _ _
   | exact ih1 _ _ _ _ _ _ _
   | exact ih2 _ _ _ _ _ _ _ _
   | exact ih3 _ _ _
   | exact atticlaw14_begun.mono _
   | exact atticref14_Assign.mono _ _ _ _
   | exact atticref14_Put.mono _ _ _ _ _
   | exact atticref14_Same.mono _ _ _
   | exact atticref14_Taken.mono _ _ _ _
   | exact table_Assign.mono _ _ _ _
   | exact table_Put.mono _ _ _ _ _
   | exact table_Taken.mono _ _ _ _
   | exact LeO.none _
   | refine LeO.ite ?_ ?_
   | refine LeO.bind ?_ (fun _ => ?_)
  ·intro y0 y1 y2
   unfold atticlaw14_TablePuts.j3
   repeat' first
   | (with_reducible exact ih0 _ _ _ _ _ _)
   | (with_reducible exact ih1 _ _ _ _ _ _ _)
   | (with_reducible exact ih2 _ _ _ _ _ _ _ _)
   | (with_reducible exact ih3 _ _ _)
   | (with_reducible exact atticlaw14_begun.mono _)
   | (with_reducible exact atticref14_Assign.mono _ _ _ _)
   | (with_reducible exact atticref14_Put.mono _ _ _ _ _)
   | (with_reducible exact atticref14_Same.mono _ _ _)
   | (with_reducible exact atticref14_Taken.mono _ _ _ _)
   | (with_reducible exact table_Assign.mono _ _ _ _)
   | (with_reducible exact table_Put.mono _ _ _ _ _)
   | (with_reducible exact table_Taken.mono _ _ _ _)
   | (with_reducible exact LeO.refl _)
   | (with_reducible exact LeO.none _)
   | (with_reducible refine LeO.ite ?_ ?_)
   | (with_reducible refine LeO.bind ?_ (fun _ => ?_))
   | exact ih0 _ _ _ _ _ _
   | exact ih1 _ _ _ _ _ _ _
   | exact ih2 _ _ _ _ _ _ _ _
   | exact ih3 _ _ _
   | exact atticlaw14_begun.mono _
   | exact atticref14_Assign.mono _ _ _ _
   | exact atticref14_Put.mono _ _ _ _ _
   | exact atticref14_Same.mono _ _ _
   | exact atticref14_Taken.mono _ _ _ _
   | exact table_Assign.mono _ _ _ _
   | exact table_Put.mono _ _ _ _ _
   | exact table_Taken.mono _ _ _ _
   | exact LeO.none _
   | refine LeO.ite ?_ ?_
   | refine LeO.bind ?_ (fun _ => ?_)
theorem atticlaw14_TablePuts.mono : ∀ a0 a1 a2 a3 a4 k, LeO (atticlaw14_TablePuts.f k a0 a1 a2 a3 a4) (atticlaw14_TablePuts.f (k + 1) a0 a1 a2 a3 a4) := by
 intro a0 a1 a2 a3 a4 k
 obtain ⟨ih0, ih1, ih2, ih3⟩ := atticlaw14_TablePuts.mono_l k
 unfold atticlaw14_TablePuts.f
 repeat' first
   | (with_reducible exact ih0 _ _ _ _ _ _)
   | (with_reducible exact ih1 _ _ _ _ _ _ _)
   | (with_reducible exact ih2 _ _ _ _ _ _ _ _)
   | (with_reducible exact ih3 _ _ _)
   | (with_reducible exact atticlaw14_begun.mono _)
   | (with_reducible exact atticref14_Assign.mono _ _ _ _)
   | (with_reducible exact atticref14_Put.mono _ _ _ _ _)
   | (with_reducible exact atticref14_Same.mono _ _ _)
   | (with_reducible exact atticref14_Taken.mono _ _ _ _)
   | (with_reducible exact table_Assign.mono _ _ _ _)
   | (with_reducible exact table_Put.mono _ _ _ _ _)
   | (with_reducible exact table_Taken.mono _ _ _ _)
   | (with_reducible exact LeO.refl _)
   | (with_reducible exact LeO.none _)
   | (with_reducible refine LeO.ite ?_ ?_)
   | (with_reducible refine LeO.bind ?_ (fun _ => ?_))
   | exact ih0 _ _ _ _ _ _
   | exact ih1 _ _ _ _ _ _ _
   | exact ih2 _ _ _ _ _ _ _ _
   | exact ih3 _ _ _
   | exact atticlaw14_begun.mono _
   | exact atticref14_Assign.mono _ _ _ _
   | exact atticref14_Put.mono _ _ _ _ _
   | exact atticref14_Same.mono _ _ _
   | exact atticref14_Taken.mono _ _ _ _
   | exact table_Assign.mono _ _ _ _
   | exact table_Put.mono _ _ _ _ _
   | exact table_Taken.mono _ _ _ _
   | exact LeO.none _
   | refine LeO.ite ?_ ?_
   | refine LeO.bind ?_ (fun _ => ?_)
def atticlaw14_TablePuts.T15 : Bool × List (List Nat × List Nat) := (true, [([], []), ([], []), ([0, 1], [0, 1]), ([2], [2]), ([3, 2], [3]), ([4], [4]), ([4], [4]), ([5, 6, 4], [4, 5, 6]), ([4, 7], [4, 7]), ([8, 4], [8]), ([9], [9]), ([9], [9]), ([9], [9]), ([10, 11, 12, 9, 9], [9, 10, 11, 12]), ([9], [9]), ([9], [9]), ([9], [9]), ([14, 15, 16, 13, 9], [9, 14, 15, 16]), ([13, 17, 9], [9, 13, 17]), ([9, 18], [9, 18])])
def atticlaw14_TablePuts.B15 : List Nat := [0, 0, 3, 7, 15, 31, 31, 127, 255, 511, 1023, 1023, 1023, 8191, 1023, 1023, 1023, 131071, 262143, 524287]
theorem atticlaw14_TablePuts.tab15 : rtab .any (opsOf Try.f3 15) = atticlaw14_TablePuts.T15 := by kernel_rfl
theorem atticlaw14_TablePuts.bits15 : waitsOk atticlaw14_TablePuts.T15.2 atticlaw14_TablePuts.B15 = true := by kernel_rfl
set_option maxHeartbeats 8000000 in
set_option maxRecDepth 100000 in
theorem atticlaw14_TablePuts.calls (k : Nat) (A0_0 : Option Addr) (c0_0 : Nat) (l0_0 : List (S34)) (a1 : Int) (a2 : Int) (a3 : Int) (a4 : Bool) (r : Bool) (w : World) (hr0_0 : Kd.C k34 w A0_0 l0_0.length l0_0) (hc0_0 : l0_0.length ≤ c0_0) (hrt_ : Aside0 (r = true)) (h : atticlaw14_TablePuts.f k l0_0 a1 a2 a3 a4 = some r) :
  Calls Try.prog 3 #[.agg #[.slice A0_0 l0_0.length c0_0], .int .i64 a1, .int .i64 a2, .int .i64 a3, .bool a4] w fun e w' => e = .returned (.bool r) ∧ Below w.heap.size w w' := by
 have hu24 := Try.underlying24
 have HR0_0 := Aside0.mk hr0_0
 have HC0_0 := Aside0.mk hc0_0
 clear hr0_0 hc0_0
 have HB := Aside0.mk (Below.refl w.heap.size w)
 have H : ((atticlaw14_begun.f k).bind fun t245 => (if t245 = true then ((atticlaw14_few.f l0_0).bind fun t246 => (atticlaw14_TablePuts.j0 k a1 a2 a3 a4 (!t246) l0_0)) else (atticlaw14_TablePuts.j0 k a1 a2 a3 a4 true l0_0))) = some r := h
 clear h
 have HC6 := Aside0.mk H
 clear H
 go_enter Try.func3, Try.ntmps3
 go_upto_region 1 with (first | ((with_reducible refine gate_dst (N := 5) rfl ?_); refine box_event ?hg (N := 5) ?hd (cs := #[.slice A0_0 l0_0.length c0_0]) (t := 24) ?hr ?_; (case hd => rfl); (case hg => rfl); (case hr => first | (go_simp; done) | (go_simp; rfl)); intro gb244 hg w7 hbox hb; have n0_ := Aside0.mk (below_step (by repeat (first | (with_reducible first | exact HB.out | apply below_alloc | apply pw_below_drewN | apply below_drew1) | exact HB.out)) hb); have n1_ := Aside0.mk (hbox); have n2_ := Aside0.mk ((by rw [hg]; exact (below_size (by repeat (first | (with_reducible first | exact HB.out | apply below_alloc | apply pw_below_drewN | apply below_drew1) | exact HB.out))) : w.heap.size ≤ gb244)); have n3_ := Aside0.mk ((by rw [hg]; exact (below_size (by repeat (first | (with_reducible first | exact HB.out | apply below_alloc | apply pw_below_drewN | apply below_drew1) | exact HB.out))) : w.heap.size ≤ gb244)); clear HB; have HB := n0_; have BK244 := n1_; have GW244 := n2_; have GE244 := n3_; clear n0_ n1_ n2_ n3_; clear hb hbox hg))
 (try simp only [Act.put, List.setIfInBounds_toArray, List.set_cons_zero, List.set_cons_succ])
 go_cut [27] (fun v27 wc => ∃ (kq : Nat) (x27_5 : Bool), v27 = .bool x27_5 ∧ Aside0 (atticlaw14_TablePuts.j0 kq a1 a2 a3 a4 x27_5 l0_0 = some r) ∧ Aside0 (kq ≤ k) ∧ Aside0 (wc.heap[gb244]? = some (.cells #[(.slice A0_0 l0_0.length c0_0)] 24 (0, 0))) ∧ Aside0 (Below w.heap.size w wc))
 case first =>
  have H := HC6.out
  clear HC6
  replace H := Option.bind_eq_some_iff.mp H
  obtain ⟨t245, A80, H⟩ := H
  replace H : (if t245 = true then ((atticlaw14_few.f l0_0).bind fun t246 => (atticlaw14_TablePuts.j0 k a1 a2 a3 a4 (!t246) l0_0)) else (atticlaw14_TablePuts.j0 k a1 a2 a3 a4 true l0_0)) = some r := H
  have A8 := Aside0.mk A80
  clear A80
  by_cases c9 : t245 = true
  ·subst c9
   have H1 : ((atticlaw14_few.f l0_0).bind fun t246 => (atticlaw14_TablePuts.j0 k a1 a2 a3 a4 (!t246) l0_0)) = some r := by rw [if_pos rfl] at H; exact H
   clear H
   have H := H1
   clear H1
   replace H := Option.bind_eq_some_iff.mp H
   obtain ⟨t246, A100, H⟩ := H
   replace H : (atticlaw14_TablePuts.j0 k a1 a2 a3 a4 (!t246) l0_0) = some r := H
   have A10 := Aside0.mk A100
   clear A100
   have H' := Aside0.mk H
   clear H
   go_wp2_with (first | ((with_reducible refine gate_callee (f := 8) rfl ?_); refine goesL_ (some 21) rfl rfl Try.func8 (by kernel_rfl) rfl #[] rfl (by (try simp only [List.map_toArray, List.map_cons, List.map_nil]); first | done | rfl | (simp only [List.length_drop, List.length_take]; rfl)) ?_; (with_reducible refine (atticlaw14_begun.calls k  true _ A8.out).mono ?_); rintro e w11 ⟨rfl, hb⟩; refine ⟨_, rfl, ?_⟩; have n0_ := Aside0.mk (blk_below (g := gb244) (o := .cells #[.slice A0_0 l0_0.length c0_0] 24 (0, 0)) (by (with_reducible repeat first | apply blk_drewN | apply blk_drew | apply blk_alloc); exact BK244.out) hb); have n1_ := Aside0.mk (below_step (by repeat (first | (with_reducible first | exact HB.out | apply below_alloc | apply pw_below_drewN | apply below_drew1 | refine below_set ?_ GE244.out) | exact HB.out)) hb); clear BK244; clear HB; have BK244 := n0_; have HB := n1_; clear n0_ n1_; (try clear hb); (try clear hb2); (try clear hk); (try clear hi); (try clear A8); have hcz12_0 : w11.cell? ⟨gb244, 0, none⟩ = some (.slice A0_0 l0_0.length c0_0) := (blk_cell BK244.out 0).trans rfl; have hfz12_0 := blk_frozen BK244.out 0) | (go_at_call 9; (with_reducible refine (atticlaw14_few.calls _ _ l0_0 t246 _ ?side1 ?side2 A10.out).mono ?_); (case side1 => repeat (first | exact (Kd.C_below HR0_0.out HB.out) | (with_reducible refine Kd.C_alloc ?_ _) | (with_reducible refine Kd.C_drewN ?_ _) | (with_reducible refine Kd.C_drew ?_))); (case side2 => exact HC0_0.out); rintro e w13 ⟨rfl, hb⟩; have n0_ := Aside0.mk (blk_below (g := gb244) (o := .cells #[.slice A0_0 l0_0.length c0_0] 24 (0, 0)) (by (with_reducible repeat first | apply blk_drewN | apply blk_drew | apply blk_alloc); exact BK244.out) hb); have n1_ := Aside0.mk (below_step (by repeat (first | (with_reducible first | exact HB.out | apply below_alloc | apply pw_below_drewN | apply below_drew1 | refine below_set ?_ GE244.out) | exact HB.out)) hb); clear BK244; clear HB; have BK244 := n0_; have HB := n1_; clear n0_ n1_; (try clear hb); (try clear hb2); (try clear hk); (try clear hi); (try clear A10)))
   go_meet
   case rel => exact ⟨_, (!t246), (by first | rfl | (simp; done) | (simp [*]; done) | (simp [Int.tdiv_eq_ediv_of_nonneg]; done)), H', ⟨by first | omega | exact Nat.le_refl _⟩, ⟨by (with_reducible repeat first | apply blk_drewN | apply blk_drew | apply blk_alloc); exact BK244.out⟩, ⟨by repeat (first | (with_reducible first | exact HB.out | apply below_alloc | apply pw_below_drewN | apply below_drew1 | refine below_set ?_ GE244.out) | exact HB.out)⟩⟩
  ·replace c9 := Bool.eq_false_iff.mpr c9
   subst c9
   have H1 : (atticlaw14_TablePuts.j0 k a1 a2 a3 a4 true l0_0) = some r := by rw [if_neg (show ¬ (false = true) by decide)] at H; exact H
   clear H
   have H := H1
   clear H1
   have H' := Aside0.mk H
   clear H
   go_wp2_with (first | ((with_reducible refine gate_callee (f := 8) rfl ?_); refine goesL_ (some 21) rfl rfl Try.func8 (by kernel_rfl) rfl #[] rfl (by (try simp only [List.map_toArray, List.map_cons, List.map_nil]); first | done | rfl | (simp only [List.length_drop, List.length_take]; rfl)) ?_; (with_reducible refine (atticlaw14_begun.calls k  false _ A8.out).mono ?_); rintro e w14 ⟨rfl, hb⟩; refine ⟨_, rfl, ?_⟩; have n0_ := Aside0.mk (blk_below (g := gb244) (o := .cells #[.slice A0_0 l0_0.length c0_0] 24 (0, 0)) (by (with_reducible repeat first | apply blk_drewN | apply blk_drew | apply blk_alloc); exact BK244.out) hb); have n1_ := Aside0.mk (below_step (by repeat (first | (with_reducible first | exact HB.out | apply below_alloc | apply pw_below_drewN | apply below_drew1 | refine below_set ?_ GE244.out) | exact HB.out)) hb); clear BK244; clear HB; have BK244 := n0_; have HB := n1_; clear n0_ n1_; (try clear hb); (try clear hb2); (try clear hk); (try clear hi); (try clear A8)))
   go_meet
   case rel => exact ⟨_, (true), (by first | rfl | (simp; done) | (simp [*]; done) | (simp [Int.tdiv_eq_ediv_of_nonneg]; done)), H', ⟨by first | omega | exact Nat.le_refl _⟩, ⟨by (with_reducible repeat first | apply blk_drewN | apply blk_drew | apply blk_alloc); exact BK244.out⟩, ⟨by repeat (first | (with_reducible first | exact HB.out | apply below_alloc | apply pw_below_drewN | apply below_drew1 | refine below_set ?_ GE244.out) | exact HB.out)⟩⟩
 case rest =>
  clear HC6
  try clear p2
  try clear c3
  try clear c8
  try clear c9
  try clear hcz12_0
  try clear hfz12_0
  obtain ⟨kq, x27_5, rfl, HA, HJ5, BK244, HB⟩ := hcut
  cases kq with
  | zero => exact absurd HA.out (by simp [atticlaw14_TablePuts.j0])
  | succ kj5 =>
   have H := HA.out
   clear HA
   simp only [atticlaw14_TablePuts.j0] at H
   by_cases c15 : x27_5 = true
   ·subst c15
    have H1 : ((atticlaw14_begun.f kj5).bind fun t247 => (some t247)) = some r := by rw [if_pos rfl] at H; exact H
    clear H
    have H := H1
    clear H1
    replace H := Option.bind_eq_some_iff.mp H
    obtain ⟨t247, A160, H⟩ := H
    replace H : (some t247) = some r := H
    have A16 := Aside0.mk A160
    clear A160
    obtain rfl := Option.some.inj H
    go_wp2_with (first | ((with_reducible refine gate_callee (f := 8) rfl ?_); refine goesL_ (some 28) rfl rfl Try.func8 (by kernel_rfl) rfl #[] rfl (by (try simp only [List.map_toArray, List.map_cons, List.map_nil]); first | done | rfl | (simp only [List.length_drop, List.length_take]; rfl)) ?_; (with_reducible refine (atticlaw14_begun.calls kj5  t247 _ A16.out).mono ?_); rintro e w17 ⟨rfl, hb⟩; refine ⟨_, rfl, ?_⟩; have n0_ := Aside0.mk (blk_below (g := gb244) (o := .cells #[.slice A0_0 l0_0.length c0_0] 24 (0, 0)) (by (with_reducible repeat first | apply blk_drewN | apply blk_drew | apply blk_alloc); exact BK244.out) hb); have n1_ := Aside0.mk (below_step (by repeat (first | (with_reducible first | exact HB.out | apply below_alloc | apply pw_below_drewN | apply below_drew1 | refine below_set ?_ GE244.out) | exact HB.out)) hb); clear BK244; clear HB; have BK244 := n0_; have HB := n1_; clear n0_ n1_; (try clear hb); (try clear hb2); (try clear hk); (try clear hi); (try clear A16)))
    go_ret
    exact ⟨by first | rfl | (simp [errW_none, errW_some] <;> rfl) | (simp [*, errW_none, errW_some] <;> rfl) | (simp [Int.tdiv_eq_ediv_of_nonneg]; done), by repeat (first | (with_reducible first | exact HB.out | apply below_alloc | apply pw_below_drewN | apply below_drew1 | refine below_set ?_ GE244.out) | exact HB.out)⟩
   ·replace c15 := Bool.eq_false_iff.mpr c15
    subst c15
    have H1 : ((atticref14_Clone.f l0_0).bind fun t248 => ((table_Assign.f kj5 l0_0 a1 a2).bind fun bt252 => ((atticref14_Assign.f kj5 l0_0 a1 a2).bind fun bt257 => ((atticref14_Same.f kj5 bt252.1 bt257.1).bind fun t262 => (if t262 = true then (atticlaw14_TablePuts.j1 kj5 a1 a3 a4 (bt252.2 != bt257.2) l0_0 t248 bt252.1) else (atticlaw14_TablePuts.j1 kj5 a1 a3 a4 true l0_0 t248 bt252.1)))))) = some r := by rw [if_neg (show ¬ (false = true) by decide)] at H; exact H
    clear H
    have H := H1
    clear H1
    replace H := Option.bind_eq_some_iff.mp H
    obtain ⟨t248, A180, H⟩ := H
    replace H : ((table_Assign.f kj5 l0_0 a1 a2).bind fun bt252 => ((atticref14_Assign.f kj5 l0_0 a1 a2).bind fun bt257 => ((atticref14_Same.f kj5 bt252.1 bt257.1).bind fun t262 => (if t262 = true then (atticlaw14_TablePuts.j1 kj5 a1 a3 a4 (bt252.2 != bt257.2) l0_0 t248 bt252.1) else (atticlaw14_TablePuts.j1 kj5 a1 a3 a4 true l0_0 t248 bt252.1))))) = some r := H
    have A18 := Aside0.mk A180
    clear A180
    replace H := Option.bind_eq_some_iff.mp H
    obtain ⟨⟨t252, t255⟩, A190, H⟩ := H
    replace H : ((atticref14_Assign.f kj5 l0_0 a1 a2).bind fun bt257 => ((atticref14_Same.f kj5 t252 bt257.1).bind fun t262 => (if t262 = true then (atticlaw14_TablePuts.j1 kj5 a1 a3 a4 (t255 != bt257.2) l0_0 t248 t252) else (atticlaw14_TablePuts.j1 kj5 a1 a3 a4 true l0_0 t248 t252)))) = some r := H
    have A19 := Aside0.mk A190
    clear A190
    replace H := Option.bind_eq_some_iff.mp H
    obtain ⟨⟨t257, t260⟩, A200, H⟩ := H
    replace H : ((atticref14_Same.f kj5 t252 t257).bind fun t262 => (if t262 = true then (atticlaw14_TablePuts.j1 kj5 a1 a3 a4 (t255 != t260) l0_0 t248 t252) else (atticlaw14_TablePuts.j1 kj5 a1 a3 a4 true l0_0 t248 t252))) = some r := H
    have A20 := Aside0.mk A200
    clear A200
    have HC21 := Aside0.mk H
    clear H
    have hcz22_0 : wc.cell? ⟨gb244, 0, none⟩ = some (.slice A0_0 l0_0.length c0_0) := (blk_cell BK244.out 0).trans rfl
    have hfz22_0 := blk_frozen BK244.out 0
    go_upto_region 6 with (first | ((with_reducible refine gate_callee (f := 10) rfl ?_); refine goesL_ (some 30) rfl rfl Try.func10 (by kernel_rfl) rfl #[.agg #[.slice A0_0 l0_0.length c0_0]] rfl (by (try simp only [List.map_toArray, List.map_cons, List.map_nil]); first | done | rfl | (simp only [List.length_drop, List.length_take]; rfl)) ?_; (with_reducible refine (atticref14_Clone.calls _ _ l0_0 t248 _ ?side1 ?side2 A18.out).mono ?_); (case side1 => repeat (first | exact (Kd.C_below HR0_0.out HB.out) | (with_reducible refine Kd.C_alloc ?_ _) | (with_reducible refine Kd.C_drewN ?_ _) | (with_reducible refine Kd.C_drew ?_))); (case side2 => exact HC0_0.out); rintro e w23 ⟨v249, rfl, ho0, hb⟩; refine ⟨_, rfl, ?_⟩; have n0_ := Aside0.mk (Kd.R_lower ho0 (below_size (by repeat (first | (with_reducible first | exact HB.out | apply below_alloc | apply pw_below_drewN | apply below_drew1 | refine below_set ?_ GE244.out) | exact HB.out)))); have n1_ := Aside0.mk (blk_below (g := gb244) (o := .cells #[.slice A0_0 l0_0.length c0_0] 24 (0, 0)) (by (with_reducible repeat first | apply blk_drewN | apply blk_drew | apply blk_alloc); exact BK244.out) hb); have n2_ := Aside0.mk (below_step (by repeat (first | (with_reducible first | exact HB.out | apply below_alloc | apply pw_below_drewN | apply below_drew1 | refine below_set ?_ GE244.out) | exact HB.out)) hb); clear BK244; clear HB; have HO250 := n0_; have BK244 := n1_; have HB := n2_; clear n0_ n1_ n2_; (try clear hb); (try clear hb2); (try clear hk); (try clear hi); (try clear ho0); (try clear A18)) | ((with_reducible refine gate_dst (N := 11) rfl ?_); refine box_event ?hg (N := 11) ?hd (cs := #[.slice none 0 0]) (t := 24) ?hr ?_; (case hd => rfl); (case hg => rfl); (case hr => first | (go_simp; done) | (go_simp; rfl)); intro gb251 hg w24 hbox hb; have n0_ := Aside0.mk (Kd.R_below (by (with_reducible repeat (first | apply Kd.R_alloc | apply Kd.R_drewN | apply Kd.R_drew)); exact HO250.out) hb); have n1_ := Aside0.mk (blk_below (g := gb244) (o := .cells #[.slice A0_0 l0_0.length c0_0] 24 (0, 0)) (by (with_reducible repeat first | apply blk_drewN | apply blk_drew | apply blk_alloc); exact BK244.out) hb); have n2_ := Aside0.mk (below_step (by repeat (first | (with_reducible first | exact HB.out | apply below_alloc | apply pw_below_drewN | apply below_drew1 | refine below_set ?_ GE244.out) | exact HB.out)) hb); have n3_ := Aside0.mk (hbox); have n4_ := Aside0.mk ((by rw [hg]; exact (below_size (by repeat (first | (with_reducible first | exact HB.out | apply below_alloc | apply pw_below_drewN | apply below_drew1 | refine below_set ?_ GE244.out) | exact HB.out))) : w.heap.size ≤ gb251)); have n5_ := Aside0.mk ((by rw [hg]; exact (below_size (by repeat (first | (with_reducible first | exact HB.out | apply below_alloc | apply pw_below_drewN | apply below_drew1 | refine below_set ?_ GE244.out) | exact HB.out))) : w.heap.size ≤ gb251)); have n6_ := Aside0.mk ((by rw [hg]; exact Nat.ne_of_lt (blk_lt (g := gb244) (o := .cells #[.slice A0_0 l0_0.length c0_0] 24 (0, 0)) (by (with_reducible repeat first | apply blk_drewN | apply blk_drew | apply blk_alloc); exact BK244.out)) : gb244 ≠ gb251)); have n7_ := Aside0.mk ((by rw [hg]; exact Nat.ne_of_gt (blk_lt (g := gb244) (o := .cells #[.slice A0_0 l0_0.length c0_0] 24 (0, 0)) (by (with_reducible repeat first | apply blk_drewN | apply blk_drew | apply blk_alloc); exact BK244.out)) : gb251 ≠ gb244)); clear HO250; clear BK244; clear HB; have HO250 := n0_; have BK244 := n1_; have HB := n2_; have BK251 := n3_; have GW251 := n4_; have GE251 := n5_; have NB244_251 := n6_; have NB251_244 := n7_; clear n0_ n1_ n2_ n3_ n4_ n5_ n6_ n7_; clear hb hbox hg; obtain ⟨Ao25, co25, eo25⟩ := Kd.R_slice HO250.out; subst eo25; have hnb26 := NB251_244.out; have hnc26 := NB244_251.out; have hcz27_0 : w24.cell? ⟨gb251, 0, none⟩ = some (.slice none 0 0) := (blk_cell BK251.out 0).trans rfl; have hfz27_0 := blk_frozen BK251.out 0; have hcz28_0 : w24.cell? ⟨gb244, 0, none⟩ = some (.slice A0_0 l0_0.length c0_0) := (blk_cell BK244.out 0).trans rfl; have hfz28_0 := blk_frozen BK244.out 0) | ((with_reducible refine gate_callee (f := 11) rfl ?_); refine goesL_ (some 35) rfl rfl Try.func11 (by kernel_rfl) rfl #[.agg #[.slice A0_0 l0_0.length c0_0], .int .i64 a1, .int .i64 a2] rfl (by (try simp only [List.map_toArray, List.map_cons, List.map_nil]); first | done | rfl | (simp only [List.length_drop, List.length_take]; rfl)) ?_; (with_reducible refine (table_Assign.calls kj5 _ _ l0_0 a1 a2 t252 t255 _ ?side1 ?side2 A19.out).mono ?_); (case side1 => exact Kd.C_below HR0_0.out (by repeat (first | (with_reducible first | exact HB.out | apply below_alloc | apply pw_below_drewN | apply below_drew1 | refine below_set ?_ GE244.out | refine below_set ?_ GE251.out) | exact HB.out))); (case side2 => exact HC0_0.out); rintro e w29 ⟨v253, rfl, ho0, hb⟩; refine ⟨_, rfl, ?_⟩; have n0_ := Aside0.mk (Kd.R_elder' (by (with_reducible repeat (first | apply Kd.R_alloc | apply Kd.R_drewN | apply Kd.R_drew)); exact (Kd.R_mono (Kd.R_far (p := ⟨gb251, 0, none⟩) (Kd.R_types HO250.out BK251.out (by decide)) (fun _ hk => hk.2) (.slice Ao25 t248.length co25)) (fun _ h_ => h_.1))) (Kd.R_base ho0) hb); have n1_ := Aside0.mk (Kd.R_lower (Kd.R_new' ho0 (Kd.R_lt (by (with_reducible repeat (first | apply Kd.R_alloc | apply Kd.R_drewN | apply Kd.R_drew)); exact (Kd.R_mono (Kd.R_far (p := ⟨gb251, 0, none⟩) (Kd.R_types HO250.out BK251.out (by decide)) (fun _ hk => hk.2) (.slice Ao25 t248.length co25)) (fun _ h_ => h_.1))))) (below_size (by repeat (first | (with_reducible first | exact HB.out | apply below_alloc | apply pw_below_drewN | apply below_drew1 | refine below_set ?_ GE244.out | refine below_set ?_ GE251.out) | exact HB.out)))); have n2_ := Aside0.mk (blk_below (g := gb244) (o := .cells #[.slice A0_0 l0_0.length c0_0] 24 (0, 0)) (by (with_reducible repeat first | apply blk_drewN | apply blk_drew | apply blk_alloc); refine blk_far ?_ NB244_251.out _; (with_reducible repeat first | apply blk_drewN | apply blk_drew | apply blk_alloc); exact BK244.out) hb); have n3_ := Aside0.mk (blk_below (g := gb251) (o := .cells #[.slice Ao25 t248.length co25] 24 (0, 0)) (by (with_reducible repeat first | apply blk_drewN | apply blk_drew | apply blk_alloc); refine blk_put (cs := #[.slice none 0 0]) ?_ 0 _ rfl; (with_reducible repeat first | apply blk_drewN | apply blk_drew | apply blk_alloc); exact BK251.out) hb); have n4_ := Aside0.mk (below_step (by repeat (first | (with_reducible first | exact HB.out | apply below_alloc | apply pw_below_drewN | apply below_drew1 | refine below_set ?_ GE244.out | refine below_set ?_ GE251.out) | exact HB.out)) hb); clear HO250; clear BK244; clear BK251; clear HB; have HO250 := n0_; have HO254 := n1_; have BK244 := n2_; have BK251 := n3_; have HB := n4_; clear n0_ n1_ n2_ n3_ n4_; (try clear hb); (try clear hb2); (try clear hk); (try clear hi); (try clear ho0); (try clear A19)) | ((with_reducible refine gate_dst (N := 12) rfl ?_); refine box_event ?hg (N := 12) ?hd (cs := #[.slice none 0 0]) (t := 24) ?hr ?_; (case hd => rfl); (case hg => rfl); (case hr => first | (go_simp; done) | (go_simp; rfl)); intro gb256 hg w30 hbox hb; have n0_ := Aside0.mk (Kd.R_below (by (with_reducible repeat (first | apply Kd.R_alloc | apply Kd.R_drewN | apply Kd.R_drew)); exact HO250.out) hb); have n1_ := Aside0.mk (Kd.R_below (by (with_reducible repeat (first | apply Kd.R_alloc | apply Kd.R_drewN | apply Kd.R_drew)); exact HO254.out) hb); have n2_ := Aside0.mk (blk_below (g := gb244) (o := .cells #[.slice A0_0 l0_0.length c0_0] 24 (0, 0)) (by (with_reducible repeat first | apply blk_drewN | apply blk_drew | apply blk_alloc); exact BK244.out) hb); have n3_ := Aside0.mk (blk_below (g := gb251) (o := .cells #[.slice Ao25 t248.length co25] 24 (0, 0)) (by (with_reducible repeat first | apply blk_drewN | apply blk_drew | apply blk_alloc); exact BK251.out) hb); have n4_ := Aside0.mk (below_step (by repeat (first | (with_reducible first | exact HB.out | apply below_alloc | apply pw_below_drewN | apply below_drew1 | refine below_set ?_ GE244.out | refine below_set ?_ GE251.out) | exact HB.out)) hb); have n5_ := Aside0.mk (hbox); have n6_ := Aside0.mk ((by rw [hg]; exact (below_size (by repeat (first | (with_reducible first | exact HB.out | apply below_alloc | apply pw_below_drewN | apply below_drew1 | refine below_set ?_ GE244.out | refine below_set ?_ GE251.out) | exact HB.out))) : w.heap.size ≤ gb256)); have n7_ := Aside0.mk ((by rw [hg]; exact (below_size (by repeat (first | (with_reducible first | exact HB.out | apply below_alloc | apply pw_below_drewN | apply below_drew1 | refine below_set ?_ GE244.out | refine below_set ?_ GE251.out) | exact HB.out))) : w.heap.size ≤ gb256)); have n8_ := Aside0.mk ((by rw [hg]; exact Nat.ne_of_lt (blk_lt (g := gb244) (o := .cells #[.slice A0_0 l0_0.length c0_0] 24 (0, 0)) (by (with_reducible repeat first | apply blk_drewN | apply blk_drew | apply blk_alloc); exact BK244.out)) : gb244 ≠ gb256)); have n9_ := Aside0.mk ((by rw [hg]; exact Nat.ne_of_gt (blk_lt (g := gb244) (o := .cells #[.slice A0_0 l0_0.length c0_0] 24 (0, 0)) (by (with_reducible repeat first | apply blk_drewN | apply blk_drew | apply blk_alloc); exact BK244.out)) : gb256 ≠ gb244)); have n10_ := Aside0.mk ((by rw [hg]; exact Nat.ne_of_lt (blk_lt (g := gb251) (o := .cells #[.slice Ao25 t248.length co25] 24 (0, 0)) (by (with_reducible repeat first | apply blk_drewN | apply blk_drew | apply blk_alloc); exact BK251.out)) : gb251 ≠ gb256)); have n11_ := Aside0.mk ((by rw [hg]; exact Nat.ne_of_gt (blk_lt (g := gb251) (o := .cells #[.slice Ao25 t248.length co25] 24 (0, 0)) (by (with_reducible repeat first | apply blk_drewN | apply blk_drew | apply blk_alloc); exact BK251.out)) : gb256 ≠ gb251)); clear HO250; clear HO254; clear BK244; clear BK251; clear HB; have HO250 := n0_; have HO254 := n1_; have BK244 := n2_; have BK251 := n3_; have HB := n4_; have BK256 := n5_; have GW256 := n6_; have GE256 := n7_; have NB244_256 := n8_; have NB256_244 := n9_; have NB251_256 := n10_; have NB256_251 := n11_; clear n0_ n1_ n2_ n3_ n4_ n5_ n6_ n7_ n8_ n9_ n10_ n11_; clear hb hbox hg; obtain ⟨Ao31, co31, eo31⟩ := Kd.R_slice HO254.out; subst eo31; have hnb32 := NB256_244.out; have hnc32 := NB244_256.out; have hnb33 := NB256_251.out; have hnc33 := NB251_256.out; have hcz34_0 : w30.cell? ⟨gb256, 0, none⟩ = some (.slice none 0 0) := (blk_cell BK256.out 0).trans rfl; have hfz34_0 := blk_frozen BK256.out 0; have hcz35_0 : w30.cell? ⟨gb244, 0, none⟩ = some (.slice A0_0 l0_0.length c0_0) := (blk_cell BK244.out 0).trans rfl; have hfz35_0 := blk_frozen BK244.out 0) | ((with_reducible refine gate_callee (f := 12) rfl ?_); refine goesL_ (some 42) rfl rfl Try.func12 (by kernel_rfl) rfl #[.agg #[.slice A0_0 l0_0.length c0_0], .int .i64 a1, .int .i64 a2] rfl (by (try simp only [List.map_toArray, List.map_cons, List.map_nil]); first | done | rfl | (simp only [List.length_drop, List.length_take]; rfl)) ?_; (with_reducible refine (atticref14_Assign.calls kj5 _ _ l0_0 a1 a2 t257 t260 _ ?side1 ?side2 A20.out).mono ?_); (case side1 => exact Kd.C_below HR0_0.out (by repeat (first | (with_reducible first | exact HB.out | apply below_alloc | apply pw_below_drewN | apply below_drew1 | refine below_set ?_ GE244.out | refine below_set ?_ GE251.out | refine below_set ?_ GE256.out) | exact HB.out))); (case side2 => exact HC0_0.out); rintro e w36 ⟨v258, rfl, ho0, hb⟩; refine ⟨_, rfl, ?_⟩; have n0_ := Aside0.mk (Kd.R_elder' (by (with_reducible repeat (first | apply Kd.R_alloc | apply Kd.R_drewN | apply Kd.R_drew)); exact (Kd.R_mono (Kd.R_far (p := ⟨gb256, 0, none⟩) (Kd.R_types HO250.out BK256.out (by decide)) (fun _ hk => hk.2) (.slice Ao31 t252.length co31)) (fun _ h_ => h_.1))) (Kd.R_base ho0) hb); have n1_ := Aside0.mk (Kd.R_elder' (by (with_reducible repeat (first | apply Kd.R_alloc | apply Kd.R_drewN | apply Kd.R_drew)); exact (Kd.R_mono (Kd.R_far (p := ⟨gb256, 0, none⟩) (Kd.R_types HO254.out BK256.out (by decide)) (fun _ hk => hk.2) (.slice Ao31 t252.length co31)) (fun _ h_ => h_.1))) (Kd.R_base ho0) hb); have n2_ := Aside0.mk (Kd.R_lower (Kd.R_new' (Kd.R_new' ho0 (Kd.R_lt (by (with_reducible repeat (first | apply Kd.R_alloc | apply Kd.R_drewN | apply Kd.R_drew)); exact (Kd.R_mono (Kd.R_far (p := ⟨gb256, 0, none⟩) (Kd.R_types HO250.out BK256.out (by decide)) (fun _ hk => hk.2) (.slice Ao31 t252.length co31)) (fun _ h_ => h_.1))))) (Kd.R_lt (by (with_reducible repeat (first | apply Kd.R_alloc | apply Kd.R_drewN | apply Kd.R_drew)); exact (Kd.R_mono (Kd.R_far (p := ⟨gb256, 0, none⟩) (Kd.R_types HO254.out BK256.out (by decide)) (fun _ hk => hk.2) (.slice Ao31 t252.length co31)) (fun _ h_ => h_.1))))) (below_size (by repeat (first | (with_reducible first | exact HB.out | apply below_alloc | apply pw_below_drewN | apply below_drew1 | refine below_set ?_ GE244.out | refine below_set ?_ GE251.out | refine below_set ?_ GE256.out) | exact HB.out)))); have n3_ := Aside0.mk (blk_below (g := gb244) (o := .cells #[.slice A0_0 l0_0.length c0_0] 24 (0, 0)) (by (with_reducible repeat first | apply blk_drewN | apply blk_drew | apply blk_alloc); refine blk_far ?_ NB244_256.out _; (with_reducible repeat first | apply blk_drewN | apply blk_drew | apply blk_alloc); exact BK244.out) hb); have n4_ := Aside0.mk (blk_below (g := gb251) (o := .cells #[.slice Ao25 t248.length co25] 24 (0, 0)) (by (with_reducible repeat first | apply blk_drewN | apply blk_drew | apply blk_alloc); refine blk_far ?_ NB251_256.out _; (with_reducible repeat first | apply blk_drewN | apply blk_drew | apply blk_alloc); exact BK251.out) hb); have n5_ := Aside0.mk (blk_below (g := gb256) (o := .cells #[.slice Ao31 t252.length co31] 24 (0, 0)) (by (with_reducible repeat first | apply blk_drewN | apply blk_drew | apply blk_alloc); refine blk_put (cs := #[.slice none 0 0]) ?_ 0 _ rfl; (with_reducible repeat first | apply blk_drewN | apply blk_drew | apply blk_alloc); exact BK256.out) hb); have n6_ := Aside0.mk (below_step (by repeat (first | (with_reducible first | exact HB.out | apply below_alloc | apply pw_below_drewN | apply below_drew1 | refine below_set ?_ GE244.out | refine below_set ?_ GE251.out | refine below_set ?_ GE256.out) | exact HB.out)) hb); clear HO250; clear HO254; clear BK244; clear BK251; clear BK256; clear HB; have HO250 := n0_; have HO254 := n1_; have HO259 := n2_; have BK244 := n3_; have BK251 := n4_; have BK256 := n5_; have HB := n6_; clear n0_ n1_ n2_ n3_ n4_ n5_ n6_; (try clear hb); (try clear hb2); (try clear hk); (try clear hi); (try clear ho0); (try clear A20)) | ((with_reducible refine gate_dst (N := 14) rfl ?_); refine box_event ?hg (N := 14) ?hd (cs := #[.slice none 0 0]) (t := 24) ?hr ?_; (case hd => rfl); (case hg => rfl); (case hr => first | (go_simp; done) | (go_simp; rfl)); intro gb261 hg w37 hbox hb; have n0_ := Aside0.mk (Kd.R_below (by (with_reducible repeat (first | apply Kd.R_alloc | apply Kd.R_drewN | apply Kd.R_drew)); exact HO250.out) hb); have n1_ := Aside0.mk (Kd.R_below (by (with_reducible repeat (first | apply Kd.R_alloc | apply Kd.R_drewN | apply Kd.R_drew)); exact HO254.out) hb); have n2_ := Aside0.mk (Kd.R_below (by (with_reducible repeat (first | apply Kd.R_alloc | apply Kd.R_drewN | apply Kd.R_drew)); exact HO259.out) hb); have n3_ := Aside0.mk (blk_below (g := gb244) (o := .cells #[.slice A0_0 l0_0.length c0_0] 24 (0, 0)) (by (with_reducible repeat first | apply blk_drewN | apply blk_drew | apply blk_alloc); exact BK244.out) hb); have n4_ := Aside0.mk (blk_below (g := gb251) (o := .cells #[.slice Ao25 t248.length co25] 24 (0, 0)) (by (with_reducible repeat first | apply blk_drewN | apply blk_drew | apply blk_alloc); exact BK251.out) hb); have n5_ := Aside0.mk (blk_below (g := gb256) (o := .cells #[.slice Ao31 t252.length co31] 24 (0, 0)) (by (with_reducible repeat first | apply blk_drewN | apply blk_drew | apply blk_alloc); exact BK256.out) hb); have n6_ := Aside0.mk (below_step (by repeat (first | (with_reducible first | exact HB.out | apply below_alloc | apply pw_below_drewN | apply below_drew1 | refine below_set ?_ GE244.out | refine below_set ?_ GE251.out | refine below_set ?_ GE256.out) | exact HB.out)) hb); have n7_ := Aside0.mk (hbox); have n8_ := Aside0.mk ((by rw [hg]; exact (below_size (by repeat (first | (with_reducible first | exact HB.out | apply below_alloc | apply pw_below_drewN | apply below_drew1 | refine below_set ?_ GE244.out | refine below_set ?_ GE251.out | refine below_set ?_ GE256.out) | exact HB.out))) : w.heap.size ≤ gb261)); have n9_ := Aside0.mk ((by rw [hg]; exact (below_size (by repeat (first | (with_reducible first | exact HB.out | apply below_alloc | apply pw_below_drewN | apply below_drew1 | refine below_set ?_ GE244.out | refine below_set ?_ GE251.out | refine below_set ?_ GE256.out) | exact HB.out))) : w.heap.size ≤ gb261)); have n10_ := Aside0.mk ((by rw [hg]; exact Nat.ne_of_lt (blk_lt (g := gb244) (o := .cells #[.slice A0_0 l0_0.length c0_0] 24 (0, 0)) (by (with_reducible repeat first | apply blk_drewN | apply blk_drew | apply blk_alloc); exact BK244.out)) : gb244 ≠ gb261)); have n11_ := Aside0.mk ((by rw [hg]; exact Nat.ne_of_gt (blk_lt (g := gb244) (o := .cells #[.slice A0_0 l0_0.length c0_0] 24 (0, 0)) (by (with_reducible repeat first | apply blk_drewN | apply blk_drew | apply blk_alloc); exact BK244.out)) : gb261 ≠ gb244)); have n12_ := Aside0.mk ((by rw [hg]; exact Nat.ne_of_lt (blk_lt (g := gb251) (o := .cells #[.slice Ao25 t248.length co25] 24 (0, 0)) (by (with_reducible repeat first | apply blk_drewN | apply blk_drew | apply blk_alloc); exact BK251.out)) : gb251 ≠ gb261)); have n13_ := Aside0.mk ((by rw [hg]; exact Nat.ne_of_gt (blk_lt (g := gb251) (o := .cells #[.slice Ao25 t248.length co25] 24 (0, 0)) (by (with_reducible repeat first | apply blk_drewN | apply blk_drew | apply blk_alloc); exact BK251.out)) : gb261 ≠ gb251)); have n14_ := Aside0.mk ((by rw [hg]; exact Nat.ne_of_lt (blk_lt (g := gb256) (o := .cells #[.slice Ao31 t252.length co31] 24 (0, 0)) (by (with_reducible repeat first | apply blk_drewN | apply blk_drew | apply blk_alloc); exact BK256.out)) : gb256 ≠ gb261)); have n15_ := Aside0.mk ((by rw [hg]; exact Nat.ne_of_gt (blk_lt (g := gb256) (o := .cells #[.slice Ao31 t252.length co31] 24 (0, 0)) (by (with_reducible repeat first | apply blk_drewN | apply blk_drew | apply blk_alloc); exact BK256.out)) : gb261 ≠ gb256)); clear HO250; clear HO254; clear HO259; clear BK244; clear BK251; clear BK256; clear HB; have HO250 := n0_; have HO254 := n1_; have HO259 := n2_; have BK244 := n3_; have BK251 := n4_; have BK256 := n5_; have HB := n6_; have BK261 := n7_; have GW261 := n8_; have GE261 := n9_; have NB244_261 := n10_; have NB261_244 := n11_; have NB251_261 := n12_; have NB261_251 := n13_; have NB256_261 := n14_; have NB261_256 := n15_; clear n0_ n1_ n2_ n3_ n4_ n5_ n6_ n7_ n8_ n9_ n10_ n11_ n12_ n13_ n14_ n15_; clear hb hbox hg; obtain ⟨Ao38, co38, eo38⟩ := Kd.R_slice HO259.out; subst eo38; have hnb39 := NB261_244.out; have hnc39 := NB244_261.out; have hnb40 := NB261_251.out; have hnc40 := NB251_261.out; have hnb41 := NB261_256.out; have hnc41 := NB256_261.out; have hcz42_0 : w37.cell? ⟨gb261, 0, none⟩ = some (.slice none 0 0) := (blk_cell BK261.out 0).trans rfl; have hfz42_0 := blk_frozen BK261.out 0))
    (try simp only [Act.put, List.setIfInBounds_toArray, List.set_cons_zero, List.set_cons_succ])
    go_cut [53] (fun v53 wc => ∃ (kq : Nat) (x53_20 : Bool), v53 = .bool x53_20 ∧ Aside0 (atticlaw14_TablePuts.j1 kq a1 a3 a4 x53_20 l0_0 t248 t252 = some r) ∧ Aside0 (kq ≤ kj5) ∧ Aside0 (Kd.R k34 34 wc w.heap.size (fun k_ => some k_ ≠ ((.slice Ao31 t252.length co31) : Value).ownBlock ∧ some k_ ≠ ((.slice Ao38 t257.length co38) : Value).ownBlock) (.slice Ao25 t248.length co25) t248) ∧ Aside0 (Kd.R k34 34 wc w.heap.size (fun k_ => some k_ ≠ ((.slice Ao25 t248.length co25) : Value).ownBlock ∧ some k_ ≠ ((.slice Ao38 t257.length co38) : Value).ownBlock) (.slice Ao31 t252.length co31) t252) ∧ Aside0 (Kd.R k34 34 wc w.heap.size (fun k_ => some k_ ≠ ((.slice Ao25 t248.length co25) : Value).ownBlock ∧ some k_ ≠ ((.slice Ao31 t252.length co31) : Value).ownBlock) (.slice Ao38 t257.length co38) t257) ∧ Aside0 (wc.heap[gb244]? = some (.cells #[(.slice A0_0 l0_0.length c0_0)] 24 (0, 0))) ∧ Aside0 (wc.heap[gb251]? = some (.cells #[(.slice Ao25 t248.length co25)] 24 (0, 0))) ∧ Aside0 (wc.heap[gb256]? = some (.cells #[(.slice Ao31 t252.length co31)] 24 (0, 0))) ∧ Aside0 (wc.heap[gb261]? = some (.cells #[(.slice Ao38 t257.length co38)] 24 (0, 0))) ∧ Aside0 (Below w.heap.size w wc))
    case first =>
     have H := HC21.out
     clear HC21
     replace H := Option.bind_eq_some_iff.mp H
     obtain ⟨t262, A430, H⟩ := H
     replace H : (if t262 = true then (atticlaw14_TablePuts.j1 kj5 a1 a3 a4 (t255 != t260) l0_0 t248 t252) else (atticlaw14_TablePuts.j1 kj5 a1 a3 a4 true l0_0 t248 t252)) = some r := H
     have A43 := Aside0.mk A430
     clear A430
     by_cases c44 : t262 = true
     ·subst c44
      have H1 : (atticlaw14_TablePuts.j1 kj5 a1 a3 a4 (t255 != t260) l0_0 t248 t252) = some r := by rw [if_pos rfl] at H; exact H
      clear H
      have H := H1
      clear H1
      have H' := Aside0.mk H
      clear H
      have hnb45 := NB256_244.out
      have hnc45 := NB244_256.out
      have hnb46 := NB256_251.out
      have hnc46 := NB251_256.out
      have hnb47 := NB256_261.out
      have hnc47 := NB261_256.out
      have hcz48_0 : w37.cell? ⟨gb256, 0, none⟩ = some (.slice Ao31 t252.length co31) := (blk_cell BK256.out 0).trans rfl
      have hfz48_0 := blk_frozen BK256.out 0
      have hnb49 := NB261_244.out
      have hnc49 := NB244_261.out
      have hnb50 := NB261_251.out
      have hnc50 := NB251_261.out
      have hcz51_0 : w37.cell? ⟨gb261, 0, none⟩ = some (.slice none 0 0) := (blk_cell BK261.out 0).trans rfl
      have hfz51_0 := blk_frozen BK261.out 0
      go_wp2_with (first | ((with_reducible refine gate_callee (f := 13) rfl ?_); refine goesL_ (some 47) rfl rfl Try.func13 (by kernel_rfl) rfl #[.agg #[.slice Ao31 t252.length co31], .agg #[.slice Ao38 t257.length co38]] rfl (by (try simp only [List.map_toArray, List.map_cons, List.map_nil]); first | done | rfl | (simp only [List.length_drop, List.length_take]; rfl)) ?_; (with_reducible refine (atticref14_Same.calls kj5 _ _ t252 _ _ t257 true _ ?side1 ?side2 ?side3 ?side4 A43.out).mono ?_); (case side1 => refine (Kd.R_reads' (e := 34) (base := w.heap.size) (ok := fun k_ => ((True ∧ some k_ ≠ (.slice Ao25 t248.length co25 : Value).ownBlock) ∧ some k_ ≠ (.slice Ao38 t257.length co38 : Value).ownBlock)) (n := t252.length) (c := co31) ?_).2.2; exact (by (with_reducible repeat (first | apply Kd.R_alloc | apply Kd.R_drewN | apply Kd.R_drew)); exact (Kd.R_mono (Kd.R_far (p := ⟨gb261, 0, none⟩) (Kd.R_types HO254.out BK261.out (by decide)) (fun _ hk => hk.2) (.slice Ao38 t257.length co38)) (fun _ h_ => h_.1)))); (case side2 => exact (Kd.R_reads' HO254.out).2.1); (case side3 => refine (Kd.R_reads' (e := 34) (base := w.heap.size) (ok := fun k_ => ((True ∧ some k_ ≠ (.slice Ao25 t248.length co25 : Value).ownBlock) ∧ some k_ ≠ (.slice Ao31 t252.length co31 : Value).ownBlock)) (n := t257.length) (c := co38) ?_).2.2; exact (by (with_reducible repeat (first | apply Kd.R_alloc | apply Kd.R_drewN | apply Kd.R_drew)); exact (Kd.R_mono (Kd.R_far (p := ⟨gb261, 0, none⟩) (Kd.R_types HO259.out BK261.out (by decide)) (fun _ hk => hk.2) (.slice Ao38 t257.length co38)) (fun _ h_ => h_.1)))); (case side4 => exact (Kd.R_reads' HO259.out).2.1); rintro e w52 ⟨rfl, hb⟩; refine ⟨_, rfl, ?_⟩; have n0_ := Aside0.mk (Kd.R_below (by (with_reducible repeat (first | apply Kd.R_alloc | apply Kd.R_drewN | apply Kd.R_drew)); exact (Kd.R_mono (Kd.R_far (p := ⟨gb261, 0, none⟩) (Kd.R_types HO250.out BK261.out (by decide)) (fun _ hk => hk.2) (.slice Ao38 t257.length co38)) (fun _ h_ => h_.1))) hb); have n1_ := Aside0.mk (Kd.R_below (by (with_reducible repeat (first | apply Kd.R_alloc | apply Kd.R_drewN | apply Kd.R_drew)); exact (Kd.R_mono (Kd.R_far (p := ⟨gb261, 0, none⟩) (Kd.R_types HO254.out BK261.out (by decide)) (fun _ hk => hk.2) (.slice Ao38 t257.length co38)) (fun _ h_ => h_.1))) hb); have n2_ := Aside0.mk (Kd.R_below (by (with_reducible repeat (first | apply Kd.R_alloc | apply Kd.R_drewN | apply Kd.R_drew)); exact (Kd.R_mono (Kd.R_far (p := ⟨gb261, 0, none⟩) (Kd.R_types HO259.out BK261.out (by decide)) (fun _ hk => hk.2) (.slice Ao38 t257.length co38)) (fun _ h_ => h_.1))) hb); have n3_ := Aside0.mk (blk_below (g := gb244) (o := .cells #[.slice A0_0 l0_0.length c0_0] 24 (0, 0)) (by (with_reducible repeat first | apply blk_drewN | apply blk_drew | apply blk_alloc); refine blk_far ?_ NB244_261.out _; (with_reducible repeat first | apply blk_drewN | apply blk_drew | apply blk_alloc); exact BK244.out) hb); have n4_ := Aside0.mk (blk_below (g := gb251) (o := .cells #[.slice Ao25 t248.length co25] 24 (0, 0)) (by (with_reducible repeat first | apply blk_drewN | apply blk_drew | apply blk_alloc); refine blk_far ?_ NB251_261.out _; (with_reducible repeat first | apply blk_drewN | apply blk_drew | apply blk_alloc); exact BK251.out) hb); have n5_ := Aside0.mk (blk_below (g := gb256) (o := .cells #[.slice Ao31 t252.length co31] 24 (0, 0)) (by (with_reducible repeat first | apply blk_drewN | apply blk_drew | apply blk_alloc); refine blk_far ?_ NB256_261.out _; (with_reducible repeat first | apply blk_drewN | apply blk_drew | apply blk_alloc); exact BK256.out) hb); have n6_ := Aside0.mk (blk_below (g := gb261) (o := .cells #[.slice Ao38 t257.length co38] 24 (0, 0)) (by (with_reducible repeat first | apply blk_drewN | apply blk_drew | apply blk_alloc); refine blk_put (cs := #[.slice none 0 0]) ?_ 0 _ rfl; (with_reducible repeat first | apply blk_drewN | apply blk_drew | apply blk_alloc); exact BK261.out) hb); have n7_ := Aside0.mk (below_step (by repeat (first | (with_reducible first | exact HB.out | apply below_alloc | apply pw_below_drewN | apply below_drew1 | refine below_set ?_ GE244.out | refine below_set ?_ GE251.out | refine below_set ?_ GE256.out | refine below_set ?_ GE261.out) | exact HB.out)) hb); clear HO250; clear HO254; clear HO259; clear BK244; clear BK251; clear BK256; clear BK261; clear HB; have HO250 := n0_; have HO254 := n1_; have HO259 := n2_; have BK244 := n3_; have BK251 := n4_; have BK256 := n5_; have BK261 := n6_; have HB := n7_; clear n0_ n1_ n2_ n3_ n4_ n5_ n6_ n7_; (try clear hb); (try clear hb2); (try clear hk); (try clear hi); (try clear A43)))
      go_meet
      case rel => exact ⟨_, ((t255 != t260)), (by first | rfl | (simp; done) | (simp [*]; done) | (simp [Int.tdiv_eq_ediv_of_nonneg]; done)), H', ⟨by have := HJ5.out; first | omega | exact Nat.le_refl _⟩, ⟨by (with_reducible repeat (first | apply Kd.R_alloc | apply Kd.R_drewN | apply Kd.R_drew)); exact Kd.R_mono HO250.out (fun _ hk => ⟨hk.1.2, hk.2⟩)⟩, ⟨by (with_reducible repeat (first | apply Kd.R_alloc | apply Kd.R_drewN | apply Kd.R_drew)); exact Kd.R_mono HO254.out (fun _ hk => ⟨hk.1.2, hk.2⟩)⟩, ⟨by (with_reducible repeat (first | apply Kd.R_alloc | apply Kd.R_drewN | apply Kd.R_drew)); exact Kd.R_mono HO259.out (fun _ hk => ⟨hk.1.2, hk.2⟩)⟩, ⟨by (with_reducible repeat first | apply blk_drewN | apply blk_drew | apply blk_alloc); exact BK244.out⟩, ⟨by (with_reducible repeat first | apply blk_drewN | apply blk_drew | apply blk_alloc); exact BK251.out⟩, ⟨by (with_reducible repeat first | apply blk_drewN | apply blk_drew | apply blk_alloc); exact BK256.out⟩, ⟨by (with_reducible repeat first | apply blk_drewN | apply blk_drew | apply blk_alloc); exact BK261.out⟩, ⟨by repeat (first | (with_reducible first | exact HB.out | apply below_alloc | apply pw_below_drewN | apply below_drew1 | refine below_set ?_ GE244.out | refine below_set ?_ GE251.out | refine below_set ?_ GE256.out | refine below_set ?_ GE261.out) | exact HB.out)⟩⟩
     ·replace c44 := Bool.eq_false_iff.mpr c44
      subst c44
      have H1 : (atticlaw14_TablePuts.j1 kj5 a1 a3 a4 true l0_0 t248 t252) = some r := by rw [if_neg (show ¬ (false = true) by decide)] at H; exact H
      clear H
      have H := H1
      clear H1
      have H' := Aside0.mk H
      clear H
      have hnb53 := NB256_244.out
      have hnc53 := NB244_256.out
      have hnb54 := NB256_251.out
      have hnc54 := NB251_256.out
      have hnb55 := NB256_261.out
      have hnc55 := NB261_256.out
      have hcz56_0 : w37.cell? ⟨gb256, 0, none⟩ = some (.slice Ao31 t252.length co31) := (blk_cell BK256.out 0).trans rfl
      have hfz56_0 := blk_frozen BK256.out 0
      have hnb57 := NB261_244.out
      have hnc57 := NB244_261.out
      have hnb58 := NB261_251.out
      have hnc58 := NB251_261.out
      have hcz59_0 : w37.cell? ⟨gb261, 0, none⟩ = some (.slice none 0 0) := (blk_cell BK261.out 0).trans rfl
      have hfz59_0 := blk_frozen BK261.out 0
      go_wp2_with (first | ((with_reducible refine gate_callee (f := 13) rfl ?_); refine goesL_ (some 47) rfl rfl Try.func13 (by kernel_rfl) rfl #[.agg #[.slice Ao31 t252.length co31], .agg #[.slice Ao38 t257.length co38]] rfl (by (try simp only [List.map_toArray, List.map_cons, List.map_nil]); first | done | rfl | (simp only [List.length_drop, List.length_take]; rfl)) ?_; (with_reducible refine (atticref14_Same.calls kj5 _ _ t252 _ _ t257 false _ ?side1 ?side2 ?side3 ?side4 A43.out).mono ?_); (case side1 => refine (Kd.R_reads' (e := 34) (base := w.heap.size) (ok := fun k_ => ((True ∧ some k_ ≠ (.slice Ao25 t248.length co25 : Value).ownBlock) ∧ some k_ ≠ (.slice Ao38 t257.length co38 : Value).ownBlock)) (n := t252.length) (c := co31) ?_).2.2; exact (by (with_reducible repeat (first | apply Kd.R_alloc | apply Kd.R_drewN | apply Kd.R_drew)); exact (Kd.R_mono (Kd.R_far (p := ⟨gb261, 0, none⟩) (Kd.R_types HO254.out BK261.out (by decide)) (fun _ hk => hk.2) (.slice Ao38 t257.length co38)) (fun _ h_ => h_.1)))); (case side2 => exact (Kd.R_reads' HO254.out).2.1); (case side3 => refine (Kd.R_reads' (e := 34) (base := w.heap.size) (ok := fun k_ => ((True ∧ some k_ ≠ (.slice Ao25 t248.length co25 : Value).ownBlock) ∧ some k_ ≠ (.slice Ao31 t252.length co31 : Value).ownBlock)) (n := t257.length) (c := co38) ?_).2.2; exact (by (with_reducible repeat (first | apply Kd.R_alloc | apply Kd.R_drewN | apply Kd.R_drew)); exact (Kd.R_mono (Kd.R_far (p := ⟨gb261, 0, none⟩) (Kd.R_types HO259.out BK261.out (by decide)) (fun _ hk => hk.2) (.slice Ao38 t257.length co38)) (fun _ h_ => h_.1)))); (case side4 => exact (Kd.R_reads' HO259.out).2.1); rintro e w60 ⟨rfl, hb⟩; refine ⟨_, rfl, ?_⟩; have n0_ := Aside0.mk (Kd.R_below (by (with_reducible repeat (first | apply Kd.R_alloc | apply Kd.R_drewN | apply Kd.R_drew)); exact (Kd.R_mono (Kd.R_far (p := ⟨gb261, 0, none⟩) (Kd.R_types HO250.out BK261.out (by decide)) (fun _ hk => hk.2) (.slice Ao38 t257.length co38)) (fun _ h_ => h_.1))) hb); have n1_ := Aside0.mk (Kd.R_below (by (with_reducible repeat (first | apply Kd.R_alloc | apply Kd.R_drewN | apply Kd.R_drew)); exact (Kd.R_mono (Kd.R_far (p := ⟨gb261, 0, none⟩) (Kd.R_types HO254.out BK261.out (by decide)) (fun _ hk => hk.2) (.slice Ao38 t257.length co38)) (fun _ h_ => h_.1))) hb); have n2_ := Aside0.mk (Kd.R_below (by (with_reducible repeat (first | apply Kd.R_alloc | apply Kd.R_drewN | apply Kd.R_drew)); exact (Kd.R_mono (Kd.R_far (p := ⟨gb261, 0, none⟩) (Kd.R_types HO259.out BK261.out (by decide)) (fun _ hk => hk.2) (.slice Ao38 t257.length co38)) (fun _ h_ => h_.1))) hb); have n3_ := Aside0.mk (blk_below (g := gb244) (o := .cells #[.slice A0_0 l0_0.length c0_0] 24 (0, 0)) (by (with_reducible repeat first | apply blk_drewN | apply blk_drew | apply blk_alloc); refine blk_far ?_ NB244_261.out _; (with_reducible repeat first | apply blk_drewN | apply blk_drew | apply blk_alloc); exact BK244.out) hb); have n4_ := Aside0.mk (blk_below (g := gb251) (o := .cells #[.slice Ao25 t248.length co25] 24 (0, 0)) (by (with_reducible repeat first | apply blk_drewN | apply blk_drew | apply blk_alloc); refine blk_far ?_ NB251_261.out _; (with_reducible repeat first | apply blk_drewN | apply blk_drew | apply blk_alloc); exact BK251.out) hb); have n5_ := Aside0.mk (blk_below (g := gb256) (o := .cells #[.slice Ao31 t252.length co31] 24 (0, 0)) (by (with_reducible repeat first | apply blk_drewN | apply blk_drew | apply blk_alloc); refine blk_far ?_ NB256_261.out _; (with_reducible repeat first | apply blk_drewN | apply blk_drew | apply blk_alloc); exact BK256.out) hb); have n6_ := Aside0.mk (blk_below (g := gb261) (o := .cells #[.slice Ao38 t257.length co38] 24 (0, 0)) (by (with_reducible repeat first | apply blk_drewN | apply blk_drew | apply blk_alloc); refine blk_put (cs := #[.slice none 0 0]) ?_ 0 _ rfl; (with_reducible repeat first | apply blk_drewN | apply blk_drew | apply blk_alloc); exact BK261.out) hb); have n7_ := Aside0.mk (below_step (by repeat (first | (with_reducible first | exact HB.out | apply below_alloc | apply pw_below_drewN | apply below_drew1 | refine below_set ?_ GE244.out | refine below_set ?_ GE251.out | refine below_set ?_ GE256.out | refine below_set ?_ GE261.out) | exact HB.out)) hb); clear HO250; clear HO254; clear HO259; clear BK244; clear BK251; clear BK256; clear BK261; clear HB; have HO250 := n0_; have HO254 := n1_; have HO259 := n2_; have BK244 := n3_; have BK251 := n4_; have BK256 := n5_; have BK261 := n6_; have HB := n7_; clear n0_ n1_ n2_ n3_ n4_ n5_ n6_ n7_; (try clear hb); (try clear hb2); (try clear hk); (try clear hi); (try clear A43)))
      go_meet
      case rel => exact ⟨_, (true), (by first | rfl | (simp; done) | (simp [*]; done) | (simp [Int.tdiv_eq_ediv_of_nonneg]; done)), H', ⟨by have := HJ5.out; first | omega | exact Nat.le_refl _⟩, ⟨by (with_reducible repeat (first | apply Kd.R_alloc | apply Kd.R_drewN | apply Kd.R_drew)); exact Kd.R_mono HO250.out (fun _ hk => ⟨hk.1.2, hk.2⟩)⟩, ⟨by (with_reducible repeat (first | apply Kd.R_alloc | apply Kd.R_drewN | apply Kd.R_drew)); exact Kd.R_mono HO254.out (fun _ hk => ⟨hk.1.2, hk.2⟩)⟩, ⟨by (with_reducible repeat (first | apply Kd.R_alloc | apply Kd.R_drewN | apply Kd.R_drew)); exact Kd.R_mono HO259.out (fun _ hk => ⟨hk.1.2, hk.2⟩)⟩, ⟨by (with_reducible repeat first | apply blk_drewN | apply blk_drew | apply blk_alloc); exact BK244.out⟩, ⟨by (with_reducible repeat first | apply blk_drewN | apply blk_drew | apply blk_alloc); exact BK251.out⟩, ⟨by (with_reducible repeat first | apply blk_drewN | apply blk_drew | apply blk_alloc); exact BK256.out⟩, ⟨by (with_reducible repeat first | apply blk_drewN | apply blk_drew | apply blk_alloc); exact BK261.out⟩, ⟨by repeat (first | (with_reducible first | exact HB.out | apply below_alloc | apply pw_below_drewN | apply below_drew1 | refine below_set ?_ GE244.out | refine below_set ?_ GE251.out | refine below_set ?_ GE256.out | refine below_set ?_ GE261.out) | exact HB.out)⟩⟩
    case rest =>
     clear HC21
     try clear c1
     try clear c2
     try clear p2
     try clear c3
     try clear c4
     try clear c5
     try clear c8
     try clear c9
     try clear c10
     try clear c11
     try clear c12
     try clear c13
     try clear c15
     try clear c26
     try clear c32
     try clear c33
     try clear c39
     try clear c40
     try clear c41
     try clear c44
     try clear c45
     try clear c46
     try clear c47
     try clear c49
     try clear c50
     try clear c53
     try clear c54
     try clear c55
     try clear c57
     try clear c58
     try clear hcz12_0
     try clear hcz22_0
     try clear hcz27_0
     try clear hcz28_0
     try clear hcz34_0
     try clear hcz35_0
     try clear hcz42_0
     try clear hcz48_0
     try clear hcz51_0
     try clear hcz56_0
     try clear hcz59_0
     try clear hfz12_0
     try clear hfz22_0
     try clear hfz27_0
     try clear hfz28_0
     try clear hfz34_0
     try clear hfz35_0
     try clear hfz42_0
     try clear hfz48_0
     try clear hfz51_0
     try clear hfz56_0
     try clear hfz59_0
     try clear p2
     obtain ⟨kq, x53_20, rfl, HA, HJ20, HO_252000, HO_257000, HO_262000, BK244, BK251, BK256, BK261, HB⟩ := hcut
     cases kq with
     | zero => exact absurd HA.out (by simp [atticlaw14_TablePuts.j1])
     | succ kj20 =>
      have H := HA.out
      clear HA
      simp only [atticlaw14_TablePuts.j1] at H
      by_cases c61 : x53_20 = true
      ·subst c61
       have H1 : (some false) = some r := by rw [if_pos rfl] at H; exact H
       clear H
       have H := H1
       clear H1
       exact absurd (Option.some.inj H) (by rw [hrt_.out]; decide)
      ·replace c61 := Bool.eq_false_iff.mpr c61
       subst c61
       have H1 : (atticlaw14_TablePuts.l0 kj20 a1 a3 a4 (t252.length : Int) 0 l0_0 t248 t252) = some r := by rw [if_neg (show ¬ (false = true) by decide)] at H; exact H
       clear H
       have H := H1
       clear H1
       have H' := Aside0.mk H
       clear H
       have hnb62 := NB256_244.out
       have hnc62 := NB244_256.out
       have hnb63 := NB256_251.out
       have hnc63 := NB251_256.out
       have hnb64 := NB256_261.out
       have hnc64 := NB261_256.out
       have hcz65_0 : wc.cell? ⟨gb256, 0, none⟩ = some (.slice Ao31 t252.length co31) := (blk_cell BK256.out 0).trans rfl
       have hfz65_0 := blk_frozen BK256.out 0
       go_wp2
       go_loopg [57] kj20 (fun kq v57 w' => ∃ (x57_3 : Int) (x252000_3 : List (S34)) (x257000_3 : List (S34)) (x262000_3 : List (S34)) (u252000 : Value) (u257000 : Value) (u262000 : Value), v57 = .int .i64 x57_3 ∧ Aside0 (atticlaw14_TablePuts.l0 kq a1 a3 a4 (t252.length : Int) x57_3 l0_0 x252000_3 x257000_3 = some r) ∧ Aside0 (kq ≤ kj20) ∧ Aside0 (Kd.R k34 34 w' w.heap.size (fun k_ => some k_ ≠ (u257000 : Value).ownBlock ∧ some k_ ≠ (u262000 : Value).ownBlock) u252000 x252000_3) ∧ Aside0 (Kd.R k34 34 w' w.heap.size (fun k_ => some k_ ≠ (u252000 : Value).ownBlock ∧ some k_ ≠ (u262000 : Value).ownBlock) u257000 x257000_3) ∧ Aside0 (Kd.R k34 34 w' w.heap.size (fun k_ => some k_ ≠ (u252000 : Value).ownBlock ∧ some k_ ≠ (u257000 : Value).ownBlock) u262000 x262000_3) ∧ Aside0 (w'.heap[gb244]? = some (.cells #[(.slice A0_0 l0_0.length c0_0)] 24 (0, 0))) ∧ Aside0 (w'.heap[gb251]? = some (.cells #[u252000] 24 (0, 0))) ∧ Aside0 (w'.heap[gb256]? = some (.cells #[u257000] 24 (0, 0))) ∧ Aside0 (w'.heap[gb261]? = some (.cells #[u262000] 24 (0, 0))) ∧ Aside0 (Below w.heap.size w w'))
       case atStart => exact ⟨(0), (t248), (t252), (t257), (.slice Ao25 t248.length co25), (.slice Ao31 t252.length co31), (.slice Ao38 t257.length co38), (by first | rfl | (simp; done) | (simp [*]; done) | (simp [Int.tdiv_eq_ediv_of_nonneg]; done)), H', ⟨Nat.le_refl _⟩, ⟨by (with_reducible repeat (first | apply Kd.R_alloc | apply Kd.R_drewN | apply Kd.R_drew)); exact HO_252000.out⟩, ⟨by (with_reducible repeat (first | apply Kd.R_alloc | apply Kd.R_drewN | apply Kd.R_drew)); exact HO_257000.out⟩, ⟨by (with_reducible repeat (first | apply Kd.R_alloc | apply Kd.R_drewN | apply Kd.R_drew)); exact HO_262000.out⟩, ⟨by (with_reducible repeat first | apply blk_drewN | apply blk_drew | apply blk_alloc); exact BK244.out⟩, ⟨by (with_reducible repeat first | apply blk_drewN | apply blk_drew | apply blk_alloc); exact BK251.out⟩, ⟨by (with_reducible repeat first | apply blk_drewN | apply blk_drew | apply blk_alloc); exact BK256.out⟩, ⟨by (with_reducible repeat first | apply blk_drewN | apply blk_drew | apply blk_alloc); exact BK261.out⟩, ⟨by repeat (first | (with_reducible first | exact HB.out | apply below_alloc | apply pw_below_drewN | apply below_drew1 | refine below_set ?_ GE244.out | refine below_set ?_ GE251.out | refine below_set ?_ GE256.out | refine below_set ?_ GE261.out) | exact HB.out)⟩⟩
       case round =>
        clear H'
        try clear c1
        try clear c2
        try clear p2
        try clear c3
        try clear c4
        try clear c5
        try clear c6
        try clear c8
        try clear c9
        try clear c10
        try clear c11
        try clear c12
        try clear c13
        try clear c15
        try clear c26
        try clear c32
        try clear c33
        try clear c39
        try clear c40
        try clear c41
        try clear c44
        try clear c45
        try clear c46
        try clear c47
        try clear c49
        try clear c50
        try clear c53
        try clear c54
        try clear c55
        try clear c57
        try clear c58
        try clear c61
        try clear c62
        try clear c63
        try clear c64
        try clear hcz12_0
        try clear hcz22_0
        try clear hcz27_0
        try clear hcz28_0
        try clear hcz34_0
        try clear hcz35_0
        try clear hcz42_0
        try clear hcz48_0
        try clear hcz51_0
        try clear hcz56_0
        try clear hcz59_0
        try clear hcz65_0
        try clear hfz12_0
        try clear hfz22_0
        try clear hfz27_0
        try clear hfz28_0
        try clear hfz34_0
        try clear hfz35_0
        try clear hfz42_0
        try clear hfz48_0
        try clear hfz51_0
        try clear hfz56_0
        try clear hfz59_0
        try clear hfz65_0
        try clear p2
        obtain ⟨x57_3, x252000_3, x257000_3, x262000_3, u252000, u257000, u262000, rfl, HA, HK3, HO_252000, HO_257000, HO_262000, BK244, BK251, BK256, BK261, HB⟩ := hrel
        cases gk with
        | zero => exact absurd HA.out (by simp [atticlaw14_TablePuts.l0])
        | succ k3 =>
         have H := HA.out
         clear HA
         simp only [atticlaw14_TablePuts.l0] at H
         by_cases c66 : x57_3 < (t252.length : Int)
         ·rw [if_pos c66] at H
          have c66b0 : decide (x57_3 < (t252.length : Int)) = true := decide_eq_true c66
          clear c66
          by_cases c67 : 0 ≤ x57_3
          ·rw [if_pos c67] at H
           have c67b0 : decide (0 ≤ x57_3) = true := decide_eq_true c67
           clear c67
           by_cases c68 : x57_3 < (x257000_3.length : Int)
           ·rw [if_pos c68] at H
            have c68b0 : decide (x57_3 < (x257000_3.length : Int)) = true := decide_eq_true c68
            clear c68
            obtain ⟨y264, hy264⟩ : ∃ y_ : List (S34), y_ = (x257000_3.set (x57_3 : Int).toNat (⟨(rd_T34 x257000_3 x57_3).f0, Go.bits .xor .u32 ((rd_T34 x257000_3 x57_3).f1) 255⟩ : S34)) := ⟨_, rfl⟩
            replace H : (atticlaw14_TablePuts.l0 k3 a1 a3 a4 (t252.length : Int) (wrap64 (x57_3 + 1)) l0_0 x252000_3 y264) = some r := by first | (rw [hy264]; with_reducible exact H) | (have H2_ := (Option.bind_some _ _).symm.trans H; rw [hy264]; with_reducible exact H2_) | (have H2_ := (Option.bind_some _ _).symm.trans H; with_reducible exact H2_) | with_reducible exact H | (rw [hy264]; exact H) | exact H
            have Ny264 := Aside0.mk hy264
            clear hy264
            have H' := Aside0.mk H
            clear H
            have hnb70 := NB256_244.out
            have hnc70 := NB244_256.out
            have hnb71 := NB256_251.out
            have hnc71 := NB251_256.out
            have hnb72 := NB256_261.out
            have hnc72 := NB261_256.out
            have hcz73_0 : wr.cell? ⟨gb256, 0, none⟩ = some (u257000) := (blk_cell BK256.out 0).trans rfl
            have hfz73_0 := blk_frozen BK256.out 0
            obtain ⟨Ao74, co74, eo74⟩ := Kd.R_slice HO_257000.out
            subst eo74
            have p263 : 0 ≤ (x57_3 : Int) := of_decide_eq_true (by first | (with_reducible assumption) | assumption)
            have q263 : x57_3 < (x257000_3.length : Int) := of_decide_eq_true (by first | (with_reducible assumption) | assumption)
            obtain ⟨ad263, e263, hx263_0, hx263_1⟩ := at_T34 (Kd.R_reads' HO_257000.out).2.2 x57_3 p263 q263
            cases e263
            replace p263 := eq_true p263
            replace q263 := eq_true q263
            have p69 : 0 ≤ (x57_3 : Int) := of_decide_eq_true (by first | (with_reducible assumption) | assumption)
            have q69 : (x57_3 : Int) < ((x257000_3.length : Int) : Int) := of_decide_eq_true (by first | (with_reducible assumption) | assumption)
            obtain ⟨go69, co69, eo69, gb69, gl69, cl69, HG69⟩ := Kd.R_form HO_257000.out (by omega)
            (first | cases eo69 | (injection eo69 with ea_ en_ ec_; (first | subst ea_ | (injection ea_ with ea_; subst ea_)); subst ec_; clear en_))
            have GB69 := Aside0.mk gb69
            have GG69 := Aside0.mk HG69
            clear gb69 gl69 HG69
            (first | simp only [add_plain] at hx263_0 | skip)
            (first | simp only [add_plain] at hx263_1 | skip)
            obtain ⟨ce69, hcl69, hM69, hcc69, hfr69⟩ := Kd.R_elem HO_257000.out z34 (x57_3 : Int) p69 q69
            obtain rfl := k34_openM hM69
            have hx69_0 : wr.cell? ⟨go69, (x57_3 : Int).toNat * 2, none⟩ = some (.int .i64 ((rd_T34 x257000_3 x57_3).f0)) := hcc69 0 _ rfl
            have hx69_1 : wr.cell? ⟨go69, (x57_3 : Int).toNat * 2 + 1, none⟩ = some (.int .u32 ((rd_T34 x257000_3 x57_3).f1)) := hcc69 1 _ rfl
            have hf69_0 : wr.frozen? ⟨go69, (x57_3 : Int).toNat * 2, none⟩ = false := hfr69 0
            have hf69_1 : wr.frozen? ⟨go69, (x57_3 : Int).toNat * 2 + 1, none⟩ = false := hfr69 1
            clear hcl69 hcc69 hfr69 hM69
            replace p69 := eq_true p69
            replace q69 := eq_true q69
            have HX75 := Aside0.mk (show Kd.R k34 34 wr w.heap.size (fun k_ => some k_ ≠ (u252000 : Value).ownBlock ∧ some k_ ≠ (u262000 : Value).ownBlock) (.slice (some ⟨go69, 0, none⟩) x257000_3.length co74) x257000_3 from (by (with_reducible repeat (first | apply Kd.R_alloc | apply Kd.R_drewN | apply Kd.R_drew)); exact HO_257000.out))
            obtain ⟨ce75, hcl75, hM75, hcc75, hfr75⟩ := Kd.R_elem HX75.out z34 (x57_3 : Int) (of_decide_eq_true (by first | (with_reducible assumption) | assumption)) (by have h_ : (x57_3 : Int) < ((x257000_3.length : Int) : Int) := of_decide_eq_true (by first | (with_reducible assumption) | assumption); first | exact h_ | (have e_ := (Kd.R_reads' HO_257000.out).1; omega) | simpa using h_)
            obtain rfl := k34_openM hM75
            have HP75 := Kd.R_seg HX75.out (x57_3 : Int) (of_decide_eq_true (by first | (with_reducible assumption) | assumption)) (by have h_ : (x57_3 : Int) < ((x257000_3.length : Int) : Int) := of_decide_eq_true (by first | (with_reducible assumption) | assumption); first | exact h_ | (have e_ := (Kd.R_reads' HO_257000.out).1; omega) | simpa using h_) (seg := [.int .u32 (Go.bits .xor .u32 ((rd_T34 x257000_3 x57_3).f1) 255)]) (j := 1) hcl75 hcc75 (show 2 ≤ 2 from by decide) (x' := (⟨(rd_T34 x257000_3 x57_3).f0, Go.bits .xor .u32 ((rd_T34 x257000_3 x57_3).f1) 255⟩ : S34)) (k34_mkM _ _ _ (⟨(rd_T34 x257000_3 x57_3).f0, Go.bits .xor .u32 ((rd_T34 x257000_3 x57_3).f1) 255⟩ : S34) ) (fun _ hk => hk)
            have hx75_1 := hcc75 1 _ rfl
            (try simp only [show (k34).sz = 2 from rfl, Nat.mul_one, Nat.add_zero] at hx75_1)
            have hf75_1 := hfr75 1
            (try simp only [show (k34).sz = 2 from rfl, Nat.mul_one, Nat.add_zero] at hf75_1)
            clear hcl75 hcc75 hfr75 hM75
            go_wp2_with (first | ((with_reducible refine gate_store (t := 32) (p := 68) rfl ?_); refine store_event (t := 32) (p := 68) (v := ?vo_w76) (w1 := (wr.setCell ⟨go69, (x57_3 : Int).toNat * 2 + 1, none⟩ (.int .u32 (Go.bits .xor .u32 ((rd_T34 x257000_3 x57_3).f1) 255)))) ?hg ?ho ?hn ?hr ?_; (case ho => rfl); (case hg => rfl); (case hn => rfl); (case hr => first | (go_simp; done) | (go_simp; rfl)); intro w76 hw; have hg : wr.grownBy w76 (some go69) := (by rw [hw]; exact HP75.2); have hp_ : Kd.R k34 34 w76 w.heap.size (fun k_ => some k_ ≠ (u252000 : Value).ownBlock ∧ some k_ ≠ (u262000 : Value).ownBlock) (.slice (some ⟨go69, 0, none⟩) x257000_3.length co74) y264 := (by rw [hw, Ny264.out]; exact HP75.1); clear HP75; have n0_ := Aside0.mk (Kd.R_after (v := (.slice (some ⟨go69, 0, none⟩) x257000_3.length co74)) (v1 := (.slice (some ⟨go69, 0, none⟩) x257000_3.length co74)) (ok := (fun k_ => some k_ ≠ (u262000 : Value).ownBlock)) (by (with_reducible repeat (first | apply Kd.R_alloc | apply Kd.R_drewN | apply Kd.R_drew)); exact Kd.R_mono HO_252000.out (fun _ hk => ⟨hk.2, hk.1⟩)) hg (.inl rfl)); have n1_ := Aside0.mk (hp_); have n2_ := Aside0.mk (Kd.R_after (v := (.slice (some ⟨go69, 0, none⟩) x257000_3.length co74)) (v1 := (.slice (some ⟨go69, 0, none⟩) x257000_3.length co74)) (ok := (fun k_ => some k_ ≠ (u252000 : Value).ownBlock)) (by (with_reducible repeat (first | apply Kd.R_alloc | apply Kd.R_drewN | apply Kd.R_drew)); exact HO_262000.out) hg (.inl rfl)); have n3_ := Aside0.mk (blk_grown (g := gb244) (o := .cells #[.slice A0_0 l0_0.length c0_0] 24 (0, 0)) (by (with_reducible repeat first | apply blk_drewN | apply blk_drew | apply blk_alloc); exact BK244.out) hg (Kd.R_ne HO_257000.out BK244.out (by decide))); have n4_ := Aside0.mk (blk_grown (g := gb251) (o := .cells #[u252000] 24 (0, 0)) (by (with_reducible repeat first | apply blk_drewN | apply blk_drew | apply blk_alloc); exact BK251.out) hg (Kd.R_ne HO_257000.out BK251.out (by decide))); have n5_ := Aside0.mk (blk_grown (g := gb256) (o := .cells #[.slice (some ⟨go69, 0, none⟩) x257000_3.length co74] 24 (0, 0)) (by (with_reducible repeat first | apply blk_drewN | apply blk_drew | apply blk_alloc); exact BK256.out) hg (Kd.R_ne HO_257000.out BK256.out (by decide))); have n6_ := Aside0.mk (blk_grown (g := gb261) (o := .cells #[u262000] 24 (0, 0)) (by (with_reducible repeat first | apply blk_drewN | apply blk_drew | apply blk_alloc); exact BK261.out) hg (Kd.R_ne HO_257000.out BK261.out (by decide))); have n7_ := Aside0.mk ((by rw [hw]; exact below_set (HB.out) GB69.out : Below w.heap.size w w76)); clear HO_252000; clear HO_257000; clear HO_262000; clear BK244; clear BK251; clear BK256; clear BK261; clear HB; have HO_252000 := n0_; have HO_257000 := n1_; have HO_262000 := n2_; have BK244 := n3_; have BK251 := n4_; have BK256 := n5_; have BK261 := n6_; have HB := n7_; clear n0_ n1_ n2_ n3_ n4_ n5_ n6_ n7_; clear hg hw hp_))
            go_roundg k3
            case measure => have := HJ5.out; have := HJ20.out; have := HK3.out; omega
            case rel => exact ⟨(wrap64 (x57_3 + 1)), (x252000_3), (y264), (x262000_3), (u252000), (.slice (some ⟨go69, 0, none⟩) x257000_3.length co74), (u262000), (by first | rfl | (simp; done) | (simp [*]; done) | (simp [Int.tdiv_eq_ediv_of_nonneg]; done)), H', ⟨by have := HJ5.out; have := HJ20.out; have := HK3.out; omega⟩, ⟨by (with_reducible repeat (first | apply Kd.R_alloc | apply Kd.R_drewN | apply Kd.R_drew)); exact Kd.R_mono HO_252000.out (fun _ hk => ⟨hk.2, hk.1⟩)⟩, ⟨by (with_reducible repeat (first | apply Kd.R_alloc | apply Kd.R_drewN | apply Kd.R_drew)); exact HO_257000.out⟩, ⟨by (with_reducible repeat (first | apply Kd.R_alloc | apply Kd.R_drewN | apply Kd.R_drew)); exact HO_262000.out⟩, ⟨by (with_reducible repeat first | apply blk_drewN | apply blk_drew | apply blk_alloc); exact BK244.out⟩, ⟨by (with_reducible repeat first | apply blk_drewN | apply blk_drew | apply blk_alloc); exact BK251.out⟩, ⟨by (with_reducible repeat first | apply blk_drewN | apply blk_drew | apply blk_alloc); exact BK256.out⟩, ⟨by (with_reducible repeat first | apply blk_drewN | apply blk_drew | apply blk_alloc); exact BK261.out⟩, ⟨by repeat (first | (with_reducible first | exact HB.out | apply below_alloc | apply pw_below_drewN | apply below_drew1 | refine below_set ?_ GE244.out | refine below_set ?_ GE251.out | refine below_set ?_ GE256.out | refine below_set ?_ GE261.out) | exact HB.out)⟩⟩
           ·rw [if_neg c68] at H
            exact absurd H (by simp)
          ·rw [if_neg c67] at H
           exact absurd H (by simp)
         ·rw [if_neg c66] at H
          have c66b0 : decide (x57_3 < (t252.length : Int)) = false := decide_eq_false c66
          clear c66
          replace H := Option.bind_eq_some_iff.mp H
          obtain ⟨⟨t265, t268⟩, A770, H⟩ := H
          replace H : ((atticref14_Put.f k3 l0_0 a1 a3 a4).bind fun bt269 => ((atticref14_Same.f k3 t265 bt269.1).bind fun t273 => (if t273 = true then (if t268 = bt269.2 then ((table_Taken.f k3 l0_0 a1 a3).bind fun t274 => ((atticref14_Taken.f k3 l0_0 a1 a3).bind fun t275 => (atticlaw14_TablePuts.j3 k3 (t274 != t275) l0_0 x252000_3))) else (atticlaw14_TablePuts.j3 k3 true l0_0 x252000_3)) else (atticlaw14_TablePuts.j3 k3 true l0_0 x252000_3)))) = some r := H
          have A77 := Aside0.mk A770
          clear A770
          replace H := Option.bind_eq_some_iff.mp H
          obtain ⟨⟨t269, t272⟩, A780, H⟩ := H
          replace H : ((atticref14_Same.f k3 t265 t269).bind fun t273 => (if t273 = true then (if t268 = t272 then ((table_Taken.f k3 l0_0 a1 a3).bind fun t274 => ((atticref14_Taken.f k3 l0_0 a1 a3).bind fun t275 => (atticlaw14_TablePuts.j3 k3 (t274 != t275) l0_0 x252000_3))) else (atticlaw14_TablePuts.j3 k3 true l0_0 x252000_3)) else (atticlaw14_TablePuts.j3 k3 true l0_0 x252000_3))) = some r := H
          have A78 := Aside0.mk A780
          clear A780
          have HC79 := Aside0.mk H
          clear H
          have hnb80 := NB244_251.out
          have hnc80 := NB251_244.out
          have hnb81 := NB244_256.out
          have hnc81 := NB256_244.out
          have hnb82 := NB244_261.out
          have hnc82 := NB261_244.out
          have hcz83_0 : wr.cell? ⟨gb244, 0, none⟩ = some (.slice A0_0 l0_0.length c0_0) := (blk_cell BK244.out 0).trans rfl
          have hfz83_0 := blk_frozen BK244.out 0
          go_upto_region 15 with (first | ((with_reducible refine gate_callee (f := 14) rfl ?_); refine goesL_ (some 75) rfl rfl Try.func14 (by kernel_rfl) rfl #[.agg #[.slice A0_0 l0_0.length c0_0], .int .i64 a1, .int .i64 a3, .bool a4] rfl (by (try simp only [List.map_toArray, List.map_cons, List.map_nil]); first | done | rfl | (simp only [List.length_drop, List.length_take]; rfl)) ?_; (with_reducible refine (table_Put.calls k3 _ _ l0_0 a1 a3 a4 t265 t268 _ ?side1 ?side2 A77.out).mono ?_); (case side1 => repeat (first | exact (Kd.C_below HR0_0.out HB.out) | (with_reducible refine Kd.C_alloc ?_ _) | (with_reducible refine Kd.C_drewN ?_ _) | (with_reducible refine Kd.C_drew ?_))); (case side2 => exact HC0_0.out); rintro e w84 ⟨v266, rfl, ho0, hb⟩; refine ⟨_, rfl, ?_⟩; have n0_ := Aside0.mk (Kd.R_elder' (by (with_reducible repeat (first | apply Kd.R_alloc | apply Kd.R_drewN | apply Kd.R_drew)); exact HO_252000.out) (Kd.R_base ho0) hb); have n1_ := Aside0.mk (Kd.R_elder' (by (with_reducible repeat (first | apply Kd.R_alloc | apply Kd.R_drewN | apply Kd.R_drew)); exact HO_257000.out) (Kd.R_base ho0) hb); have n2_ := Aside0.mk (Kd.R_elder' (by (with_reducible repeat (first | apply Kd.R_alloc | apply Kd.R_drewN | apply Kd.R_drew)); exact HO_262000.out) (Kd.R_base ho0) hb); have n3_ := Aside0.mk (Kd.R_lower (Kd.R_new' (Kd.R_new' (Kd.R_new' ho0 (Kd.R_lt (by (with_reducible repeat (first | apply Kd.R_alloc | apply Kd.R_drewN | apply Kd.R_drew)); exact HO_252000.out))) (Kd.R_lt (by (with_reducible repeat (first | apply Kd.R_alloc | apply Kd.R_drewN | apply Kd.R_drew)); exact HO_257000.out))) (Kd.R_lt (by (with_reducible repeat (first | apply Kd.R_alloc | apply Kd.R_drewN | apply Kd.R_drew)); exact HO_262000.out))) (below_size (by repeat (first | (with_reducible first | exact HB.out | apply below_alloc | apply pw_below_drewN | apply below_drew1 | refine below_set ?_ GE244.out | refine below_set ?_ GE251.out | refine below_set ?_ GE256.out | refine below_set ?_ GE261.out) | exact HB.out)))); have n4_ := Aside0.mk (blk_below (g := gb244) (o := .cells #[.slice A0_0 l0_0.length c0_0] 24 (0, 0)) (by (with_reducible repeat first | apply blk_drewN | apply blk_drew | apply blk_alloc); exact BK244.out) hb); have n5_ := Aside0.mk (blk_below (g := gb251) (o := .cells #[u252000] 24 (0, 0)) (by (with_reducible repeat first | apply blk_drewN | apply blk_drew | apply blk_alloc); exact BK251.out) hb); have n6_ := Aside0.mk (blk_below (g := gb256) (o := .cells #[u257000] 24 (0, 0)) (by (with_reducible repeat first | apply blk_drewN | apply blk_drew | apply blk_alloc); exact BK256.out) hb); have n7_ := Aside0.mk (blk_below (g := gb261) (o := .cells #[u262000] 24 (0, 0)) (by (with_reducible repeat first | apply blk_drewN | apply blk_drew | apply blk_alloc); exact BK261.out) hb); have n8_ := Aside0.mk (below_step (by repeat (first | (with_reducible first | exact HB.out | apply below_alloc | apply pw_below_drewN | apply below_drew1 | refine below_set ?_ GE244.out | refine below_set ?_ GE251.out | refine below_set ?_ GE256.out | refine below_set ?_ GE261.out) | exact HB.out)) hb); clear HO_252000; clear HO_257000; clear HO_262000; clear BK244; clear BK251; clear BK256; clear BK261; clear HB; have HO_252000 := n0_; have HO_257000 := n1_; have HO_262000 := n2_; have HO267 := n3_; have BK244 := n4_; have BK251 := n5_; have BK256 := n6_; have BK261 := n7_; have HB := n8_; clear n0_ n1_ n2_ n3_ n4_ n5_ n6_ n7_ n8_; (try clear hb); (try clear hb2); (try clear hk); (try clear hi); (try clear ho0); (try clear A77); obtain ⟨Ao85, co85, eo85⟩ := Kd.R_slice HO267.out; subst eo85; have hnb86 := NB256_251.out; have hnc86 := NB251_256.out; have hnb87 := NB256_261.out; have hnc87 := NB261_256.out; have hcz88_0 : w84.cell? ⟨gb256, 0, none⟩ = some (u257000) := (blk_cell BK256.out 0).trans rfl; have hfz88_0 := blk_frozen BK256.out 0; have hcz89_0 : w84.cell? ⟨gb244, 0, none⟩ = some (.slice A0_0 l0_0.length c0_0) := (blk_cell BK244.out 0).trans rfl; have hfz89_0 := blk_frozen BK244.out 0) | ((with_reducible refine gate_callee (f := 15) rfl ?_); refine goesL_ (some 83) rfl rfl Try.func15 (by kernel_rfl) rfl #[.agg #[.slice A0_0 l0_0.length c0_0], .int .i64 a1, .int .i64 a3, .bool a4] rfl (by (try simp only [List.map_toArray, List.map_cons, List.map_nil]); first | done | rfl | (simp only [List.length_drop, List.length_take]; rfl)) ?_; (with_reducible refine (atticref14_Put.calls k3 _ _ l0_0 a1 a3 a4 t269 t272 _ ?side1 ?side2 A78.out).mono ?_); (case side1 => exact Kd.C_below HR0_0.out (by repeat (first | (with_reducible first | exact HB.out | apply below_alloc | apply pw_below_drewN | apply below_drew1 | refine below_set ?_ GE244.out | refine below_set ?_ GE251.out | refine below_set ?_ GE256.out | refine below_set ?_ GE261.out) | exact HB.out))); (case side2 => exact HC0_0.out); rintro e w90 ⟨v270, rfl, ho0, hb⟩; refine ⟨_, rfl, ?_⟩; have n0_ := Aside0.mk (Kd.R_elder' (by (with_reducible repeat (first | apply Kd.R_alloc | apply Kd.R_drewN | apply Kd.R_drew)); exact (Kd.R_mono (Kd.R_far (p := ⟨gb256, 0, none⟩) (Kd.R_types HO_252000.out BK256.out (by decide)) (fun _ hk => hk.2) (.slice Ao85 t265.length co85)) (fun _ h_ => h_.1))) (Kd.R_base ho0) hb); have n1_ := Aside0.mk (Kd.R_elder' (by (with_reducible repeat (first | apply Kd.R_alloc | apply Kd.R_drewN | apply Kd.R_drew)); exact (Kd.R_mono (Kd.R_far (p := ⟨gb256, 0, none⟩) (Kd.R_types HO_257000.out BK256.out (by decide)) (fun _ hk => hk.2) (.slice Ao85 t265.length co85)) (fun _ h_ => h_.1))) (Kd.R_base ho0) hb); have n2_ := Aside0.mk (Kd.R_elder' (by (with_reducible repeat (first | apply Kd.R_alloc | apply Kd.R_drewN | apply Kd.R_drew)); exact (Kd.R_mono (Kd.R_far (p := ⟨gb256, 0, none⟩) (Kd.R_types HO_262000.out BK256.out (by decide)) (fun _ hk => hk.2) (.slice Ao85 t265.length co85)) (fun _ h_ => h_.1))) (Kd.R_base ho0) hb); have n3_ := Aside0.mk (Kd.R_elder' (by (with_reducible repeat (first | apply Kd.R_alloc | apply Kd.R_drewN | apply Kd.R_drew)); exact (Kd.R_mono (Kd.R_far (p := ⟨gb256, 0, none⟩) (Kd.R_types HO267.out BK256.out (by decide)) (fun _ hk => hk.2) (.slice Ao85 t265.length co85)) (fun _ h_ => h_.1))) (Kd.R_base ho0) hb); have n4_ := Aside0.mk (Kd.R_lower (Kd.R_new' (Kd.R_new' (Kd.R_new' (Kd.R_new' ho0 (Kd.R_lt (by (with_reducible repeat (first | apply Kd.R_alloc | apply Kd.R_drewN | apply Kd.R_drew)); exact (Kd.R_mono (Kd.R_far (p := ⟨gb256, 0, none⟩) (Kd.R_types HO_252000.out BK256.out (by decide)) (fun _ hk => hk.2) (.slice Ao85 t265.length co85)) (fun _ h_ => h_.1))))) (Kd.R_lt (by (with_reducible repeat (first | apply Kd.R_alloc | apply Kd.R_drewN | apply Kd.R_drew)); exact (Kd.R_mono (Kd.R_far (p := ⟨gb256, 0, none⟩) (Kd.R_types HO_257000.out BK256.out (by decide)) (fun _ hk => hk.2) (.slice Ao85 t265.length co85)) (fun _ h_ => h_.1))))) (Kd.R_lt (by (with_reducible repeat (first | apply Kd.R_alloc | apply Kd.R_drewN | apply Kd.R_drew)); exact (Kd.R_mono (Kd.R_far (p := ⟨gb256, 0, none⟩) (Kd.R_types HO_262000.out BK256.out (by decide)) (fun _ hk => hk.2) (.slice Ao85 t265.length co85)) (fun _ h_ => h_.1))))) (Kd.R_lt (by (with_reducible repeat (first | apply Kd.R_alloc | apply Kd.R_drewN | apply Kd.R_drew)); exact (Kd.R_mono (Kd.R_far (p := ⟨gb256, 0, none⟩) (Kd.R_types HO267.out BK256.out (by decide)) (fun _ hk => hk.2) (.slice Ao85 t265.length co85)) (fun _ h_ => h_.1))))) (below_size (by repeat (first | (with_reducible first | exact HB.out | apply below_alloc | apply pw_below_drewN | apply below_drew1 | refine below_set ?_ GE244.out | refine below_set ?_ GE251.out | refine below_set ?_ GE256.out | refine below_set ?_ GE261.out) | exact HB.out)))); have n5_ := Aside0.mk (blk_below (g := gb244) (o := .cells #[.slice A0_0 l0_0.length c0_0] 24 (0, 0)) (by (with_reducible repeat first | apply blk_drewN | apply blk_drew | apply blk_alloc); refine blk_far ?_ NB244_256.out _; (with_reducible repeat first | apply blk_drewN | apply blk_drew | apply blk_alloc); exact BK244.out) hb); have n6_ := Aside0.mk (blk_below (g := gb251) (o := .cells #[u252000] 24 (0, 0)) (by (with_reducible repeat first | apply blk_drewN | apply blk_drew | apply blk_alloc); refine blk_far ?_ NB251_256.out _; (with_reducible repeat first | apply blk_drewN | apply blk_drew | apply blk_alloc); exact BK251.out) hb); have n7_ := Aside0.mk (blk_below (g := gb256) (o := .cells #[.slice Ao85 t265.length co85] 24 (0, 0)) (by (with_reducible repeat first | apply blk_drewN | apply blk_drew | apply blk_alloc); refine blk_put (cs := #[u257000]) ?_ 0 _ rfl; (with_reducible repeat first | apply blk_drewN | apply blk_drew | apply blk_alloc); exact BK256.out) hb); have n8_ := Aside0.mk (blk_below (g := gb261) (o := .cells #[u262000] 24 (0, 0)) (by (with_reducible repeat first | apply blk_drewN | apply blk_drew | apply blk_alloc); refine blk_far ?_ NB261_256.out _; (with_reducible repeat first | apply blk_drewN | apply blk_drew | apply blk_alloc); exact BK261.out) hb); have n9_ := Aside0.mk (below_step (by repeat (first | (with_reducible first | exact HB.out | apply below_alloc | apply pw_below_drewN | apply below_drew1 | refine below_set ?_ GE244.out | refine below_set ?_ GE251.out | refine below_set ?_ GE256.out | refine below_set ?_ GE261.out) | exact HB.out)) hb); clear HO_252000; clear HO_257000; clear HO_262000; clear HO267; clear BK244; clear BK251; clear BK256; clear BK261; clear HB; have HO_252000 := n0_; have HO_257000 := n1_; have HO_262000 := n2_; have HO267 := n3_; have HO271 := n4_; have BK244 := n5_; have BK251 := n6_; have BK256 := n7_; have BK261 := n8_; have HB := n9_; clear n0_ n1_ n2_ n3_ n4_ n5_ n6_ n7_ n8_ n9_; (try clear hb); (try clear hb2); (try clear hk); (try clear hi); (try clear ho0); (try clear A78); obtain ⟨Ao91, co91, eo91⟩ := Kd.R_slice HO271.out; subst eo91; have hnb92 := NB261_251.out; have hnc92 := NB251_261.out; have hcz93_0 : w90.cell? ⟨gb261, 0, none⟩ = some (u262000) := (blk_cell BK261.out 0).trans rfl; have hfz93_0 := blk_frozen BK261.out 0))
          (try simp only [Act.put, List.setIfInBounds_toArray, List.set_cons_zero, List.set_cons_succ])
          go_cut [105] (fun v105 wc => ∃ (kq : Nat) (x105_78 : Bool), v105 = .bool x105_78 ∧ Aside0 (atticlaw14_TablePuts.j3 kq x105_78 l0_0 x252000_3 = some r) ∧ Aside0 (kq ≤ k3) ∧ Aside0 (Kd.R k34 34 wc w.heap.size (fun k_ => some k_ ≠ ((.slice Ao85 t265.length co85) : Value).ownBlock ∧ some k_ ≠ ((.slice Ao91 t269.length co91) : Value).ownBlock) u252000 x252000_3) ∧ Aside0 (Kd.R k34 34 wc w.heap.size (fun k_ => some k_ ≠ (u252000 : Value).ownBlock ∧ some k_ ≠ ((.slice Ao91 t269.length co91) : Value).ownBlock) (.slice Ao85 t265.length co85) t265) ∧ Aside0 (Kd.R k34 34 wc w.heap.size (fun k_ => some k_ ≠ (u252000 : Value).ownBlock ∧ some k_ ≠ ((.slice Ao85 t265.length co85) : Value).ownBlock) (.slice Ao91 t269.length co91) t269) ∧ Aside0 (wc.heap[gb244]? = some (.cells #[(.slice A0_0 l0_0.length c0_0)] 24 (0, 0))) ∧ Aside0 (wc.heap[gb251]? = some (.cells #[u252000] 24 (0, 0))) ∧ Aside0 (wc.heap[gb256]? = some (.cells #[(.slice Ao85 t265.length co85)] 24 (0, 0))) ∧ Aside0 (wc.heap[gb261]? = some (.cells #[(.slice Ao91 t269.length co91)] 24 (0, 0))) ∧ Aside0 (Below w.heap.size w wc))
          case first =>
           have H := HC79.out
           clear HC79
           replace H := Option.bind_eq_some_iff.mp H
           obtain ⟨t273, A940, H⟩ := H
           replace H : (if t273 = true then (if t268 = t272 then ((table_Taken.f k3 l0_0 a1 a3).bind fun t274 => ((atticref14_Taken.f k3 l0_0 a1 a3).bind fun t275 => (atticlaw14_TablePuts.j3 k3 (t274 != t275) l0_0 x252000_3))) else (atticlaw14_TablePuts.j3 k3 true l0_0 x252000_3)) else (atticlaw14_TablePuts.j3 k3 true l0_0 x252000_3)) = some r := H
           have A94 := Aside0.mk A940
           clear A940
           by_cases c95 : t273 = true
           ·subst c95
            have H1 : (if t268 = t272 then ((table_Taken.f k3 l0_0 a1 a3).bind fun t274 => ((atticref14_Taken.f k3 l0_0 a1 a3).bind fun t275 => (atticlaw14_TablePuts.j3 k3 (t274 != t275) l0_0 x252000_3))) else (atticlaw14_TablePuts.j3 k3 true l0_0 x252000_3)) = some r := by rw [if_pos rfl] at H; exact H
            clear H
            have H := H1
            clear H1
            by_cases c96 : t268 = t272
            ·rw [if_pos c96] at H
             have c96b0 : (t268 == t272) = true := beq_iff_eq.mpr c96
             have c96b1 : (t268 != t272) = false := bne_eq_false_iff_eq.mpr c96
             clear c96
             (first | rw [c96b0] | (simp only [i64_w, i32_w]; rw [c96b0]) | skip)
             replace H := Option.bind_eq_some_iff.mp H
             obtain ⟨t274, A970, H⟩ := H
             replace H : ((atticref14_Taken.f k3 l0_0 a1 a3).bind fun t275 => (atticlaw14_TablePuts.j3 k3 (t274 != t275) l0_0 x252000_3)) = some r := H
             have A97 := Aside0.mk A970
             clear A970
             replace H := Option.bind_eq_some_iff.mp H
             obtain ⟨t275, A980, H⟩ := H
             replace H : (atticlaw14_TablePuts.j3 k3 (t274 != t275) l0_0 x252000_3) = some r := H
             have A98 := Aside0.mk A980
             clear A980
             have H' := Aside0.mk H
             clear H
             try go_wp2
             have n0_ : Aside0 (Kd.R k34 34 (w90.setCell ⟨gb261, 0, none⟩ (.slice Ao91 t269.length co91)) w.heap.size (fun k_ => some k_ ≠ (u257000 : Value).ownBlock ∧ some k_ ≠ (u262000 : Value).ownBlock ∧ some k_ ≠ (.slice Ao85 t265.length co85 : Value).ownBlock ∧ some k_ ≠ (.slice Ao91 t269.length co91 : Value).ownBlock) u252000 x252000_3) := ⟨by (with_reducible repeat (first | apply Kd.R_alloc | apply Kd.R_drewN | apply Kd.R_drew)); exact Kd.R_mono (Kd.R_far (p := ⟨gb261, 0, none⟩) (Kd.R_types HO_252000.out BK261.out (by decide)) (fun _ hk => hk.2) (.slice Ao91 t269.length co91)) (fun _ hk => ⟨hk.1.1.1.1, ⟨hk.1.1.1.2, ⟨hk.1.1.2, hk.1.2⟩⟩⟩)⟩
             have n1_ : Aside0 (Kd.R k34 34 (w90.setCell ⟨gb261, 0, none⟩ (.slice Ao91 t269.length co91)) w.heap.size (fun k_ => some k_ ≠ (u252000 : Value).ownBlock ∧ some k_ ≠ (u262000 : Value).ownBlock ∧ some k_ ≠ (.slice Ao85 t265.length co85 : Value).ownBlock ∧ some k_ ≠ (.slice Ao91 t269.length co91 : Value).ownBlock) u257000 x257000_3) := ⟨by (with_reducible repeat (first | apply Kd.R_alloc | apply Kd.R_drewN | apply Kd.R_drew)); exact Kd.R_mono (Kd.R_far (p := ⟨gb261, 0, none⟩) (Kd.R_types HO_257000.out BK261.out (by decide)) (fun _ hk => hk.2) (.slice Ao91 t269.length co91)) (fun _ hk => ⟨hk.1.1.1.1, ⟨hk.1.1.1.2, ⟨hk.1.1.2, hk.1.2⟩⟩⟩)⟩
             have n2_ : Aside0 (Kd.R k34 34 (w90.setCell ⟨gb261, 0, none⟩ (.slice Ao91 t269.length co91)) w.heap.size (fun k_ => some k_ ≠ (u252000 : Value).ownBlock ∧ some k_ ≠ (u257000 : Value).ownBlock ∧ some k_ ≠ (.slice Ao85 t265.length co85 : Value).ownBlock ∧ some k_ ≠ (.slice Ao91 t269.length co91 : Value).ownBlock) u262000 x262000_3) := ⟨by (with_reducible repeat (first | apply Kd.R_alloc | apply Kd.R_drewN | apply Kd.R_drew)); exact Kd.R_mono (Kd.R_far (p := ⟨gb261, 0, none⟩) (Kd.R_types HO_262000.out BK261.out (by decide)) (fun _ hk => hk.2) (.slice Ao91 t269.length co91)) (fun _ hk => ⟨hk.1.1.1.1, ⟨hk.1.1.1.2, ⟨hk.1.1.2, hk.1.2⟩⟩⟩)⟩
             have n3_ : Aside0 (Kd.R k34 34 (w90.setCell ⟨gb261, 0, none⟩ (.slice Ao91 t269.length co91)) w.heap.size (fun k_ => some k_ ≠ (u252000 : Value).ownBlock ∧ some k_ ≠ (u257000 : Value).ownBlock ∧ some k_ ≠ (u262000 : Value).ownBlock ∧ some k_ ≠ (.slice Ao91 t269.length co91 : Value).ownBlock) (.slice Ao85 t265.length co85) t265) := ⟨by (with_reducible repeat (first | apply Kd.R_alloc | apply Kd.R_drewN | apply Kd.R_drew)); exact Kd.R_mono (Kd.R_far (p := ⟨gb261, 0, none⟩) (Kd.R_types HO267.out BK261.out (by decide)) (fun _ hk => hk.2) (.slice Ao91 t269.length co91)) (fun _ hk => ⟨hk.1.1.1.1.2, ⟨hk.1.1.1.2, ⟨hk.1.1.2, hk.1.2⟩⟩⟩)⟩
             have n4_ : Aside0 (Kd.R k34 34 (w90.setCell ⟨gb261, 0, none⟩ (.slice Ao91 t269.length co91)) w.heap.size (fun k_ => some k_ ≠ (u252000 : Value).ownBlock ∧ some k_ ≠ (u257000 : Value).ownBlock ∧ some k_ ≠ (u262000 : Value).ownBlock ∧ some k_ ≠ (.slice Ao85 t265.length co85 : Value).ownBlock) (.slice Ao91 t269.length co91) t269) := ⟨by (with_reducible repeat (first | apply Kd.R_alloc | apply Kd.R_drewN | apply Kd.R_drew)); exact Kd.R_mono (Kd.R_far (p := ⟨gb261, 0, none⟩) (Kd.R_types HO271.out BK261.out (by decide)) (fun _ hk => hk.2) (.slice Ao91 t269.length co91)) (fun _ hk => ⟨hk.1.1.1.1.2, ⟨hk.1.1.1.2, ⟨hk.1.1.2, hk.1.2⟩⟩⟩)⟩
             have n5_ : Aside0 ((w90.setCell ⟨gb261, 0, none⟩ (.slice Ao91 t269.length co91)).heap[gb244]? = some (.cells #[.slice A0_0 l0_0.length c0_0] 24 (0, 0))) := ⟨by (with_reducible repeat first | apply blk_drewN | apply blk_drew | apply blk_alloc); refine blk_far ?_ NB244_261.out _; (with_reducible repeat first | apply blk_drewN | apply blk_drew | apply blk_alloc); exact BK244.out⟩
             have n6_ : Aside0 ((w90.setCell ⟨gb261, 0, none⟩ (.slice Ao91 t269.length co91)).heap[gb251]? = some (.cells #[u252000] 24 (0, 0))) := ⟨by (with_reducible repeat first | apply blk_drewN | apply blk_drew | apply blk_alloc); refine blk_far ?_ NB251_261.out _; (with_reducible repeat first | apply blk_drewN | apply blk_drew | apply blk_alloc); exact BK251.out⟩
             have n7_ : Aside0 ((w90.setCell ⟨gb261, 0, none⟩ (.slice Ao91 t269.length co91)).heap[gb256]? = some (.cells #[.slice Ao85 t265.length co85] 24 (0, 0))) := ⟨by (with_reducible repeat first | apply blk_drewN | apply blk_drew | apply blk_alloc); refine blk_far ?_ NB256_261.out _; (with_reducible repeat first | apply blk_drewN | apply blk_drew | apply blk_alloc); exact BK256.out⟩
             have n8_ : Aside0 ((w90.setCell ⟨gb261, 0, none⟩ (.slice Ao91 t269.length co91)).heap[gb261]? = some (.cells #[.slice Ao91 t269.length co91] 24 (0, 0))) := ⟨by (with_reducible repeat first | apply blk_drewN | apply blk_drew | apply blk_alloc); refine blk_put (cs := #[u262000]) ?_ 0 _ rfl; (with_reducible repeat first | apply blk_drewN | apply blk_drew | apply blk_alloc); exact BK261.out⟩
             have n9_ : Aside0 (Below w.heap.size w (w90.setCell ⟨gb261, 0, none⟩ (.slice Ao91 t269.length co91))) := ⟨by repeat (first | (with_reducible first | exact HB.out | apply below_alloc | apply pw_below_drewN | apply below_drew1 | refine below_set ?_ GE244.out | refine below_set ?_ GE251.out | refine below_set ?_ GE256.out | refine below_set ?_ GE261.out) | exact HB.out)⟩
             (try clear HO_252000)
             (try clear HO_257000)
             (try clear HO_262000)
             (try clear HO267)
             (try clear HO271)
             (try clear BK244)
             (try clear BK251)
             (try clear BK256)
             (try clear BK261)
             (try clear HB)
             generalize (w90.setCell ⟨gb261, 0, none⟩ (.slice Ao91 t269.length co91)) = w99 at n0_ n1_ n2_ n3_ n4_ n5_ n6_ n7_ n8_ n9_ ⊢
             have HO_252000 := n0_
             have HO_257000 := n1_
             have HO_262000 := n2_
             have HO267 := n3_
             have HO271 := n4_
             have BK244 := n5_
             have BK251 := n6_
             have BK256 := n7_
             have BK261 := n8_
             have HB := n9_
             clear n0_ n1_ n2_ n3_ n4_ n5_ n6_ n7_ n8_ n9_
             have n0_ := Aside0.mk (Kd.R_drew HO_252000.out)
             have n1_ := Aside0.mk (Kd.R_drew HO_257000.out)
             have n2_ := Aside0.mk (Kd.R_drew HO_262000.out)
             have n3_ := Aside0.mk (Kd.R_drew HO267.out)
             have n4_ := Aside0.mk (Kd.R_drew HO271.out)
             have n5_ := Aside0.mk (blk_drew BK244.out)
             have n6_ := Aside0.mk (blk_drew BK251.out)
             have n7_ := Aside0.mk (blk_drew BK256.out)
             have n8_ := Aside0.mk (blk_drew BK261.out)
             have n9_ := Aside0.mk (below_drew1 HB.out)
             clear HO_252000
             clear HO_257000
             clear HO_262000
             clear HO267
             clear HO271
             clear BK244
             clear BK251
             clear BK256
             clear BK261
             clear HB
             have HO_252000 := n0_
             have HO_257000 := n1_
             have HO_262000 := n2_
             have HO267 := n3_
             have HO271 := n4_
             have BK244 := n5_
             have BK251 := n6_
             have BK256 := n7_
             have BK261 := n8_
             have HB := n9_
             clear n0_ n1_ n2_ n3_ n4_ n5_ n6_ n7_ n8_ n9_
             refine start_ (n := 20) (S := fun w' => w'.cell? ⟨gb256, 0, none⟩ = some (.slice Ao85 t265.length co85) ∧ w'.cell? ⟨gb261, 0, none⟩ = some (.slice Ao91 t269.length co91) ∧ w'.cell? ⟨gb244, 0, none⟩ = some (.slice A0_0 l0_0.length c0_0)) (ds := []) #[false, false, false, false, false, false, false, false, false, false, false, false, false, false, false, false, false, false, false, false] (by kernel_rfl) rfl rfl ⟨(blk_cell BK256.out 0).trans rfl, (blk_cell BK261.out 0).trans rfl, (blk_cell BK244.out 0).trans rfl⟩ (fun hHeld => ?_); refine with_tabW atticlaw14_TablePuts.tab15 atticlaw14_TablePuts.bits15 (fun HT_ HW_ => ?_)
             generalize w99.drew = w100 at HO_252000 HO_257000 HO_262000 HO267 HO271 BK244 BK251 BK256 BK261 HB hHeld ⊢
             refine take_ (i := 0) (N := some 86) (v := ?_) (a' := ?_) #[true, false, false, false, false, false, false, false, false, false, false, false, false, false, false, false, false, false, false, false] rfl rfl (take_ofW HT_.out HW_.out (by kernel_rfl)) (fun _ _ _ h => h) (Or.inl ⟨by rfl, ?_⟩) hHeld ?_ ?_
             rotate_left
             ·rintro w' ⟨s0, s1, s2⟩
              go_simp
              with_reducible rfl
             rotate_left
             ·simp only [Act.put, List.setIfInBounds_toArray, List.set_cons_zero, List.set_cons_succ, i64_w, i32_w]
              rfl
             refine take_ (i := 1) (N := some 87) (v := ?_) (a' := ?_) #[true, true, false, false, false, false, false, false, false, false, false, false, false, false, false, false, false, false, false, false] rfl rfl (take_ofW HT_.out HW_.out (by kernel_rfl)) (fun _ _ _ h => h) (Or.inl ⟨by rfl, ?_⟩) hHeld ?_ ?_
             rotate_left
             ·rintro w' ⟨s0, s1, s2⟩
              go_simp
              with_reducible rfl
             rotate_left
             ·simp only [Act.put, List.setIfInBounds_toArray, List.set_cons_zero, List.set_cons_succ, i64_w, i32_w]
              rfl
             refine one_ (i := 2) (N := some 88) #[true, true, true, false, false, false, false, false, false, false, false, false, false, false, false, false, false, false, false, false] rfl rfl (one_of HT_.out (by kernel_rfl)) (by decide) (fun K hK => ?_)
             refine goes_ Try.func13 (by kernel_rfl) rfl #[.agg #[.slice Ao85 t265.length co85], .agg #[.slice Ao91 t269.length co91]] (by rfl) rfl rfl (by (try simp only [List.map_toArray, List.map_cons, List.map_nil]); first | done | rfl | (simp only [List.length_drop, List.length_take]; rfl)) ?_
             with_reducible refine (atticref14_Same.calls k3 _ _ t265 _ _ t269 true _ ?side1 ?side2 ?side3 ?side4 A94.out).mono ?_
             (case side1 => repeat (first | exact (Kd.R_reads' HO267.out).2.2 | (with_reducible refine Kd.C_alloc ?_ _) | (with_reducible refine Kd.C_drewN ?_ _) | (with_reducible refine Kd.C_drew ?_)))
             (case side2 => exact (Kd.R_reads' HO267.out).2.1)
             (case side3 => repeat (first | exact (Kd.R_reads' HO271.out).2.2 | (with_reducible refine Kd.C_alloc ?_ _) | (with_reducible refine Kd.C_drewN ?_ _) | (with_reducible refine Kd.C_drew ?_)))
             (case side4 => exact (Kd.R_reads' HO271.out).2.1)
             rintro e w101 ⟨rfl, hb⟩
             refine ⟨_, rfl, ?_⟩
             have n0_ := Aside0.mk (Kd.R_below (by (with_reducible repeat (first | apply Kd.R_alloc | apply Kd.R_drewN | apply Kd.R_drew)); exact HO_252000.out) hb)
             have n1_ := Aside0.mk (Kd.R_below (by (with_reducible repeat (first | apply Kd.R_alloc | apply Kd.R_drewN | apply Kd.R_drew)); exact HO_257000.out) hb)
             have n2_ := Aside0.mk (Kd.R_below (by (with_reducible repeat (first | apply Kd.R_alloc | apply Kd.R_drewN | apply Kd.R_drew)); exact HO_262000.out) hb)
             have n3_ := Aside0.mk (Kd.R_below (by (with_reducible repeat (first | apply Kd.R_alloc | apply Kd.R_drewN | apply Kd.R_drew)); exact HO267.out) hb)
             have n4_ := Aside0.mk (Kd.R_below (by (with_reducible repeat (first | apply Kd.R_alloc | apply Kd.R_drewN | apply Kd.R_drew)); exact HO271.out) hb)
             have n5_ := Aside0.mk (blk_below (g := gb244) (o := .cells #[.slice A0_0 l0_0.length c0_0] 24 (0, 0)) (by (with_reducible repeat first | apply blk_drewN | apply blk_drew | apply blk_alloc); exact BK244.out) hb)
             have n6_ := Aside0.mk (blk_below (g := gb251) (o := .cells #[u252000] 24 (0, 0)) (by (with_reducible repeat first | apply blk_drewN | apply blk_drew | apply blk_alloc); exact BK251.out) hb)
             have n7_ := Aside0.mk (blk_below (g := gb256) (o := .cells #[.slice Ao85 t265.length co85] 24 (0, 0)) (by (with_reducible repeat first | apply blk_drewN | apply blk_drew | apply blk_alloc); exact BK256.out) hb)
             have n8_ := Aside0.mk (blk_below (g := gb261) (o := .cells #[.slice Ao91 t269.length co91] 24 (0, 0)) (by (with_reducible repeat first | apply blk_drewN | apply blk_drew | apply blk_alloc); exact BK261.out) hb)
             have n9_ := Aside0.mk (below_step (by repeat (first | (with_reducible first | exact HB.out | apply below_alloc | apply pw_below_drewN | apply below_drew1 | refine below_set ?_ GE244.out | refine below_set ?_ GE251.out | refine below_set ?_ GE256.out | refine below_set ?_ GE261.out) | exact HB.out)) hb)
             clear HO_252000
             clear HO_257000
             clear HO_262000
             clear HO267
             clear HO271
             clear BK244
             clear BK251
             clear BK256
             clear BK261
             clear HB
             have HO_252000 := n0_
             have HO_257000 := n1_
             have HO_262000 := n2_
             have HO267 := n3_
             have HO271 := n4_
             have BK244 := n5_
             have BK251 := n6_
             have BK256 := n7_
             have BK261 := n8_
             have HB := n9_
             clear n0_ n1_ n2_ n3_ n4_ n5_ n6_ n7_ n8_ n9_
             (try clear hb)
             (try clear hb2)
             (try clear hk)
             (try clear hi)
             refine hK.out _ _ ⟨(blk_cell BK256.out 0).trans rfl, (blk_cell BK261.out 0).trans rfl, (blk_cell BK244.out 0).trans rfl⟩ (fun hHeld => ?_)
             clear hK K
             refine norm_ (a' := ?_) ?_ ?_
             rotate_left
             ·show Act.put _ (some 88) _ = _
              simp only [Act.put, List.setIfInBounds_toArray, List.set_cons_zero, List.set_cons_succ, i64_w, i32_w]
              rfl
             refine pure_ (i := 3) (N := some 89) (v := ?_) (a' := ?_) #[true, true, true, true, false, false, false, false, false, false, false, false, false, false, false, false, false, false, false, false] rfl rfl (any_of HT_.out (by kernel_rfl)) (fun _ _ _ h => h) (Or.inl ⟨by rfl, ?_⟩) ?_ ?_
             rotate_left
             ·intro w'
              go_simp
              with_reducible rfl
             rotate_left
             ·simp only [Act.put, List.setIfInBounds_toArray, List.set_cons_zero, List.set_cons_succ, i64_w, i32_w]
              rfl
             refine pure_ (i := 4) (N := some 90) (v := ?_) (a' := ?_) #[true, true, true, true, true, false, false, false, false, false, false, false, false, false, false, false, false, false, false, false] rfl rfl (any_of HT_.out (by kernel_rfl)) (fun _ _ _ h => h) (Or.inl ⟨by rfl, ?_⟩) ?_ ?_
             rotate_left
             ·intro w'
              go_simp
              with_reducible rfl
             rotate_left
             ·simp only [Act.put, List.setIfInBounds_toArray, List.set_cons_zero, List.set_cons_succ, i64_w, i32_w]
              rfl
             refine pure_ (i := 5) (N := some 91) (v := ?_) (a' := ?_) #[true, true, true, true, true, true, false, false, false, false, false, false, false, false, false, false, false, false, false, false] rfl rfl (any_of HT_.out (by kernel_rfl)) (fun _ _ _ h => h) (Or.inl ⟨by rfl, ?_⟩) ?_ ?_
             rotate_left
             ·intro w'
              go_simp
              with_reducible rfl
             rotate_left
             ·simp only [Act.put, List.setIfInBounds_toArray, List.set_cons_zero, List.set_cons_succ, i64_w, i32_w]
              rfl
             refine pure_ (i := 6) (N := some 92) (v := ?_) (a' := ?_) #[true, true, true, true, true, true, true, false, false, false, false, false, false, false, false, false, false, false, false, false] rfl rfl (any_of HT_.out (by kernel_rfl)) (fun _ _ _ h => h) (Or.inl ⟨by rfl, ?_⟩) ?_ ?_
             rotate_left
             ·intro w'
              go_simp
              with_reducible rfl
             rotate_left
             ·simp only [Act.put, List.setIfInBounds_toArray, List.set_cons_zero, List.set_cons_succ, i64_w, i32_w]
              rfl
             refine pure_ (i := 7) (N := some 93) (v := ?_) (a' := ?_) #[true, true, true, true, true, true, true, true, false, false, false, false, false, false, false, false, false, false, false, false] rfl rfl (any_of HT_.out (by kernel_rfl)) (fun _ _ _ h => h) (Or.inl ⟨by rfl, ?_⟩) ?_ ?_
             rotate_left
             ·intro w'
              go_simp
              with_reducible rfl
             rotate_left
             ·simp only [Act.put, List.setIfInBounds_toArray, List.set_cons_zero, List.set_cons_succ, i64_w, i32_w]
              rfl
             refine pure_ (i := 8) (N := some 94) (v := ?_) (a' := ?_) #[true, true, true, true, true, true, true, true, true, false, false, false, false, false, false, false, false, false, false, false] rfl rfl (any_of HT_.out (by kernel_rfl)) (fun _ _ _ h => h) (Or.inl ⟨by rfl, ?_⟩) ?_ ?_
             rotate_left
             ·intro w'
              go_simp
              with_reducible rfl
             rotate_left
             ·simp only [Act.put, List.setIfInBounds_toArray, List.set_cons_zero, List.set_cons_succ, i64_w, i32_w]
              rfl
             refine pure_ (i := 9) (N := some 95) (v := ?_) (a' := ?_) #[true, true, true, true, true, true, true, true, true, true, false, false, false, false, false, false, false, false, false, false] rfl rfl (any_of HT_.out (by kernel_rfl)) (fun _ _ _ h => h) (Or.inl ⟨by rfl, ?_⟩) ?_ ?_
             rotate_left
             ·intro w'
              go_simp
              with_reducible rfl
             rotate_left
             ·simp only [Act.put, List.setIfInBounds_toArray, List.set_cons_zero, List.set_cons_succ, i64_w, i32_w]
              rfl
             refine pure_ (i := 11) (N := some 97) (v := ?_) (a' := ?_) #[true, true, true, true, true, true, true, true, true, true, false, true, false, false, false, false, false, false, false, false] rfl rfl (any_of HT_.out (by kernel_rfl)) (fun _ _ _ h => h) (Or.inl ⟨by rfl, ?_⟩) ?_ ?_
             rotate_left
             ·intro w'
              go_simp
              with_reducible rfl
             rotate_left
             ·simp only [Act.put, List.setIfInBounds_toArray, List.set_cons_zero, List.set_cons_succ, i64_w, i32_w]
              rfl
             refine pure_ (i := 12) (N := some 98) (v := ?_) (a' := ?_) #[true, true, true, true, true, true, true, true, true, true, false, true, true, false, false, false, false, false, false, false] rfl rfl (any_of HT_.out (by kernel_rfl)) (fun _ _ _ h => h) (Or.inl ⟨by rfl, ?_⟩) ?_ ?_
             rotate_left
             ·intro w'
              go_simp
              with_reducible rfl
             rotate_left
             ·simp only [Act.put, List.setIfInBounds_toArray, List.set_cons_zero, List.set_cons_succ, i64_w, i32_w]
              rfl
             refine pure_ (i := 15) (N := some 101) (v := ?_) (a' := ?_) #[true, true, true, true, true, true, true, true, true, true, false, true, true, false, false, true, false, false, false, false] rfl rfl (any_of HT_.out (by kernel_rfl)) (fun _ _ _ h => h) (Or.inl ⟨by rfl, ?_⟩) ?_ ?_
             rotate_left
             ·intro w'
              go_simp
              with_reducible rfl
             rotate_left
             ·simp only [Act.put, List.setIfInBounds_toArray, List.set_cons_zero, List.set_cons_succ, i64_w, i32_w]
              rfl
             refine pure_ (i := 16) (N := some 102) (v := ?_) (a' := ?_) #[true, true, true, true, true, true, true, true, true, true, false, true, true, false, false, true, true, false, false, false] rfl rfl (any_of HT_.out (by kernel_rfl)) (fun _ _ _ h => h) (Or.inl ⟨by rfl, ?_⟩) ?_ ?_
             rotate_left
             ·intro w'
              go_simp
              with_reducible rfl
             rotate_left
             ·simp only [Act.put, List.setIfInBounds_toArray, List.set_cons_zero, List.set_cons_succ, i64_w, i32_w]
              rfl
             refine take_ (i := 10) (N := some 96) (v := ?_) (a' := ?_) #[true, true, true, true, true, true, true, true, true, true, true, true, true, false, false, true, true, false, false, false] rfl rfl (take_ofW HT_.out HW_.out (by kernel_rfl)) (fun _ _ _ h => h) (Or.inl ⟨by rfl, ?_⟩) hHeld ?_ ?_
             rotate_left
             ·rintro w' ⟨s0, s1, s2⟩
              go_simp
              with_reducible rfl
             rotate_left
             ·simp only [Act.put, List.setIfInBounds_toArray, List.set_cons_zero, List.set_cons_succ, i64_w, i32_w]
              rfl
             refine take_ (i := 14) (N := some 100) (v := ?_) (a' := ?_) #[true, true, true, true, true, true, true, true, true, true, true, true, true, false, true, true, true, false, false, false] rfl rfl (take_ofW HT_.out HW_.out (by kernel_rfl)) (fun _ _ _ h => h) (Or.inl ⟨by rfl, ?_⟩) hHeld ?_ ?_
             rotate_left
             ·rintro w' ⟨s0, s1, s2⟩
              go_simp
              with_reducible rfl
             rotate_left
             ·simp only [Act.put, List.setIfInBounds_toArray, List.set_cons_zero, List.set_cons_succ, i64_w, i32_w]
              rfl
             refine one_ (i := 13) (N := some 99) #[true, true, true, true, true, true, true, true, true, true, true, true, true, true, true, true, true, false, false, false] rfl rfl (one_of HT_.out (by kernel_rfl)) (by decide) (fun K hK => ?_)
             refine goes_ Try.func16 (by kernel_rfl) rfl #[.agg #[.slice A0_0 l0_0.length c0_0], .int .i64 a1, .int .i64 a3] (by rfl) rfl rfl (by (try simp only [List.map_toArray, List.map_cons, List.map_nil]); first | done | rfl | (simp only [List.length_drop, List.length_take]; rfl)) ?_
             with_reducible refine (table_Taken.calls k3 _ _ l0_0 a1 a3 t274 _ ?side1 ?side2 A97.out).mono ?_
             (case side1 => repeat (first | exact (Kd.C_below HR0_0.out HB.out) | (with_reducible refine Kd.C_alloc ?_ _) | (with_reducible refine Kd.C_drewN ?_ _) | (with_reducible refine Kd.C_drew ?_)))
             (case side2 => exact HC0_0.out)
             rintro e w102 ⟨rfl, hb⟩
             refine ⟨_, rfl, ?_⟩
             have n0_ := Aside0.mk (Kd.R_below (by (with_reducible repeat (first | apply Kd.R_alloc | apply Kd.R_drewN | apply Kd.R_drew)); exact HO_252000.out) hb)
             have n1_ := Aside0.mk (Kd.R_below (by (with_reducible repeat (first | apply Kd.R_alloc | apply Kd.R_drewN | apply Kd.R_drew)); exact HO_257000.out) hb)
             have n2_ := Aside0.mk (Kd.R_below (by (with_reducible repeat (first | apply Kd.R_alloc | apply Kd.R_drewN | apply Kd.R_drew)); exact HO_262000.out) hb)
             have n3_ := Aside0.mk (Kd.R_below (by (with_reducible repeat (first | apply Kd.R_alloc | apply Kd.R_drewN | apply Kd.R_drew)); exact HO267.out) hb)
             have n4_ := Aside0.mk (Kd.R_below (by (with_reducible repeat (first | apply Kd.R_alloc | apply Kd.R_drewN | apply Kd.R_drew)); exact HO271.out) hb)
             have n5_ := Aside0.mk (blk_below (g := gb244) (o := .cells #[.slice A0_0 l0_0.length c0_0] 24 (0, 0)) (by (with_reducible repeat first | apply blk_drewN | apply blk_drew | apply blk_alloc); exact BK244.out) hb)
             have n6_ := Aside0.mk (blk_below (g := gb251) (o := .cells #[u252000] 24 (0, 0)) (by (with_reducible repeat first | apply blk_drewN | apply blk_drew | apply blk_alloc); exact BK251.out) hb)
             have n7_ := Aside0.mk (blk_below (g := gb256) (o := .cells #[.slice Ao85 t265.length co85] 24 (0, 0)) (by (with_reducible repeat first | apply blk_drewN | apply blk_drew | apply blk_alloc); exact BK256.out) hb)
             have n8_ := Aside0.mk (blk_below (g := gb261) (o := .cells #[.slice Ao91 t269.length co91] 24 (0, 0)) (by (with_reducible repeat first | apply blk_drewN | apply blk_drew | apply blk_alloc); exact BK261.out) hb)
             have n9_ := Aside0.mk (below_step (by repeat (first | (with_reducible first | exact HB.out | apply below_alloc | apply pw_below_drewN | apply below_drew1 | refine below_set ?_ GE244.out | refine below_set ?_ GE251.out | refine below_set ?_ GE256.out | refine below_set ?_ GE261.out) | exact HB.out)) hb)
             clear HO_252000
             clear HO_257000
             clear HO_262000
             clear HO267
             clear HO271
             clear BK244
             clear BK251
             clear BK256
             clear BK261
             clear HB
             have HO_252000 := n0_
             have HO_257000 := n1_
             have HO_262000 := n2_
             have HO267 := n3_
             have HO271 := n4_
             have BK244 := n5_
             have BK251 := n6_
             have BK256 := n7_
             have BK261 := n8_
             have HB := n9_
             clear n0_ n1_ n2_ n3_ n4_ n5_ n6_ n7_ n8_ n9_
             (try clear hb)
             (try clear hb2)
             (try clear hk)
             (try clear hi)
             refine hK.out _ _ ⟨(blk_cell BK256.out 0).trans rfl, (blk_cell BK261.out 0).trans rfl, (blk_cell BK244.out 0).trans rfl⟩ (fun hHeld => ?_)
             clear hK K
             refine norm_ (a' := ?_) ?_ ?_
             rotate_left
             ·show Act.put _ (some 99) _ = _
              simp only [Act.put, List.setIfInBounds_toArray, List.set_cons_zero, List.set_cons_succ, i64_w, i32_w]
              rfl
             refine one_ (i := 17) (N := some 103) #[true, true, true, true, true, true, true, true, true, true, true, true, true, true, true, true, true, true, false, false] rfl rfl (one_of HT_.out (by kernel_rfl)) (by decide) (fun K hK => ?_)
             refine goes_ Try.func17 (by kernel_rfl) rfl #[.agg #[.slice A0_0 l0_0.length c0_0], .int .i64 a1, .int .i64 a3] (by rfl) rfl rfl (by (try simp only [List.map_toArray, List.map_cons, List.map_nil]); first | done | rfl | (simp only [List.length_drop, List.length_take]; rfl)) ?_
             with_reducible refine (atticref14_Taken.calls k3 _ _ l0_0 a1 a3 t275 _ ?side1 ?side2 A98.out).mono ?_
             (case side1 => repeat (first | exact (Kd.C_below HR0_0.out HB.out) | (with_reducible refine Kd.C_alloc ?_ _) | (with_reducible refine Kd.C_drewN ?_ _) | (with_reducible refine Kd.C_drew ?_)))
             (case side2 => exact HC0_0.out)
             rintro e w103 ⟨rfl, hb⟩
             refine ⟨_, rfl, ?_⟩
             have n0_ := Aside0.mk (Kd.R_below (by (with_reducible repeat (first | apply Kd.R_alloc | apply Kd.R_drewN | apply Kd.R_drew)); exact HO_252000.out) hb)
             have n1_ := Aside0.mk (Kd.R_below (by (with_reducible repeat (first | apply Kd.R_alloc | apply Kd.R_drewN | apply Kd.R_drew)); exact HO_257000.out) hb)
             have n2_ := Aside0.mk (Kd.R_below (by (with_reducible repeat (first | apply Kd.R_alloc | apply Kd.R_drewN | apply Kd.R_drew)); exact HO_262000.out) hb)
             have n3_ := Aside0.mk (Kd.R_below (by (with_reducible repeat (first | apply Kd.R_alloc | apply Kd.R_drewN | apply Kd.R_drew)); exact HO267.out) hb)
             have n4_ := Aside0.mk (Kd.R_below (by (with_reducible repeat (first | apply Kd.R_alloc | apply Kd.R_drewN | apply Kd.R_drew)); exact HO271.out) hb)
             have n5_ := Aside0.mk (blk_below (g := gb244) (o := .cells #[.slice A0_0 l0_0.length c0_0] 24 (0, 0)) (by (with_reducible repeat first | apply blk_drewN | apply blk_drew | apply blk_alloc); exact BK244.out) hb)
             have n6_ := Aside0.mk (blk_below (g := gb251) (o := .cells #[u252000] 24 (0, 0)) (by (with_reducible repeat first | apply blk_drewN | apply blk_drew | apply blk_alloc); exact BK251.out) hb)
             have n7_ := Aside0.mk (blk_below (g := gb256) (o := .cells #[.slice Ao85 t265.length co85] 24 (0, 0)) (by (with_reducible repeat first | apply blk_drewN | apply blk_drew | apply blk_alloc); exact BK256.out) hb)
             have n8_ := Aside0.mk (blk_below (g := gb261) (o := .cells #[.slice Ao91 t269.length co91] 24 (0, 0)) (by (with_reducible repeat first | apply blk_drewN | apply blk_drew | apply blk_alloc); exact BK261.out) hb)
             have n9_ := Aside0.mk (below_step (by repeat (first | (with_reducible first | exact HB.out | apply below_alloc | apply pw_below_drewN | apply below_drew1 | refine below_set ?_ GE244.out | refine below_set ?_ GE251.out | refine below_set ?_ GE256.out | refine below_set ?_ GE261.out) | exact HB.out)) hb)
             clear HO_252000
             clear HO_257000
             clear HO_262000
             clear HO267
             clear HO271
             clear BK244
             clear BK251
             clear BK256
             clear BK261
             clear HB
             have HO_252000 := n0_
             have HO_257000 := n1_
             have HO_262000 := n2_
             have HO267 := n3_
             have HO271 := n4_
             have BK244 := n5_
             have BK251 := n6_
             have BK256 := n7_
             have BK261 := n8_
             have HB := n9_
             clear n0_ n1_ n2_ n3_ n4_ n5_ n6_ n7_ n8_ n9_
             (try clear hb)
             (try clear hb2)
             (try clear hk)
             (try clear hi)
             refine hK.out _ _ ⟨(blk_cell BK256.out 0).trans rfl, (blk_cell BK261.out 0).trans rfl, (blk_cell BK244.out 0).trans rfl⟩ (fun hHeld => ?_)
             clear hK K
             refine norm_ (a' := ?_) ?_ ?_
             rotate_left
             ·show Act.put _ (some 103) _ = _
              simp only [Act.put, List.setIfInBounds_toArray, List.set_cons_zero, List.set_cons_succ, i64_w, i32_w]
              rfl
             refine pure_ (i := 18) (N := some 104) (v := ?_) (a' := ?_) #[true, true, true, true, true, true, true, true, true, true, true, true, true, true, true, true, true, true, true, false] rfl rfl (any_of HT_.out (by kernel_rfl)) (fun _ _ _ h => h) (Or.inl ⟨by rfl, ?_⟩) ?_ ?_
             rotate_left
             ·intro w'
              go_simp
              with_reducible rfl
             rotate_left
             ·simp only [Act.put, List.setIfInBounds_toArray, List.set_cons_zero, List.set_cons_succ, i64_w, i32_w]
              rfl
             refine pure_ (i := 19) (N := some 105) (v := ?_) (a' := ?_) #[true, true, true, true, true, true, true, true, true, true, true, true, true, true, true, true, true, true, true, true] rfl rfl (any_of HT_.out (by kernel_rfl)) (fun _ _ _ h => h) (Or.inl ⟨by rfl, ?_⟩) ?_ ?_
             rotate_left
             ·intro w'
              go_simp
              with_reducible rfl
             rotate_left
             ·simp only [Act.put, List.setIfInBounds_toArray, List.set_cons_zero, List.set_cons_succ, i64_w, i32_w]
              rfl
             refine done_ (done_of HT_.out (by kernel_rfl)) ?_
             try go_wp2
             go_meet
             case rel => exact ⟨_, ((t274 != t275)), (by first | rfl | (simp; done) | (simp [*]; done) | (simp [Int.tdiv_eq_ediv_of_nonneg]; done)), H', ⟨by have := HJ5.out; have := HJ20.out; have := HK3.out; first | omega | exact Nat.le_refl _⟩, ⟨by (with_reducible repeat (first | apply Kd.R_alloc | apply Kd.R_drewN | apply Kd.R_drew)); exact Kd.R_mono HO_252000.out (fun _ hk => ⟨hk.2.2.1, hk.2.2.2⟩)⟩, ⟨by (with_reducible repeat (first | apply Kd.R_alloc | apply Kd.R_drewN | apply Kd.R_drew)); exact Kd.R_mono HO267.out (fun _ hk => ⟨hk.1, hk.2.2.2⟩)⟩, ⟨by (with_reducible repeat (first | apply Kd.R_alloc | apply Kd.R_drewN | apply Kd.R_drew)); exact Kd.R_mono HO271.out (fun _ hk => ⟨hk.1, hk.2.2.2⟩)⟩, ⟨by (with_reducible repeat first | apply blk_drewN | apply blk_drew | apply blk_alloc); exact BK244.out⟩, ⟨by (with_reducible repeat first | apply blk_drewN | apply blk_drew | apply blk_alloc); exact BK251.out⟩, ⟨by (with_reducible repeat first | apply blk_drewN | apply blk_drew | apply blk_alloc); exact BK256.out⟩, ⟨by (with_reducible repeat first | apply blk_drewN | apply blk_drew | apply blk_alloc); exact BK261.out⟩, ⟨by repeat (first | (with_reducible first | exact HB.out | apply below_alloc | apply pw_below_drewN | apply below_drew1 | refine below_set ?_ GE244.out | refine below_set ?_ GE251.out | refine below_set ?_ GE256.out | refine below_set ?_ GE261.out) | exact HB.out)⟩⟩
            ·rw [if_neg c96] at H
             have c96b0 : (t268 == t272) = false := beq_eq_false_iff_ne.mpr c96
             have c96b1 : (t268 != t272) = true := bne_iff_ne.mpr c96
             (first | rw [c96b0] | (simp only [i64_w, i32_w]; rw [c96b0]) | skip)
             have H' := Aside0.mk H
             clear H
             try go_wp2
             have n0_ : Aside0 (Kd.R k34 34 (w90.setCell ⟨gb261, 0, none⟩ (.slice Ao91 t269.length co91)) w.heap.size (fun k_ => some k_ ≠ (u257000 : Value).ownBlock ∧ some k_ ≠ (u262000 : Value).ownBlock ∧ some k_ ≠ (.slice Ao85 t265.length co85 : Value).ownBlock ∧ some k_ ≠ (.slice Ao91 t269.length co91 : Value).ownBlock) u252000 x252000_3) := ⟨by (with_reducible repeat (first | apply Kd.R_alloc | apply Kd.R_drewN | apply Kd.R_drew)); exact Kd.R_mono (Kd.R_far (p := ⟨gb261, 0, none⟩) (Kd.R_types HO_252000.out BK261.out (by decide)) (fun _ hk => hk.2) (.slice Ao91 t269.length co91)) (fun _ hk => ⟨hk.1.1.1.1, ⟨hk.1.1.1.2, ⟨hk.1.1.2, hk.1.2⟩⟩⟩)⟩
             have n1_ : Aside0 (Kd.R k34 34 (w90.setCell ⟨gb261, 0, none⟩ (.slice Ao91 t269.length co91)) w.heap.size (fun k_ => some k_ ≠ (u252000 : Value).ownBlock ∧ some k_ ≠ (u262000 : Value).ownBlock ∧ some k_ ≠ (.slice Ao85 t265.length co85 : Value).ownBlock ∧ some k_ ≠ (.slice Ao91 t269.length co91 : Value).ownBlock) u257000 x257000_3) := ⟨by (with_reducible repeat (first | apply Kd.R_alloc | apply Kd.R_drewN | apply Kd.R_drew)); exact Kd.R_mono (Kd.R_far (p := ⟨gb261, 0, none⟩) (Kd.R_types HO_257000.out BK261.out (by decide)) (fun _ hk => hk.2) (.slice Ao91 t269.length co91)) (fun _ hk => ⟨hk.1.1.1.1, ⟨hk.1.1.1.2, ⟨hk.1.1.2, hk.1.2⟩⟩⟩)⟩
             have n2_ : Aside0 (Kd.R k34 34 (w90.setCell ⟨gb261, 0, none⟩ (.slice Ao91 t269.length co91)) w.heap.size (fun k_ => some k_ ≠ (u252000 : Value).ownBlock ∧ some k_ ≠ (u257000 : Value).ownBlock ∧ some k_ ≠ (.slice Ao85 t265.length co85 : Value).ownBlock ∧ some k_ ≠ (.slice Ao91 t269.length co91 : Value).ownBlock) u262000 x262000_3) := ⟨by (with_reducible repeat (first | apply Kd.R_alloc | apply Kd.R_drewN | apply Kd.R_drew)); exact Kd.R_mono (Kd.R_far (p := ⟨gb261, 0, none⟩) (Kd.R_types HO_262000.out BK261.out (by decide)) (fun _ hk => hk.2) (.slice Ao91 t269.length co91)) (fun _ hk => ⟨hk.1.1.1.1, ⟨hk.1.1.1.2, ⟨hk.1.1.2, hk.1.2⟩⟩⟩)⟩
             have n3_ : Aside0 (Kd.R k34 34 (w90.setCell ⟨gb261, 0, none⟩ (.slice Ao91 t269.length co91)) w.heap.size (fun k_ => some k_ ≠ (u252000 : Value).ownBlock ∧ some k_ ≠ (u257000 : Value).ownBlock ∧ some k_ ≠ (u262000 : Value).ownBlock ∧ some k_ ≠ (.slice Ao91 t269.length co91 : Value).ownBlock) (.slice Ao85 t265.length co85) t265) := ⟨by (with_reducible repeat (first | apply Kd.R_alloc | apply Kd.R_drewN | apply Kd.R_drew)); exact Kd.R_mono (Kd.R_far (p := ⟨gb261, 0, none⟩) (Kd.R_types HO267.out BK261.out (by decide)) (fun _ hk => hk.2) (.slice Ao91 t269.length co91)) (fun _ hk => ⟨hk.1.1.1.1.2, ⟨hk.1.1.1.2, ⟨hk.1.1.2, hk.1.2⟩⟩⟩)⟩
             have n4_ : Aside0 (Kd.R k34 34 (w90.setCell ⟨gb261, 0, none⟩ (.slice Ao91 t269.length co91)) w.heap.size (fun k_ => some k_ ≠ (u252000 : Value).ownBlock ∧ some k_ ≠ (u257000 : Value).ownBlock ∧ some k_ ≠ (u262000 : Value).ownBlock ∧ some k_ ≠ (.slice Ao85 t265.length co85 : Value).ownBlock) (.slice Ao91 t269.length co91) t269) := ⟨by (with_reducible repeat (first | apply Kd.R_alloc | apply Kd.R_drewN | apply Kd.R_drew)); exact Kd.R_mono (Kd.R_far (p := ⟨gb261, 0, none⟩) (Kd.R_types HO271.out BK261.out (by decide)) (fun _ hk => hk.2) (.slice Ao91 t269.length co91)) (fun _ hk => ⟨hk.1.1.1.1.2, ⟨hk.1.1.1.2, ⟨hk.1.1.2, hk.1.2⟩⟩⟩)⟩
             have n5_ : Aside0 ((w90.setCell ⟨gb261, 0, none⟩ (.slice Ao91 t269.length co91)).heap[gb244]? = some (.cells #[.slice A0_0 l0_0.length c0_0] 24 (0, 0))) := ⟨by (with_reducible repeat first | apply blk_drewN | apply blk_drew | apply blk_alloc); refine blk_far ?_ NB244_261.out _; (with_reducible repeat first | apply blk_drewN | apply blk_drew | apply blk_alloc); exact BK244.out⟩
             have n6_ : Aside0 ((w90.setCell ⟨gb261, 0, none⟩ (.slice Ao91 t269.length co91)).heap[gb251]? = some (.cells #[u252000] 24 (0, 0))) := ⟨by (with_reducible repeat first | apply blk_drewN | apply blk_drew | apply blk_alloc); refine blk_far ?_ NB251_261.out _; (with_reducible repeat first | apply blk_drewN | apply blk_drew | apply blk_alloc); exact BK251.out⟩
             have n7_ : Aside0 ((w90.setCell ⟨gb261, 0, none⟩ (.slice Ao91 t269.length co91)).heap[gb256]? = some (.cells #[.slice Ao85 t265.length co85] 24 (0, 0))) := ⟨by (with_reducible repeat first | apply blk_drewN | apply blk_drew | apply blk_alloc); refine blk_far ?_ NB256_261.out _; (with_reducible repeat first | apply blk_drewN | apply blk_drew | apply blk_alloc); exact BK256.out⟩
             have n8_ : Aside0 ((w90.setCell ⟨gb261, 0, none⟩ (.slice Ao91 t269.length co91)).heap[gb261]? = some (.cells #[.slice Ao91 t269.length co91] 24 (0, 0))) := ⟨by (with_reducible repeat first | apply blk_drewN | apply blk_drew | apply blk_alloc); refine blk_put (cs := #[u262000]) ?_ 0 _ rfl; (with_reducible repeat first | apply blk_drewN | apply blk_drew | apply blk_alloc); exact BK261.out⟩
             have n9_ : Aside0 (Below w.heap.size w (w90.setCell ⟨gb261, 0, none⟩ (.slice Ao91 t269.length co91))) := ⟨by repeat (first | (with_reducible first | exact HB.out | apply below_alloc | apply pw_below_drewN | apply below_drew1 | refine below_set ?_ GE244.out | refine below_set ?_ GE251.out | refine below_set ?_ GE256.out | refine below_set ?_ GE261.out) | exact HB.out)⟩
             (try clear HO_252000)
             (try clear HO_257000)
             (try clear HO_262000)
             (try clear HO267)
             (try clear HO271)
             (try clear BK244)
             (try clear BK251)
             (try clear BK256)
             (try clear BK261)
             (try clear HB)
             generalize (w90.setCell ⟨gb261, 0, none⟩ (.slice Ao91 t269.length co91)) = w104 at n0_ n1_ n2_ n3_ n4_ n5_ n6_ n7_ n8_ n9_ ⊢
             have HO_252000 := n0_
             have HO_257000 := n1_
             have HO_262000 := n2_
             have HO267 := n3_
             have HO271 := n4_
             have BK244 := n5_
             have BK251 := n6_
             have BK256 := n7_
             have BK261 := n8_
             have HB := n9_
             clear n0_ n1_ n2_ n3_ n4_ n5_ n6_ n7_ n8_ n9_
             have n0_ := Aside0.mk (Kd.R_drew HO_252000.out)
             have n1_ := Aside0.mk (Kd.R_drew HO_257000.out)
             have n2_ := Aside0.mk (Kd.R_drew HO_262000.out)
             have n3_ := Aside0.mk (Kd.R_drew HO267.out)
             have n4_ := Aside0.mk (Kd.R_drew HO271.out)
             have n5_ := Aside0.mk (blk_drew BK244.out)
             have n6_ := Aside0.mk (blk_drew BK251.out)
             have n7_ := Aside0.mk (blk_drew BK256.out)
             have n8_ := Aside0.mk (blk_drew BK261.out)
             have n9_ := Aside0.mk (below_drew1 HB.out)
             clear HO_252000
             clear HO_257000
             clear HO_262000
             clear HO267
             clear HO271
             clear BK244
             clear BK251
             clear BK256
             clear BK261
             clear HB
             have HO_252000 := n0_
             have HO_257000 := n1_
             have HO_262000 := n2_
             have HO267 := n3_
             have HO271 := n4_
             have BK244 := n5_
             have BK251 := n6_
             have BK256 := n7_
             have BK261 := n8_
             have HB := n9_
             clear n0_ n1_ n2_ n3_ n4_ n5_ n6_ n7_ n8_ n9_
             refine start_ (n := 20) (S := fun w' => w'.cell? ⟨gb256, 0, none⟩ = some (.slice Ao85 t265.length co85) ∧ w'.cell? ⟨gb261, 0, none⟩ = some (.slice Ao91 t269.length co91)) (ds := []) #[false, false, false, false, false, false, false, false, false, false, false, false, false, false, false, false, false, false, false, false] (by kernel_rfl) rfl rfl ⟨(blk_cell BK256.out 0).trans rfl, (blk_cell BK261.out 0).trans rfl⟩ (fun hHeld => ?_); refine with_tabW atticlaw14_TablePuts.tab15 atticlaw14_TablePuts.bits15 (fun HT_ HW_ => ?_)
             generalize w104.drew = w105 at HO_252000 HO_257000 HO_262000 HO267 HO271 BK244 BK251 BK256 BK261 HB hHeld ⊢
             refine take_ (i := 0) (N := some 86) (v := ?_) (a' := ?_) #[true, false, false, false, false, false, false, false, false, false, false, false, false, false, false, false, false, false, false, false] rfl rfl (take_ofW HT_.out HW_.out (by kernel_rfl)) (fun _ _ _ h => h) (Or.inl ⟨by rfl, ?_⟩) hHeld ?_ ?_
             rotate_left
             ·rintro w' ⟨s0, s1⟩
              go_simp
              with_reducible rfl
             rotate_left
             ·simp only [Act.put, List.setIfInBounds_toArray, List.set_cons_zero, List.set_cons_succ, i64_w, i32_w]
              rfl
             refine take_ (i := 1) (N := some 87) (v := ?_) (a' := ?_) #[true, true, false, false, false, false, false, false, false, false, false, false, false, false, false, false, false, false, false, false] rfl rfl (take_ofW HT_.out HW_.out (by kernel_rfl)) (fun _ _ _ h => h) (Or.inl ⟨by rfl, ?_⟩) hHeld ?_ ?_
             rotate_left
             ·rintro w' ⟨s0, s1⟩
              go_simp
              with_reducible rfl
             rotate_left
             ·simp only [Act.put, List.setIfInBounds_toArray, List.set_cons_zero, List.set_cons_succ, i64_w, i32_w]
              rfl
             refine one_ (i := 2) (N := some 88) #[true, true, true, false, false, false, false, false, false, false, false, false, false, false, false, false, false, false, false, false] rfl rfl (one_of HT_.out (by kernel_rfl)) (by decide) (fun K hK => ?_)
             refine goes_ Try.func13 (by kernel_rfl) rfl #[.agg #[.slice Ao85 t265.length co85], .agg #[.slice Ao91 t269.length co91]] (by rfl) rfl rfl (by (try simp only [List.map_toArray, List.map_cons, List.map_nil]); first | done | rfl | (simp only [List.length_drop, List.length_take]; rfl)) ?_
             with_reducible refine (atticref14_Same.calls k3 _ _ t265 _ _ t269 true _ ?side1 ?side2 ?side3 ?side4 A94.out).mono ?_
             (case side1 => repeat (first | exact (Kd.R_reads' HO267.out).2.2 | (with_reducible refine Kd.C_alloc ?_ _) | (with_reducible refine Kd.C_drewN ?_ _) | (with_reducible refine Kd.C_drew ?_)))
             (case side2 => exact (Kd.R_reads' HO267.out).2.1)
             (case side3 => repeat (first | exact (Kd.R_reads' HO271.out).2.2 | (with_reducible refine Kd.C_alloc ?_ _) | (with_reducible refine Kd.C_drewN ?_ _) | (with_reducible refine Kd.C_drew ?_)))
             (case side4 => exact (Kd.R_reads' HO271.out).2.1)
             rintro e w106 ⟨rfl, hb⟩
             refine ⟨_, rfl, ?_⟩
             have n0_ := Aside0.mk (Kd.R_below (by (with_reducible repeat (first | apply Kd.R_alloc | apply Kd.R_drewN | apply Kd.R_drew)); exact HO_252000.out) hb)
             have n1_ := Aside0.mk (Kd.R_below (by (with_reducible repeat (first | apply Kd.R_alloc | apply Kd.R_drewN | apply Kd.R_drew)); exact HO_257000.out) hb)
             have n2_ := Aside0.mk (Kd.R_below (by (with_reducible repeat (first | apply Kd.R_alloc | apply Kd.R_drewN | apply Kd.R_drew)); exact HO_262000.out) hb)
             have n3_ := Aside0.mk (Kd.R_below (by (with_reducible repeat (first | apply Kd.R_alloc | apply Kd.R_drewN | apply Kd.R_drew)); exact HO267.out) hb)
             have n4_ := Aside0.mk (Kd.R_below (by (with_reducible repeat (first | apply Kd.R_alloc | apply Kd.R_drewN | apply Kd.R_drew)); exact HO271.out) hb)
             have n5_ := Aside0.mk (blk_below (g := gb244) (o := .cells #[.slice A0_0 l0_0.length c0_0] 24 (0, 0)) (by (with_reducible repeat first | apply blk_drewN | apply blk_drew | apply blk_alloc); exact BK244.out) hb)
             have n6_ := Aside0.mk (blk_below (g := gb251) (o := .cells #[u252000] 24 (0, 0)) (by (with_reducible repeat first | apply blk_drewN | apply blk_drew | apply blk_alloc); exact BK251.out) hb)
             have n7_ := Aside0.mk (blk_below (g := gb256) (o := .cells #[.slice Ao85 t265.length co85] 24 (0, 0)) (by (with_reducible repeat first | apply blk_drewN | apply blk_drew | apply blk_alloc); exact BK256.out) hb)
             have n8_ := Aside0.mk (blk_below (g := gb261) (o := .cells #[.slice Ao91 t269.length co91] 24 (0, 0)) (by (with_reducible repeat first | apply blk_drewN | apply blk_drew | apply blk_alloc); exact BK261.out) hb)
             have n9_ := Aside0.mk (below_step (by repeat (first | (with_reducible first | exact HB.out | apply below_alloc | apply pw_below_drewN | apply below_drew1 | refine below_set ?_ GE244.out | refine below_set ?_ GE251.out | refine below_set ?_ GE256.out | refine below_set ?_ GE261.out) | exact HB.out)) hb)
             clear HO_252000
             clear HO_257000
             clear HO_262000
             clear HO267
             clear HO271
             clear BK244
             clear BK251
             clear BK256
             clear BK261
             clear HB
             have HO_252000 := n0_
             have HO_257000 := n1_
             have HO_262000 := n2_
             have HO267 := n3_
             have HO271 := n4_
             have BK244 := n5_
             have BK251 := n6_
             have BK256 := n7_
             have BK261 := n8_
             have HB := n9_
             clear n0_ n1_ n2_ n3_ n4_ n5_ n6_ n7_ n8_ n9_
             (try clear hb)
             (try clear hb2)
             (try clear hk)
             (try clear hi)
             refine hK.out _ _ ⟨(blk_cell BK256.out 0).trans rfl, (blk_cell BK261.out 0).trans rfl⟩ (fun hHeld => ?_)
             clear hK K
             refine norm_ (a' := ?_) ?_ ?_
             rotate_left
             ·show Act.put _ (some 88) _ = _
              simp only [Act.put, List.setIfInBounds_toArray, List.set_cons_zero, List.set_cons_succ, i64_w, i32_w]
              rfl
             refine pure_ (i := 3) (N := some 89) (v := ?_) (a' := ?_) #[true, true, true, true, false, false, false, false, false, false, false, false, false, false, false, false, false, false, false, false] rfl rfl (any_of HT_.out (by kernel_rfl)) (fun _ _ _ h => h) (Or.inl ⟨by rfl, ?_⟩) ?_ ?_
             rotate_left
             ·intro w'
              go_simp
              with_reducible rfl
             rotate_left
             ·simp only [Act.put, List.setIfInBounds_toArray, List.set_cons_zero, List.set_cons_succ, i64_w, i32_w]
              rfl
             refine pure_ (i := 4) (N := some 90) (v := ?_) (a' := ?_) #[true, true, true, true, true, false, false, false, false, false, false, false, false, false, false, false, false, false, false, false] rfl rfl (any_of HT_.out (by kernel_rfl)) (fun _ _ _ h => h) (Or.inl ⟨by rfl, ?_⟩) ?_ ?_
             rotate_left
             ·intro w'
              go_simp
              with_reducible rfl
             rotate_left
             ·simp only [Act.put, List.setIfInBounds_toArray, List.set_cons_zero, List.set_cons_succ, i64_w, i32_w]
              rfl
             refine pure_ (i := 5) (N := some 91) (v := ?_) (a' := ?_) #[true, true, true, true, true, true, false, false, false, false, false, false, false, false, false, false, false, false, false, false] rfl rfl (any_of HT_.out (by kernel_rfl)) (fun _ _ _ h => h) (Or.inl ⟨by rfl, ?_⟩) ?_ ?_
             rotate_left
             ·intro w'
              go_simp
              with_reducible rfl
             rotate_left
             ·simp only [Act.put, List.setIfInBounds_toArray, List.set_cons_zero, List.set_cons_succ, i64_w, i32_w]
              rfl
             refine pure_ (i := 6) (N := some 92) (v := ?_) (a' := ?_) #[true, true, true, true, true, true, true, false, false, false, false, false, false, false, false, false, false, false, false, false] rfl rfl (any_of HT_.out (by kernel_rfl)) (fun _ _ _ h => h) (Or.inl ⟨by rfl, ?_⟩) ?_ ?_
             rotate_left
             ·intro w'
              go_simp
              with_reducible rfl
             rotate_left
             ·simp only [Act.put, List.setIfInBounds_toArray, List.set_cons_zero, List.set_cons_succ, i64_w, i32_w]
              rfl
             refine pure_ (i := 7) (N := some 93) (v := ?_) (a' := ?_) #[true, true, true, true, true, true, true, true, false, false, false, false, false, false, false, false, false, false, false, false] rfl rfl (any_of HT_.out (by kernel_rfl)) (fun _ _ _ h => h) (Or.inl ⟨by rfl, ?_⟩) ?_ ?_
             rotate_left
             ·intro w'
              go_simp
              with_reducible rfl
             rotate_left
             ·simp only [Act.put, List.setIfInBounds_toArray, List.set_cons_zero, List.set_cons_succ, i64_w, i32_w]
              rfl
             refine pure_ (i := 8) (N := some 94) (v := ?_) (a' := ?_) #[true, true, true, true, true, true, true, true, true, false, false, false, false, false, false, false, false, false, false, false] rfl rfl (any_of HT_.out (by kernel_rfl)) (fun _ _ _ h => h) (Or.inl ⟨by rfl, ?_⟩) ?_ ?_
             rotate_left
             ·intro w'
              go_simp
              with_reducible rfl
             rotate_left
             ·simp only [Act.put, List.setIfInBounds_toArray, List.set_cons_zero, List.set_cons_succ, i64_w, i32_w]
              rfl
             refine pure_ (i := 9) (N := some 95) (v := ?_) (a' := ?_) #[true, true, true, true, true, true, true, true, true, true, false, false, false, false, false, false, false, false, false, false] rfl rfl (any_of HT_.out (by kernel_rfl)) (fun _ _ _ h => h) (Or.inl ⟨by rfl, ?_⟩) ?_ ?_
             rotate_left
             ·intro w'
              go_simp
              with_reducible rfl
             rotate_left
             ·simp only [Act.put, List.setIfInBounds_toArray, List.set_cons_zero, List.set_cons_succ, i64_w, i32_w]
              rfl
             refine pure_ (i := 10) (N := some 96) (v := undef) (a' := ?_) #[true, true, true, true, true, true, true, true, true, true, true, false, false, false, false, false, false, false, false, false] rfl rfl (any_of HT_.out (by kernel_rfl)) (fun _ _ _ h => h) (Or.inr ⟨by rfl, rfl⟩) ?_ ?_
             rotate_left
             ·simp only [Act.put, List.setIfInBounds_toArray, List.set_cons_zero, List.set_cons_succ, i64_w, i32_w]
              rfl
             refine pure_ (i := 11) (N := some 97) (v := undef) (a' := ?_) #[true, true, true, true, true, true, true, true, true, true, true, true, false, false, false, false, false, false, false, false] rfl rfl (any_of HT_.out (by kernel_rfl)) (fun _ _ _ h => h) (Or.inr ⟨by rfl, rfl⟩) ?_ ?_
             rotate_left
             ·simp only [Act.put, List.setIfInBounds_toArray, List.set_cons_zero, List.set_cons_succ, i64_w, i32_w]
              rfl
             refine pure_ (i := 12) (N := some 98) (v := undef) (a' := ?_) #[true, true, true, true, true, true, true, true, true, true, true, true, true, false, false, false, false, false, false, false] rfl rfl (any_of HT_.out (by kernel_rfl)) (fun _ _ _ h => h) (Or.inr ⟨by rfl, rfl⟩) ?_ ?_
             rotate_left
             ·simp only [Act.put, List.setIfInBounds_toArray, List.set_cons_zero, List.set_cons_succ, i64_w, i32_w]
              rfl
             refine pure_ (i := 13) (N := some 99) (v := undef) (a' := ?_) #[true, true, true, true, true, true, true, true, true, true, true, true, true, true, false, false, false, false, false, false] rfl rfl (any_of HT_.out (by kernel_rfl)) (fun _ _ _ h => h) (Or.inr ⟨by rfl, rfl⟩) ?_ ?_
             rotate_left
             ·simp only [Act.put, List.setIfInBounds_toArray, List.set_cons_zero, List.set_cons_succ, i64_w, i32_w]
              rfl
             refine pure_ (i := 14) (N := some 100) (v := undef) (a' := ?_) #[true, true, true, true, true, true, true, true, true, true, true, true, true, true, true, false, false, false, false, false] rfl rfl (any_of HT_.out (by kernel_rfl)) (fun _ _ _ h => h) (Or.inr ⟨by rfl, rfl⟩) ?_ ?_
             rotate_left
             ·simp only [Act.put, List.setIfInBounds_toArray, List.set_cons_zero, List.set_cons_succ, i64_w, i32_w]
              rfl
             refine pure_ (i := 15) (N := some 101) (v := undef) (a' := ?_) #[true, true, true, true, true, true, true, true, true, true, true, true, true, true, true, true, false, false, false, false] rfl rfl (any_of HT_.out (by kernel_rfl)) (fun _ _ _ h => h) (Or.inr ⟨by rfl, rfl⟩) ?_ ?_
             rotate_left
             ·simp only [Act.put, List.setIfInBounds_toArray, List.set_cons_zero, List.set_cons_succ, i64_w, i32_w]
              rfl
             refine pure_ (i := 16) (N := some 102) (v := undef) (a' := ?_) #[true, true, true, true, true, true, true, true, true, true, true, true, true, true, true, true, true, false, false, false] rfl rfl (any_of HT_.out (by kernel_rfl)) (fun _ _ _ h => h) (Or.inr ⟨by rfl, rfl⟩) ?_ ?_
             rotate_left
             ·simp only [Act.put, List.setIfInBounds_toArray, List.set_cons_zero, List.set_cons_succ, i64_w, i32_w]
              rfl
             refine pure_ (i := 17) (N := some 103) (v := undef) (a' := ?_) #[true, true, true, true, true, true, true, true, true, true, true, true, true, true, true, true, true, true, false, false] rfl rfl (any_of HT_.out (by kernel_rfl)) (fun _ _ _ h => h) (Or.inr ⟨by rfl, rfl⟩) ?_ ?_
             rotate_left
             ·simp only [Act.put, List.setIfInBounds_toArray, List.set_cons_zero, List.set_cons_succ, i64_w, i32_w]
              rfl
             refine pure_ (i := 18) (N := some 104) (v := undef) (a' := ?_) #[true, true, true, true, true, true, true, true, true, true, true, true, true, true, true, true, true, true, true, false] rfl rfl (any_of HT_.out (by kernel_rfl)) (fun _ _ _ h => h) (Or.inr ⟨by rfl, rfl⟩) ?_ ?_
             rotate_left
             ·simp only [Act.put, List.setIfInBounds_toArray, List.set_cons_zero, List.set_cons_succ, i64_w, i32_w]
              rfl
             refine pure_ (i := 19) (N := some 105) (v := ?_) (a' := ?_) #[true, true, true, true, true, true, true, true, true, true, true, true, true, true, true, true, true, true, true, true] rfl rfl (any_of HT_.out (by kernel_rfl)) (fun _ _ _ h => h) (Or.inl ⟨by rfl, ?_⟩) ?_ ?_
             rotate_left
             ·intro w'
              go_simp
              with_reducible rfl
             rotate_left
             ·simp only [Act.put, List.setIfInBounds_toArray, List.set_cons_zero, List.set_cons_succ, i64_w, i32_w]
              rfl
             refine done_ (done_of HT_.out (by kernel_rfl)) ?_
             try go_wp2
             go_meet
             case rel => exact ⟨_, (true), (by first | rfl | (simp; done) | (simp [*]; done) | (simp [Int.tdiv_eq_ediv_of_nonneg]; done)), H', ⟨by have := HJ5.out; have := HJ20.out; have := HK3.out; first | omega | exact Nat.le_refl _⟩, ⟨by (with_reducible repeat (first | apply Kd.R_alloc | apply Kd.R_drewN | apply Kd.R_drew)); exact Kd.R_mono HO_252000.out (fun _ hk => ⟨hk.2.2.1, hk.2.2.2⟩)⟩, ⟨by (with_reducible repeat (first | apply Kd.R_alloc | apply Kd.R_drewN | apply Kd.R_drew)); exact Kd.R_mono HO267.out (fun _ hk => ⟨hk.1, hk.2.2.2⟩)⟩, ⟨by (with_reducible repeat (first | apply Kd.R_alloc | apply Kd.R_drewN | apply Kd.R_drew)); exact Kd.R_mono HO271.out (fun _ hk => ⟨hk.1, hk.2.2.2⟩)⟩, ⟨by (with_reducible repeat first | apply blk_drewN | apply blk_drew | apply blk_alloc); exact BK244.out⟩, ⟨by (with_reducible repeat first | apply blk_drewN | apply blk_drew | apply blk_alloc); exact BK251.out⟩, ⟨by (with_reducible repeat first | apply blk_drewN | apply blk_drew | apply blk_alloc); exact BK256.out⟩, ⟨by (with_reducible repeat first | apply blk_drewN | apply blk_drew | apply blk_alloc); exact BK261.out⟩, ⟨by repeat (first | (with_reducible first | exact HB.out | apply below_alloc | apply pw_below_drewN | apply below_drew1 | refine below_set ?_ GE244.out | refine below_set ?_ GE251.out | refine below_set ?_ GE256.out | refine below_set ?_ GE261.out) | exact HB.out)⟩⟩
           ·replace c95 := Bool.eq_false_iff.mpr c95
            subst c95
            have H1 : (atticlaw14_TablePuts.j3 k3 true l0_0 x252000_3) = some r := by rw [if_neg (show ¬ (false = true) by decide)] at H; exact H
            clear H
            have H := H1
            clear H1
            have H' := Aside0.mk H
            clear H
            try go_wp2
            have n0_ : Aside0 (Kd.R k34 34 (w90.setCell ⟨gb261, 0, none⟩ (.slice Ao91 t269.length co91)) w.heap.size (fun k_ => some k_ ≠ (u257000 : Value).ownBlock ∧ some k_ ≠ (u262000 : Value).ownBlock ∧ some k_ ≠ (.slice Ao85 t265.length co85 : Value).ownBlock ∧ some k_ ≠ (.slice Ao91 t269.length co91 : Value).ownBlock) u252000 x252000_3) := ⟨by (with_reducible repeat (first | apply Kd.R_alloc | apply Kd.R_drewN | apply Kd.R_drew)); exact Kd.R_mono (Kd.R_far (p := ⟨gb261, 0, none⟩) (Kd.R_types HO_252000.out BK261.out (by decide)) (fun _ hk => hk.2) (.slice Ao91 t269.length co91)) (fun _ hk => ⟨hk.1.1.1.1, ⟨hk.1.1.1.2, ⟨hk.1.1.2, hk.1.2⟩⟩⟩)⟩
            have n1_ : Aside0 (Kd.R k34 34 (w90.setCell ⟨gb261, 0, none⟩ (.slice Ao91 t269.length co91)) w.heap.size (fun k_ => some k_ ≠ (u252000 : Value).ownBlock ∧ some k_ ≠ (u262000 : Value).ownBlock ∧ some k_ ≠ (.slice Ao85 t265.length co85 : Value).ownBlock ∧ some k_ ≠ (.slice Ao91 t269.length co91 : Value).ownBlock) u257000 x257000_3) := ⟨by (with_reducible repeat (first | apply Kd.R_alloc | apply Kd.R_drewN | apply Kd.R_drew)); exact Kd.R_mono (Kd.R_far (p := ⟨gb261, 0, none⟩) (Kd.R_types HO_257000.out BK261.out (by decide)) (fun _ hk => hk.2) (.slice Ao91 t269.length co91)) (fun _ hk => ⟨hk.1.1.1.1, ⟨hk.1.1.1.2, ⟨hk.1.1.2, hk.1.2⟩⟩⟩)⟩
            have n2_ : Aside0 (Kd.R k34 34 (w90.setCell ⟨gb261, 0, none⟩ (.slice Ao91 t269.length co91)) w.heap.size (fun k_ => some k_ ≠ (u252000 : Value).ownBlock ∧ some k_ ≠ (u257000 : Value).ownBlock ∧ some k_ ≠ (.slice Ao85 t265.length co85 : Value).ownBlock ∧ some k_ ≠ (.slice Ao91 t269.length co91 : Value).ownBlock) u262000 x262000_3) := ⟨by (with_reducible repeat (first | apply Kd.R_alloc | apply Kd.R_drewN | apply Kd.R_drew)); exact Kd.R_mono (Kd.R_far (p := ⟨gb261, 0, none⟩) (Kd.R_types HO_262000.out BK261.out (by decide)) (fun _ hk => hk.2) (.slice Ao91 t269.length co91)) (fun _ hk => ⟨hk.1.1.1.1, ⟨hk.1.1.1.2, ⟨hk.1.1.2, hk.1.2⟩⟩⟩)⟩
            have n3_ : Aside0 (Kd.R k34 34 (w90.setCell ⟨gb261, 0, none⟩ (.slice Ao91 t269.length co91)) w.heap.size (fun k_ => some k_ ≠ (u252000 : Value).ownBlock ∧ some k_ ≠ (u257000 : Value).ownBlock ∧ some k_ ≠ (u262000 : Value).ownBlock ∧ some k_ ≠ (.slice Ao91 t269.length co91 : Value).ownBlock) (.slice Ao85 t265.length co85) t265) := ⟨by (with_reducible repeat (first | apply Kd.R_alloc | apply Kd.R_drewN | apply Kd.R_drew)); exact Kd.R_mono (Kd.R_far (p := ⟨gb261, 0, none⟩) (Kd.R_types HO267.out BK261.out (by decide)) (fun _ hk => hk.2) (.slice Ao91 t269.length co91)) (fun _ hk => ⟨hk.1.1.1.1.2, ⟨hk.1.1.1.2, ⟨hk.1.1.2, hk.1.2⟩⟩⟩)⟩
            have n4_ : Aside0 (Kd.R k34 34 (w90.setCell ⟨gb261, 0, none⟩ (.slice Ao91 t269.length co91)) w.heap.size (fun k_ => some k_ ≠ (u252000 : Value).ownBlock ∧ some k_ ≠ (u257000 : Value).ownBlock ∧ some k_ ≠ (u262000 : Value).ownBlock ∧ some k_ ≠ (.slice Ao85 t265.length co85 : Value).ownBlock) (.slice Ao91 t269.length co91) t269) := ⟨by (with_reducible repeat (first | apply Kd.R_alloc | apply Kd.R_drewN | apply Kd.R_drew)); exact Kd.R_mono (Kd.R_far (p := ⟨gb261, 0, none⟩) (Kd.R_types HO271.out BK261.out (by decide)) (fun _ hk => hk.2) (.slice Ao91 t269.length co91)) (fun _ hk => ⟨hk.1.1.1.1.2, ⟨hk.1.1.1.2, ⟨hk.1.1.2, hk.1.2⟩⟩⟩)⟩
            have n5_ : Aside0 ((w90.setCell ⟨gb261, 0, none⟩ (.slice Ao91 t269.length co91)).heap[gb244]? = some (.cells #[.slice A0_0 l0_0.length c0_0] 24 (0, 0))) := ⟨by (with_reducible repeat first | apply blk_drewN | apply blk_drew | apply blk_alloc); refine blk_far ?_ NB244_261.out _; (with_reducible repeat first | apply blk_drewN | apply blk_drew | apply blk_alloc); exact BK244.out⟩
            have n6_ : Aside0 ((w90.setCell ⟨gb261, 0, none⟩ (.slice Ao91 t269.length co91)).heap[gb251]? = some (.cells #[u252000] 24 (0, 0))) := ⟨by (with_reducible repeat first | apply blk_drewN | apply blk_drew | apply blk_alloc); refine blk_far ?_ NB251_261.out _; (with_reducible repeat first | apply blk_drewN | apply blk_drew | apply blk_alloc); exact BK251.out⟩
            have n7_ : Aside0 ((w90.setCell ⟨gb261, 0, none⟩ (.slice Ao91 t269.length co91)).heap[gb256]? = some (.cells #[.slice Ao85 t265.length co85] 24 (0, 0))) := ⟨by (with_reducible repeat first | apply blk_drewN | apply blk_drew | apply blk_alloc); refine blk_far ?_ NB256_261.out _; (with_reducible repeat first | apply blk_drewN | apply blk_drew | apply blk_alloc); exact BK256.out⟩
            have n8_ : Aside0 ((w90.setCell ⟨gb261, 0, none⟩ (.slice Ao91 t269.length co91)).heap[gb261]? = some (.cells #[.slice Ao91 t269.length co91] 24 (0, 0))) := ⟨by (with_reducible repeat first | apply blk_drewN | apply blk_drew | apply blk_alloc); refine blk_put (cs := #[u262000]) ?_ 0 _ rfl; (with_reducible repeat first | apply blk_drewN | apply blk_drew | apply blk_alloc); exact BK261.out⟩
            have n9_ : Aside0 (Below w.heap.size w (w90.setCell ⟨gb261, 0, none⟩ (.slice Ao91 t269.length co91))) := ⟨by repeat (first | (with_reducible first | exact HB.out | apply below_alloc | apply pw_below_drewN | apply below_drew1 | refine below_set ?_ GE244.out | refine below_set ?_ GE251.out | refine below_set ?_ GE256.out | refine below_set ?_ GE261.out) | exact HB.out)⟩
            (try clear HO_252000)
            (try clear HO_257000)
            (try clear HO_262000)
            (try clear HO267)
            (try clear HO271)
            (try clear BK244)
            (try clear BK251)
            (try clear BK256)
            (try clear BK261)
            (try clear HB)
            generalize (w90.setCell ⟨gb261, 0, none⟩ (.slice Ao91 t269.length co91)) = w107 at n0_ n1_ n2_ n3_ n4_ n5_ n6_ n7_ n8_ n9_ ⊢
            have HO_252000 := n0_
            have HO_257000 := n1_
            have HO_262000 := n2_
            have HO267 := n3_
            have HO271 := n4_
            have BK244 := n5_
            have BK251 := n6_
            have BK256 := n7_
            have BK261 := n8_
            have HB := n9_
            clear n0_ n1_ n2_ n3_ n4_ n5_ n6_ n7_ n8_ n9_
            have n0_ := Aside0.mk (Kd.R_drew HO_252000.out)
            have n1_ := Aside0.mk (Kd.R_drew HO_257000.out)
            have n2_ := Aside0.mk (Kd.R_drew HO_262000.out)
            have n3_ := Aside0.mk (Kd.R_drew HO267.out)
            have n4_ := Aside0.mk (Kd.R_drew HO271.out)
            have n5_ := Aside0.mk (blk_drew BK244.out)
            have n6_ := Aside0.mk (blk_drew BK251.out)
            have n7_ := Aside0.mk (blk_drew BK256.out)
            have n8_ := Aside0.mk (blk_drew BK261.out)
            have n9_ := Aside0.mk (below_drew1 HB.out)
            clear HO_252000
            clear HO_257000
            clear HO_262000
            clear HO267
            clear HO271
            clear BK244
            clear BK251
            clear BK256
            clear BK261
            clear HB
            have HO_252000 := n0_
            have HO_257000 := n1_
            have HO_262000 := n2_
            have HO267 := n3_
            have HO271 := n4_
            have BK244 := n5_
            have BK251 := n6_
            have BK256 := n7_
            have BK261 := n8_
            have HB := n9_
            clear n0_ n1_ n2_ n3_ n4_ n5_ n6_ n7_ n8_ n9_
            refine start_ (n := 20) (S := fun w' => w'.cell? ⟨gb256, 0, none⟩ = some (.slice Ao85 t265.length co85) ∧ w'.cell? ⟨gb261, 0, none⟩ = some (.slice Ao91 t269.length co91)) (ds := []) #[false, false, false, false, false, false, false, false, false, false, false, false, false, false, false, false, false, false, false, false] (by kernel_rfl) rfl rfl ⟨(blk_cell BK256.out 0).trans rfl, (blk_cell BK261.out 0).trans rfl⟩ (fun hHeld => ?_); refine with_tabW atticlaw14_TablePuts.tab15 atticlaw14_TablePuts.bits15 (fun HT_ HW_ => ?_)
            generalize w107.drew = w108 at HO_252000 HO_257000 HO_262000 HO267 HO271 BK244 BK251 BK256 BK261 HB hHeld ⊢
            refine take_ (i := 0) (N := some 86) (v := ?_) (a' := ?_) #[true, false, false, false, false, false, false, false, false, false, false, false, false, false, false, false, false, false, false, false] rfl rfl (take_ofW HT_.out HW_.out (by kernel_rfl)) (fun _ _ _ h => h) (Or.inl ⟨by rfl, ?_⟩) hHeld ?_ ?_
            rotate_left
            ·rintro w' ⟨s0, s1⟩
             go_simp
             with_reducible rfl
            rotate_left
            ·simp only [Act.put, List.setIfInBounds_toArray, List.set_cons_zero, List.set_cons_succ, i64_w, i32_w]
             rfl
            refine take_ (i := 1) (N := some 87) (v := ?_) (a' := ?_) #[true, true, false, false, false, false, false, false, false, false, false, false, false, false, false, false, false, false, false, false] rfl rfl (take_ofW HT_.out HW_.out (by kernel_rfl)) (fun _ _ _ h => h) (Or.inl ⟨by rfl, ?_⟩) hHeld ?_ ?_
            rotate_left
            ·rintro w' ⟨s0, s1⟩
             go_simp
             with_reducible rfl
            rotate_left
            ·simp only [Act.put, List.setIfInBounds_toArray, List.set_cons_zero, List.set_cons_succ, i64_w, i32_w]
             rfl
            refine one_ (i := 2) (N := some 88) #[true, true, true, false, false, false, false, false, false, false, false, false, false, false, false, false, false, false, false, false] rfl rfl (one_of HT_.out (by kernel_rfl)) (by decide) (fun K hK => ?_)
            refine goes_ Try.func13 (by kernel_rfl) rfl #[.agg #[.slice Ao85 t265.length co85], .agg #[.slice Ao91 t269.length co91]] (by rfl) rfl rfl (by (try simp only [List.map_toArray, List.map_cons, List.map_nil]); first | done | rfl | (simp only [List.length_drop, List.length_take]; rfl)) ?_
            with_reducible refine (atticref14_Same.calls k3 _ _ t265 _ _ t269 false _ ?side1 ?side2 ?side3 ?side4 A94.out).mono ?_
            (case side1 => repeat (first | exact (Kd.R_reads' HO267.out).2.2 | (with_reducible refine Kd.C_alloc ?_ _) | (with_reducible refine Kd.C_drewN ?_ _) | (with_reducible refine Kd.C_drew ?_)))
            (case side2 => exact (Kd.R_reads' HO267.out).2.1)
            (case side3 => repeat (first | exact (Kd.R_reads' HO271.out).2.2 | (with_reducible refine Kd.C_alloc ?_ _) | (with_reducible refine Kd.C_drewN ?_ _) | (with_reducible refine Kd.C_drew ?_)))
            (case side4 => exact (Kd.R_reads' HO271.out).2.1)
            rintro e w109 ⟨rfl, hb⟩
            refine ⟨_, rfl, ?_⟩
            have n0_ := Aside0.mk (Kd.R_below (by (with_reducible repeat (first | apply Kd.R_alloc | apply Kd.R_drewN | apply Kd.R_drew)); exact HO_252000.out) hb)
            have n1_ := Aside0.mk (Kd.R_below (by (with_reducible repeat (first | apply Kd.R_alloc | apply Kd.R_drewN | apply Kd.R_drew)); exact HO_257000.out) hb)
            have n2_ := Aside0.mk (Kd.R_below (by (with_reducible repeat (first | apply Kd.R_alloc | apply Kd.R_drewN | apply Kd.R_drew)); exact HO_262000.out) hb)
            have n3_ := Aside0.mk (Kd.R_below (by (with_reducible repeat (first | apply Kd.R_alloc | apply Kd.R_drewN | apply Kd.R_drew)); exact HO267.out) hb)
            have n4_ := Aside0.mk (Kd.R_below (by (with_reducible repeat (first | apply Kd.R_alloc | apply Kd.R_drewN | apply Kd.R_drew)); exact HO271.out) hb)
            have n5_ := Aside0.mk (blk_below (g := gb244) (o := .cells #[.slice A0_0 l0_0.length c0_0] 24 (0, 0)) (by (with_reducible repeat first | apply blk_drewN | apply blk_drew | apply blk_alloc); exact BK244.out) hb)
            have n6_ := Aside0.mk (blk_below (g := gb251) (o := .cells #[u252000] 24 (0, 0)) (by (with_reducible repeat first | apply blk_drewN | apply blk_drew | apply blk_alloc); exact BK251.out) hb)
            have n7_ := Aside0.mk (blk_below (g := gb256) (o := .cells #[.slice Ao85 t265.length co85] 24 (0, 0)) (by (with_reducible repeat first | apply blk_drewN | apply blk_drew | apply blk_alloc); exact BK256.out) hb)
            have n8_ := Aside0.mk (blk_below (g := gb261) (o := .cells #[.slice Ao91 t269.length co91] 24 (0, 0)) (by (with_reducible repeat first | apply blk_drewN | apply blk_drew | apply blk_alloc); exact BK261.out) hb)
            have n9_ := Aside0.mk (below_step (by repeat (first | (with_reducible first | exact HB.out | apply below_alloc | apply pw_below_drewN | apply below_drew1 | refine below_set ?_ GE244.out | refine below_set ?_ GE251.out | refine below_set ?_ GE256.out | refine below_set ?_ GE261.out) | exact HB.out)) hb)
            clear HO_252000
            clear HO_257000
            clear HO_262000
            clear HO267
            clear HO271
            clear BK244
            clear BK251
            clear BK256
            clear BK261
            clear HB
            have HO_252000 := n0_
            have HO_257000 := n1_
            have HO_262000 := n2_
            have HO267 := n3_
            have HO271 := n4_
            have BK244 := n5_
            have BK251 := n6_
            have BK256 := n7_
            have BK261 := n8_
            have HB := n9_
            clear n0_ n1_ n2_ n3_ n4_ n5_ n6_ n7_ n8_ n9_
            (try clear hb)
            (try clear hb2)
            (try clear hk)
            (try clear hi)
            refine hK.out _ _ ⟨(blk_cell BK256.out 0).trans rfl, (blk_cell BK261.out 0).trans rfl⟩ (fun hHeld => ?_)
            clear hK K
            refine norm_ (a' := ?_) ?_ ?_
            rotate_left
            ·show Act.put _ (some 88) _ = _
             simp only [Act.put, List.setIfInBounds_toArray, List.set_cons_zero, List.set_cons_succ, i64_w, i32_w]
             rfl
            refine pure_ (i := 3) (N := some 89) (v := ?_) (a' := ?_) #[true, true, true, true, false, false, false, false, false, false, false, false, false, false, false, false, false, false, false, false] rfl rfl (any_of HT_.out (by kernel_rfl)) (fun _ _ _ h => h) (Or.inl ⟨by rfl, ?_⟩) ?_ ?_
            rotate_left
            ·intro w'
             go_simp
             with_reducible rfl
            rotate_left
            ·simp only [Act.put, List.setIfInBounds_toArray, List.set_cons_zero, List.set_cons_succ, i64_w, i32_w]
             rfl
            refine pure_ (i := 4) (N := some 90) (v := ?_) (a' := ?_) #[true, true, true, true, true, false, false, false, false, false, false, false, false, false, false, false, false, false, false, false] rfl rfl (any_of HT_.out (by kernel_rfl)) (fun _ _ _ h => h) (Or.inl ⟨by rfl, ?_⟩) ?_ ?_
            rotate_left
            ·intro w'
             go_simp
             with_reducible rfl
            rotate_left
            ·simp only [Act.put, List.setIfInBounds_toArray, List.set_cons_zero, List.set_cons_succ, i64_w, i32_w]
             rfl
            refine pure_ (i := 5) (N := some 91) (v := undef) (a' := ?_) #[true, true, true, true, true, true, false, false, false, false, false, false, false, false, false, false, false, false, false, false] rfl rfl (any_of HT_.out (by kernel_rfl)) (fun _ _ _ h => h) (Or.inr ⟨by rfl, rfl⟩) ?_ ?_
            rotate_left
            ·simp only [Act.put, List.setIfInBounds_toArray, List.set_cons_zero, List.set_cons_succ, i64_w, i32_w]
             rfl
            refine pure_ (i := 6) (N := some 92) (v := undef) (a' := ?_) #[true, true, true, true, true, true, true, false, false, false, false, false, false, false, false, false, false, false, false, false] rfl rfl (any_of HT_.out (by kernel_rfl)) (fun _ _ _ h => h) (Or.inr ⟨by rfl, rfl⟩) ?_ ?_
            rotate_left
            ·simp only [Act.put, List.setIfInBounds_toArray, List.set_cons_zero, List.set_cons_succ, i64_w, i32_w]
             rfl
            refine pure_ (i := 7) (N := some 93) (v := undef) (a' := ?_) #[true, true, true, true, true, true, true, true, false, false, false, false, false, false, false, false, false, false, false, false] rfl rfl (any_of HT_.out (by kernel_rfl)) (fun _ _ _ h => h) (Or.inr ⟨by rfl, rfl⟩) ?_ ?_
            rotate_left
            ·simp only [Act.put, List.setIfInBounds_toArray, List.set_cons_zero, List.set_cons_succ, i64_w, i32_w]
             rfl
            refine pure_ (i := 8) (N := some 94) (v := ?_) (a' := ?_) #[true, true, true, true, true, true, true, true, true, false, false, false, false, false, false, false, false, false, false, false] rfl rfl (any_of HT_.out (by kernel_rfl)) (fun _ _ _ h => h) (Or.inl ⟨by rfl, ?_⟩) ?_ ?_
            rotate_left
            ·intro w'
             go_simp
             with_reducible rfl
            rotate_left
            ·simp only [Act.put, List.setIfInBounds_toArray, List.set_cons_zero, List.set_cons_succ, i64_w, i32_w]
             rfl
            refine pure_ (i := 9) (N := some 95) (v := ?_) (a' := ?_) #[true, true, true, true, true, true, true, true, true, true, false, false, false, false, false, false, false, false, false, false] rfl rfl (any_of HT_.out (by kernel_rfl)) (fun _ _ _ h => h) (Or.inl ⟨by rfl, ?_⟩) ?_ ?_
            rotate_left
            ·intro w'
             go_simp
             with_reducible rfl
            rotate_left
            ·simp only [Act.put, List.setIfInBounds_toArray, List.set_cons_zero, List.set_cons_succ, i64_w, i32_w]
             rfl
            refine pure_ (i := 10) (N := some 96) (v := undef) (a' := ?_) #[true, true, true, true, true, true, true, true, true, true, true, false, false, false, false, false, false, false, false, false] rfl rfl (any_of HT_.out (by kernel_rfl)) (fun _ _ _ h => h) (Or.inr ⟨by rfl, rfl⟩) ?_ ?_
            rotate_left
            ·simp only [Act.put, List.setIfInBounds_toArray, List.set_cons_zero, List.set_cons_succ, i64_w, i32_w]
             rfl
            refine pure_ (i := 11) (N := some 97) (v := undef) (a' := ?_) #[true, true, true, true, true, true, true, true, true, true, true, true, false, false, false, false, false, false, false, false] rfl rfl (any_of HT_.out (by kernel_rfl)) (fun _ _ _ h => h) (Or.inr ⟨by rfl, rfl⟩) ?_ ?_
            rotate_left
            ·simp only [Act.put, List.setIfInBounds_toArray, List.set_cons_zero, List.set_cons_succ, i64_w, i32_w]
             rfl
            refine pure_ (i := 12) (N := some 98) (v := undef) (a' := ?_) #[true, true, true, true, true, true, true, true, true, true, true, true, true, false, false, false, false, false, false, false] rfl rfl (any_of HT_.out (by kernel_rfl)) (fun _ _ _ h => h) (Or.inr ⟨by rfl, rfl⟩) ?_ ?_
            rotate_left
            ·simp only [Act.put, List.setIfInBounds_toArray, List.set_cons_zero, List.set_cons_succ, i64_w, i32_w]
             rfl
            refine pure_ (i := 13) (N := some 99) (v := undef) (a' := ?_) #[true, true, true, true, true, true, true, true, true, true, true, true, true, true, false, false, false, false, false, false] rfl rfl (any_of HT_.out (by kernel_rfl)) (fun _ _ _ h => h) (Or.inr ⟨by rfl, rfl⟩) ?_ ?_
            rotate_left
            ·simp only [Act.put, List.setIfInBounds_toArray, List.set_cons_zero, List.set_cons_succ, i64_w, i32_w]
             rfl
            refine pure_ (i := 14) (N := some 100) (v := undef) (a' := ?_) #[true, true, true, true, true, true, true, true, true, true, true, true, true, true, true, false, false, false, false, false] rfl rfl (any_of HT_.out (by kernel_rfl)) (fun _ _ _ h => h) (Or.inr ⟨by rfl, rfl⟩) ?_ ?_
            rotate_left
            ·simp only [Act.put, List.setIfInBounds_toArray, List.set_cons_zero, List.set_cons_succ, i64_w, i32_w]
             rfl
            refine pure_ (i := 15) (N := some 101) (v := undef) (a' := ?_) #[true, true, true, true, true, true, true, true, true, true, true, true, true, true, true, true, false, false, false, false] rfl rfl (any_of HT_.out (by kernel_rfl)) (fun _ _ _ h => h) (Or.inr ⟨by rfl, rfl⟩) ?_ ?_
            rotate_left
            ·simp only [Act.put, List.setIfInBounds_toArray, List.set_cons_zero, List.set_cons_succ, i64_w, i32_w]
             rfl
            refine pure_ (i := 16) (N := some 102) (v := undef) (a' := ?_) #[true, true, true, true, true, true, true, true, true, true, true, true, true, true, true, true, true, false, false, false] rfl rfl (any_of HT_.out (by kernel_rfl)) (fun _ _ _ h => h) (Or.inr ⟨by rfl, rfl⟩) ?_ ?_
            rotate_left
            ·simp only [Act.put, List.setIfInBounds_toArray, List.set_cons_zero, List.set_cons_succ, i64_w, i32_w]
             rfl
            refine pure_ (i := 17) (N := some 103) (v := undef) (a' := ?_) #[true, true, true, true, true, true, true, true, true, true, true, true, true, true, true, true, true, true, false, false] rfl rfl (any_of HT_.out (by kernel_rfl)) (fun _ _ _ h => h) (Or.inr ⟨by rfl, rfl⟩) ?_ ?_
            rotate_left
            ·simp only [Act.put, List.setIfInBounds_toArray, List.set_cons_zero, List.set_cons_succ, i64_w, i32_w]
             rfl
            refine pure_ (i := 18) (N := some 104) (v := undef) (a' := ?_) #[true, true, true, true, true, true, true, true, true, true, true, true, true, true, true, true, true, true, true, false] rfl rfl (any_of HT_.out (by kernel_rfl)) (fun _ _ _ h => h) (Or.inr ⟨by rfl, rfl⟩) ?_ ?_
            rotate_left
            ·simp only [Act.put, List.setIfInBounds_toArray, List.set_cons_zero, List.set_cons_succ, i64_w, i32_w]
             rfl
            refine pure_ (i := 19) (N := some 105) (v := ?_) (a' := ?_) #[true, true, true, true, true, true, true, true, true, true, true, true, true, true, true, true, true, true, true, true] rfl rfl (any_of HT_.out (by kernel_rfl)) (fun _ _ _ h => h) (Or.inl ⟨by rfl, ?_⟩) ?_ ?_
            rotate_left
            ·intro w'
             go_simp
             with_reducible rfl
            rotate_left
            ·simp only [Act.put, List.setIfInBounds_toArray, List.set_cons_zero, List.set_cons_succ, i64_w, i32_w]
             rfl
            refine done_ (done_of HT_.out (by kernel_rfl)) ?_
            try go_wp2
            go_meet
            case rel => exact ⟨_, (true), (by first | rfl | (simp; done) | (simp [*]; done) | (simp [Int.tdiv_eq_ediv_of_nonneg]; done)), H', ⟨by have := HJ5.out; have := HJ20.out; have := HK3.out; first | omega | exact Nat.le_refl _⟩, ⟨by (with_reducible repeat (first | apply Kd.R_alloc | apply Kd.R_drewN | apply Kd.R_drew)); exact Kd.R_mono HO_252000.out (fun _ hk => ⟨hk.2.2.1, hk.2.2.2⟩)⟩, ⟨by (with_reducible repeat (first | apply Kd.R_alloc | apply Kd.R_drewN | apply Kd.R_drew)); exact Kd.R_mono HO267.out (fun _ hk => ⟨hk.1, hk.2.2.2⟩)⟩, ⟨by (with_reducible repeat (first | apply Kd.R_alloc | apply Kd.R_drewN | apply Kd.R_drew)); exact Kd.R_mono HO271.out (fun _ hk => ⟨hk.1, hk.2.2.2⟩)⟩, ⟨by (with_reducible repeat first | apply blk_drewN | apply blk_drew | apply blk_alloc); exact BK244.out⟩, ⟨by (with_reducible repeat first | apply blk_drewN | apply blk_drew | apply blk_alloc); exact BK251.out⟩, ⟨by (with_reducible repeat first | apply blk_drewN | apply blk_drew | apply blk_alloc); exact BK256.out⟩, ⟨by (with_reducible repeat first | apply blk_drewN | apply blk_drew | apply blk_alloc); exact BK261.out⟩, ⟨by repeat (first | (with_reducible first | exact HB.out | apply below_alloc | apply pw_below_drewN | apply below_drew1 | refine below_set ?_ GE244.out | refine below_set ?_ GE251.out | refine below_set ?_ GE256.out | refine below_set ?_ GE261.out) | exact HB.out)⟩⟩
          case rest =>
           clear HC79
           try clear c1
           try clear p2
           try clear c9
           try clear c13
           try clear c16
           try clear c17
           try clear c95
           try clear c96
           try clear c96b0
           try clear c96b1
           obtain ⟨kq, x105_78, rfl, HA, HJ78, HO_252000, HO_257000, HO_262000, BK244, BK251, BK256, BK261, HB⟩ := hcut
           cases kq with
           | zero => exact absurd HA.out (by simp [atticlaw14_TablePuts.j3])
           | succ kj78 =>
            have H := HA.out
            clear HA
            simp only [atticlaw14_TablePuts.j3] at H
            by_cases c110 : x105_78 = true
            ·subst c110
             have H1 : (some false) = some r := by rw [if_pos rfl] at H; exact H
             clear H
             have H := H1
             clear H1
             exact absurd (Option.some.inj H) (by rw [hrt_.out]; decide)
            ·replace c110 := Bool.eq_false_iff.mpr c110
             subst c110
             have H1 : ((table_Clone.f l0_0).bind fun t276 => ((atticref14_Same.f kj78 t276 l0_0).bind fun t280 => (if t280 = true then ((atticref14_Same.f kj78 l0_0 x252000_3).bind fun t281 => (some t281)) else (some false)))) = some r := by rw [if_neg (show ¬ (false = true) by decide)] at H; exact H
             clear H
             have H := H1
             clear H1
             replace H := Option.bind_eq_some_iff.mp H
             obtain ⟨t276, A1110, H⟩ := H
             replace H : ((atticref14_Same.f kj78 t276 l0_0).bind fun t280 => (if t280 = true then ((atticref14_Same.f kj78 l0_0 x252000_3).bind fun t281 => (some t281)) else (some false))) = some r := H
             have A111 := Aside0.mk A1110
             clear A1110
             replace H := Option.bind_eq_some_iff.mp H
             obtain ⟨t280, A1120, H⟩ := H
             replace H : (if t280 = true then ((atticref14_Same.f kj78 l0_0 x252000_3).bind fun t281 => (some t281)) else (some false)) = some r := H
             have A112 := Aside0.mk A1120
             clear A1120
             by_cases c113 : t280 = true
             ·subst c113
              have H1 : ((atticref14_Same.f kj78 l0_0 x252000_3).bind fun t281 => (some t281)) = some r := by rw [if_pos rfl] at H; exact H
              clear H
              have H := H1
              clear H1
              replace H := Option.bind_eq_some_iff.mp H
              obtain ⟨t281, A1140, H⟩ := H
              replace H : (some t281) = some r := H
              have A114 := Aside0.mk A1140
              clear A1140
              obtain rfl := Option.some.inj H
              have hnb115 := NB244_251.out
              have hnc115 := NB251_244.out
              have hnb116 := NB244_256.out
              have hnc116 := NB256_244.out
              have hnb117 := NB244_261.out
              have hnc117 := NB261_244.out
              have hcz118_0 : wc.cell? ⟨gb244, 0, none⟩ = some (.slice A0_0 l0_0.length c0_0) := (blk_cell BK244.out 0).trans rfl
              have hfz118_0 := blk_frozen BK244.out 0
              go_wp2_with (first | ((with_reducible refine gate_callee (f := 18) rfl ?_); refine goesL_ (some 107) rfl rfl Try.func18 (by kernel_rfl) rfl #[.agg #[.slice A0_0 l0_0.length c0_0]] rfl (by (try simp only [List.map_toArray, List.map_cons, List.map_nil]); first | done | rfl | (simp only [List.length_drop, List.length_take]; rfl)) ?_; (with_reducible refine (table_Clone.calls _ _ l0_0 t276 _ ?side1 ?side2 A111.out).mono ?_); (case side1 => repeat (first | exact (Kd.C_below HR0_0.out HB.out) | (with_reducible refine Kd.C_alloc ?_ _) | (with_reducible refine Kd.C_drewN ?_ _) | (with_reducible refine Kd.C_drew ?_))); (case side2 => exact HC0_0.out); rintro e w119 ⟨v277, rfl, ho0, hb⟩; refine ⟨_, rfl, ?_⟩; have n0_ := Aside0.mk (Kd.R_elder' (by (with_reducible repeat (first | apply Kd.R_alloc | apply Kd.R_drewN | apply Kd.R_drew)); exact HO_252000.out) (Kd.R_base ho0) hb); have n1_ := Aside0.mk (Kd.R_elder' (by (with_reducible repeat (first | apply Kd.R_alloc | apply Kd.R_drewN | apply Kd.R_drew)); exact HO_257000.out) (Kd.R_base ho0) hb); have n2_ := Aside0.mk (Kd.R_elder' (by (with_reducible repeat (first | apply Kd.R_alloc | apply Kd.R_drewN | apply Kd.R_drew)); exact HO_262000.out) (Kd.R_base ho0) hb); have n3_ := Aside0.mk (Kd.R_lower (Kd.R_new' (Kd.R_new' (Kd.R_new' ho0 (Kd.R_lt (by (with_reducible repeat (first | apply Kd.R_alloc | apply Kd.R_drewN | apply Kd.R_drew)); exact HO_252000.out))) (Kd.R_lt (by (with_reducible repeat (first | apply Kd.R_alloc | apply Kd.R_drewN | apply Kd.R_drew)); exact HO_257000.out))) (Kd.R_lt (by (with_reducible repeat (first | apply Kd.R_alloc | apply Kd.R_drewN | apply Kd.R_drew)); exact HO_262000.out))) (below_size (by repeat (first | (with_reducible first | exact HB.out | apply below_alloc | apply pw_below_drewN | apply below_drew1 | refine below_set ?_ GE244.out | refine below_set ?_ GE251.out | refine below_set ?_ GE256.out | refine below_set ?_ GE261.out) | exact HB.out)))); have n4_ := Aside0.mk (blk_below (g := gb244) (o := .cells #[.slice A0_0 l0_0.length c0_0] 24 (0, 0)) (by (with_reducible repeat first | apply blk_drewN | apply blk_drew | apply blk_alloc); exact BK244.out) hb); have n5_ := Aside0.mk (blk_below (g := gb251) (o := .cells #[u252000] 24 (0, 0)) (by (with_reducible repeat first | apply blk_drewN | apply blk_drew | apply blk_alloc); exact BK251.out) hb); have n6_ := Aside0.mk (blk_below (g := gb256) (o := .cells #[.slice Ao85 t265.length co85] 24 (0, 0)) (by (with_reducible repeat first | apply blk_drewN | apply blk_drew | apply blk_alloc); exact BK256.out) hb); have n7_ := Aside0.mk (blk_below (g := gb261) (o := .cells #[.slice Ao91 t269.length co91] 24 (0, 0)) (by (with_reducible repeat first | apply blk_drewN | apply blk_drew | apply blk_alloc); exact BK261.out) hb); have n8_ := Aside0.mk (below_step (by repeat (first | (with_reducible first | exact HB.out | apply below_alloc | apply pw_below_drewN | apply below_drew1 | refine below_set ?_ GE244.out | refine below_set ?_ GE251.out | refine below_set ?_ GE256.out | refine below_set ?_ GE261.out) | exact HB.out)) hb); clear HO_252000; clear HO_257000; clear HO_262000; clear BK244; clear BK251; clear BK256; clear BK261; clear HB; have HO_252000 := n0_; have HO_257000 := n1_; have HO_262000 := n2_; have HO278 := n3_; have BK244 := n4_; have BK251 := n5_; have BK256 := n6_; have BK261 := n7_; have HB := n8_; clear n0_ n1_ n2_ n3_ n4_ n5_ n6_ n7_ n8_; (try clear hb); (try clear hb2); (try clear hk); (try clear hi); (try clear ho0); (try clear A111)) | ((with_reducible refine gate_dst (N := 17) rfl ?_); refine box_event ?hg (N := 17) ?hd (cs := #[.slice none 0 0]) (t := 24) ?hr ?_; (case hd => rfl); (case hg => rfl); (case hr => first | (go_simp; done) | (go_simp; rfl)); intro gb279 hg w120 hbox hb; have n0_ := Aside0.mk (Kd.R_below (by (with_reducible repeat (first | apply Kd.R_alloc | apply Kd.R_drewN | apply Kd.R_drew)); exact HO_252000.out) hb); have n1_ := Aside0.mk (Kd.R_below (by (with_reducible repeat (first | apply Kd.R_alloc | apply Kd.R_drewN | apply Kd.R_drew)); exact HO_257000.out) hb); have n2_ := Aside0.mk (Kd.R_below (by (with_reducible repeat (first | apply Kd.R_alloc | apply Kd.R_drewN | apply Kd.R_drew)); exact HO_262000.out) hb); have n3_ := Aside0.mk (Kd.R_below (by (with_reducible repeat (first | apply Kd.R_alloc | apply Kd.R_drewN | apply Kd.R_drew)); exact HO278.out) hb); have n4_ := Aside0.mk (blk_below (g := gb244) (o := .cells #[.slice A0_0 l0_0.length c0_0] 24 (0, 0)) (by (with_reducible repeat first | apply blk_drewN | apply blk_drew | apply blk_alloc); exact BK244.out) hb); have n5_ := Aside0.mk (blk_below (g := gb251) (o := .cells #[u252000] 24 (0, 0)) (by (with_reducible repeat first | apply blk_drewN | apply blk_drew | apply blk_alloc); exact BK251.out) hb); have n6_ := Aside0.mk (blk_below (g := gb256) (o := .cells #[.slice Ao85 t265.length co85] 24 (0, 0)) (by (with_reducible repeat first | apply blk_drewN | apply blk_drew | apply blk_alloc); exact BK256.out) hb); have n7_ := Aside0.mk (blk_below (g := gb261) (o := .cells #[.slice Ao91 t269.length co91] 24 (0, 0)) (by (with_reducible repeat first | apply blk_drewN | apply blk_drew | apply blk_alloc); exact BK261.out) hb); have n8_ := Aside0.mk (below_step (by repeat (first | (with_reducible first | exact HB.out | apply below_alloc | apply pw_below_drewN | apply below_drew1 | refine below_set ?_ GE244.out | refine below_set ?_ GE251.out | refine below_set ?_ GE256.out | refine below_set ?_ GE261.out) | exact HB.out)) hb); have n9_ := Aside0.mk (hbox); have n10_ := Aside0.mk ((by rw [hg]; exact (below_size (by repeat (first | (with_reducible first | exact HB.out | apply below_alloc | apply pw_below_drewN | apply below_drew1 | refine below_set ?_ GE244.out | refine below_set ?_ GE251.out | refine below_set ?_ GE256.out | refine below_set ?_ GE261.out) | exact HB.out))) : w.heap.size ≤ gb279)); have n11_ := Aside0.mk ((by rw [hg]; exact (below_size (by repeat (first | (with_reducible first | exact HB.out | apply below_alloc | apply pw_below_drewN | apply below_drew1 | refine below_set ?_ GE244.out | refine below_set ?_ GE251.out | refine below_set ?_ GE256.out | refine below_set ?_ GE261.out) | exact HB.out))) : w.heap.size ≤ gb279)); have n12_ := Aside0.mk ((by rw [hg]; exact Nat.ne_of_lt (blk_lt (g := gb244) (o := .cells #[.slice A0_0 l0_0.length c0_0] 24 (0, 0)) (by (with_reducible repeat first | apply blk_drewN | apply blk_drew | apply blk_alloc); exact BK244.out)) : gb244 ≠ gb279)); have n13_ := Aside0.mk ((by rw [hg]; exact Nat.ne_of_gt (blk_lt (g := gb244) (o := .cells #[.slice A0_0 l0_0.length c0_0] 24 (0, 0)) (by (with_reducible repeat first | apply blk_drewN | apply blk_drew | apply blk_alloc); exact BK244.out)) : gb279 ≠ gb244)); have n14_ := Aside0.mk ((by rw [hg]; exact Nat.ne_of_lt (blk_lt (g := gb251) (o := .cells #[u252000] 24 (0, 0)) (by (with_reducible repeat first | apply blk_drewN | apply blk_drew | apply blk_alloc); exact BK251.out)) : gb251 ≠ gb279)); have n15_ := Aside0.mk ((by rw [hg]; exact Nat.ne_of_gt (blk_lt (g := gb251) (o := .cells #[u252000] 24 (0, 0)) (by (with_reducible repeat first | apply blk_drewN | apply blk_drew | apply blk_alloc); exact BK251.out)) : gb279 ≠ gb251)); have n16_ := Aside0.mk ((by rw [hg]; exact Nat.ne_of_lt (blk_lt (g := gb256) (o := .cells #[.slice Ao85 t265.length co85] 24 (0, 0)) (by (with_reducible repeat first | apply blk_drewN | apply blk_drew | apply blk_alloc); exact BK256.out)) : gb256 ≠ gb279)); have n17_ := Aside0.mk ((by rw [hg]; exact Nat.ne_of_gt (blk_lt (g := gb256) (o := .cells #[.slice Ao85 t265.length co85] 24 (0, 0)) (by (with_reducible repeat first | apply blk_drewN | apply blk_drew | apply blk_alloc); exact BK256.out)) : gb279 ≠ gb256)); have n18_ := Aside0.mk ((by rw [hg]; exact Nat.ne_of_lt (blk_lt (g := gb261) (o := .cells #[.slice Ao91 t269.length co91] 24 (0, 0)) (by (with_reducible repeat first | apply blk_drewN | apply blk_drew | apply blk_alloc); exact BK261.out)) : gb261 ≠ gb279)); have n19_ := Aside0.mk ((by rw [hg]; exact Nat.ne_of_gt (blk_lt (g := gb261) (o := .cells #[.slice Ao91 t269.length co91] 24 (0, 0)) (by (with_reducible repeat first | apply blk_drewN | apply blk_drew | apply blk_alloc); exact BK261.out)) : gb279 ≠ gb261)); clear HO_252000; clear HO_257000; clear HO_262000; clear HO278; clear BK244; clear BK251; clear BK256; clear BK261; clear HB; have HO_252000 := n0_; have HO_257000 := n1_; have HO_262000 := n2_; have HO278 := n3_; have BK244 := n4_; have BK251 := n5_; have BK256 := n6_; have BK261 := n7_; have HB := n8_; have BK279 := n9_; have GW279 := n10_; have GE279 := n11_; have NB244_279 := n12_; have NB279_244 := n13_; have NB251_279 := n14_; have NB279_251 := n15_; have NB256_279 := n16_; have NB279_256 := n17_; have NB261_279 := n18_; have NB279_261 := n19_; clear n0_ n1_ n2_ n3_ n4_ n5_ n6_ n7_ n8_ n9_ n10_ n11_ n12_ n13_ n14_ n15_ n16_ n17_ n18_ n19_; clear hb hbox hg; obtain ⟨Ao121, co121, eo121⟩ := Kd.R_slice HO278.out; subst eo121; have hnb122 := NB279_244.out; have hnc122 := NB244_279.out; have hnb123 := NB279_251.out; have hnc123 := NB251_279.out; have hnb124 := NB279_256.out; have hnc124 := NB256_279.out; have hnb125 := NB279_261.out; have hnc125 := NB261_279.out; have hcz126_0 : w120.cell? ⟨gb279, 0, none⟩ = some (.slice none 0 0) := (blk_cell BK279.out 0).trans rfl; have hfz126_0 := blk_frozen BK279.out 0; have hcz127_0 : w120.cell? ⟨gb244, 0, none⟩ = some (.slice A0_0 l0_0.length c0_0) := (blk_cell BK244.out 0).trans rfl; have hfz127_0 := blk_frozen BK244.out 0) | ((with_reducible refine gate_callee (f := 13) rfl ?_); refine goesL_ (some 110) rfl rfl Try.func13 (by kernel_rfl) rfl #[.agg #[.slice Ao121 t276.length co121], .agg #[.slice A0_0 l0_0.length c0_0]] rfl (by (try simp only [List.map_toArray, List.map_cons, List.map_nil]); first | done | rfl | (simp only [List.length_drop, List.length_take]; rfl)) ?_; (with_reducible refine (atticref14_Same.calls kj78 _ _ t276 _ _ l0_0 true _ ?side1 ?side2 ?side3 ?side4 A112.out).mono ?_); (case side1 => refine (Kd.R_reads' (e := 34) (base := w.heap.size) (ok := fun k_ => (((True ∧ some k_ ≠ (u252000 : Value).ownBlock) ∧ some k_ ≠ (.slice Ao85 t265.length co85 : Value).ownBlock) ∧ some k_ ≠ (.slice Ao91 t269.length co91 : Value).ownBlock)) (n := t276.length) (c := co121) ?_).2.2; exact (by (with_reducible repeat (first | apply Kd.R_alloc | apply Kd.R_drewN | apply Kd.R_drew)); exact (Kd.R_mono (Kd.R_far (p := ⟨gb279, 0, none⟩) (Kd.R_types HO278.out BK279.out (by decide)) (fun _ hk => hk.2) (.slice Ao121 t276.length co121)) (fun _ h_ => h_.1)))); (case side2 => exact (Kd.R_reads' HO278.out).2.1); (case side3 => exact Kd.C_below HR0_0.out (by repeat (first | (with_reducible first | exact HB.out | apply below_alloc | apply pw_below_drewN | apply below_drew1 | refine below_set ?_ GE244.out | refine below_set ?_ GE251.out | refine below_set ?_ GE256.out | refine below_set ?_ GE261.out | refine below_set ?_ GE279.out) | exact HB.out))); (case side4 => exact HC0_0.out); rintro e w128 ⟨rfl, hb⟩; refine ⟨_, rfl, ?_⟩; have n0_ := Aside0.mk (Kd.R_below (by (with_reducible repeat (first | apply Kd.R_alloc | apply Kd.R_drewN | apply Kd.R_drew)); exact (Kd.R_mono (Kd.R_far (p := ⟨gb279, 0, none⟩) (Kd.R_types HO_252000.out BK279.out (by decide)) (fun _ hk => hk.2) (.slice Ao121 t276.length co121)) (fun _ h_ => h_.1))) hb); have n1_ := Aside0.mk (Kd.R_below (by (with_reducible repeat (first | apply Kd.R_alloc | apply Kd.R_drewN | apply Kd.R_drew)); exact (Kd.R_mono (Kd.R_far (p := ⟨gb279, 0, none⟩) (Kd.R_types HO_257000.out BK279.out (by decide)) (fun _ hk => hk.2) (.slice Ao121 t276.length co121)) (fun _ h_ => h_.1))) hb); have n2_ := Aside0.mk (Kd.R_below (by (with_reducible repeat (first | apply Kd.R_alloc | apply Kd.R_drewN | apply Kd.R_drew)); exact (Kd.R_mono (Kd.R_far (p := ⟨gb279, 0, none⟩) (Kd.R_types HO_262000.out BK279.out (by decide)) (fun _ hk => hk.2) (.slice Ao121 t276.length co121)) (fun _ h_ => h_.1))) hb); have n3_ := Aside0.mk (Kd.R_below (by (with_reducible repeat (first | apply Kd.R_alloc | apply Kd.R_drewN | apply Kd.R_drew)); exact (Kd.R_mono (Kd.R_far (p := ⟨gb279, 0, none⟩) (Kd.R_types HO278.out BK279.out (by decide)) (fun _ hk => hk.2) (.slice Ao121 t276.length co121)) (fun _ h_ => h_.1))) hb); have n4_ := Aside0.mk (blk_below (g := gb244) (o := .cells #[.slice A0_0 l0_0.length c0_0] 24 (0, 0)) (by (with_reducible repeat first | apply blk_drewN | apply blk_drew | apply blk_alloc); refine blk_far ?_ NB244_279.out _; (with_reducible repeat first | apply blk_drewN | apply blk_drew | apply blk_alloc); exact BK244.out) hb); have n5_ := Aside0.mk (blk_below (g := gb251) (o := .cells #[u252000] 24 (0, 0)) (by (with_reducible repeat first | apply blk_drewN | apply blk_drew | apply blk_alloc); refine blk_far ?_ NB251_279.out _; (with_reducible repeat first | apply blk_drewN | apply blk_drew | apply blk_alloc); exact BK251.out) hb); have n6_ := Aside0.mk (blk_below (g := gb256) (o := .cells #[.slice Ao85 t265.length co85] 24 (0, 0)) (by (with_reducible repeat first | apply blk_drewN | apply blk_drew | apply blk_alloc); refine blk_far ?_ NB256_279.out _; (with_reducible repeat first | apply blk_drewN | apply blk_drew | apply blk_alloc); exact BK256.out) hb); have n7_ := Aside0.mk (blk_below (g := gb261) (o := .cells #[.slice Ao91 t269.length co91] 24 (0, 0)) (by (with_reducible repeat first | apply blk_drewN | apply blk_drew | apply blk_alloc); refine blk_far ?_ NB261_279.out _; (with_reducible repeat first | apply blk_drewN | apply blk_drew | apply blk_alloc); exact BK261.out) hb); have n8_ := Aside0.mk (blk_below (g := gb279) (o := .cells #[.slice Ao121 t276.length co121] 24 (0, 0)) (by (with_reducible repeat first | apply blk_drewN | apply blk_drew | apply blk_alloc); refine blk_put (cs := #[.slice none 0 0]) ?_ 0 _ rfl; (with_reducible repeat first | apply blk_drewN | apply blk_drew | apply blk_alloc); exact BK279.out) hb); have n9_ := Aside0.mk (below_step (by repeat (first | (with_reducible first | exact HB.out | apply below_alloc | apply pw_below_drewN | apply below_drew1 | refine below_set ?_ GE244.out | refine below_set ?_ GE251.out | refine below_set ?_ GE256.out | refine below_set ?_ GE261.out | refine below_set ?_ GE279.out) | exact HB.out)) hb); clear HO_252000; clear HO_257000; clear HO_262000; clear HO278; clear BK244; clear BK251; clear BK256; clear BK261; clear BK279; clear HB; have HO_252000 := n0_; have HO_257000 := n1_; have HO_262000 := n2_; have HO278 := n3_; have BK244 := n4_; have BK251 := n5_; have BK256 := n6_; have BK261 := n7_; have BK279 := n8_; have HB := n9_; clear n0_ n1_ n2_ n3_ n4_ n5_ n6_ n7_ n8_ n9_; (try clear hb); (try clear hb2); (try clear hk); (try clear hi); (try clear A112); have hcz129_0 : w128.cell? ⟨gb244, 0, none⟩ = some (.slice A0_0 l0_0.length c0_0) := (blk_cell BK244.out 0).trans rfl; have hfz129_0 := blk_frozen BK244.out 0; have hnb130 := NB251_256.out; have hnc130 := NB256_251.out; have hnb131 := NB251_261.out; have hnc131 := NB261_251.out; have hcz132_0 : w128.cell? ⟨gb251, 0, none⟩ = some (u252000) := (blk_cell BK251.out 0).trans rfl; have hfz132_0 := blk_frozen BK251.out 0; obtain ⟨Ao133, co133, eo133⟩ := Kd.R_slice HO_252000.out; subst eo133; have hsp1_ : w128.cell? ⟨gb256, 0, none⟩ = some (.slice Ao85 t265.length co85) := (blk_cell BK256.out 0).trans rfl; have hsp2_ : w128.cell? ⟨gb279, 0, none⟩ = some (.slice Ao121 t276.length co121) := (blk_cell BK279.out 0).trans rfl) | ((with_reducible refine gate_callee (f := 13) rfl ?_); refine goesL_ (some 139) rfl rfl Try.func13 (by kernel_rfl) rfl #[.agg #[.slice A0_0 l0_0.length c0_0], .agg #[.slice Ao133 x252000_3.length co133]] rfl (by (try simp only [List.map_toArray, List.map_cons, List.map_nil]); first | done | rfl | (simp only [List.length_drop, List.length_take]; rfl)) ?_; (with_reducible refine (atticref14_Same.calls kj78 _ _ l0_0 _ _ x252000_3 t281 _ ?side1 ?side2 ?side3 ?side4 A114.out).mono ?_); (case side1 => repeat (first | exact (Kd.C_below HR0_0.out HB.out) | (with_reducible refine Kd.C_alloc ?_ _) | (with_reducible refine Kd.C_drewN ?_ _) | (with_reducible refine Kd.C_drew ?_))); (case side2 => exact HC0_0.out); (case side3 => repeat (first | exact (Kd.R_reads' HO_252000.out).2.2 | (with_reducible refine Kd.C_alloc ?_ _) | (with_reducible refine Kd.C_drewN ?_ _) | (with_reducible refine Kd.C_drew ?_))); (case side4 => exact (Kd.R_reads' HO_252000.out).2.1); rintro e w134 ⟨rfl, hb⟩; refine ⟨_, rfl, ?_⟩; have n0_ := Aside0.mk (Kd.R_below (by (with_reducible repeat (first | apply Kd.R_alloc | apply Kd.R_drewN | apply Kd.R_drew)); exact HO_252000.out) hb); have n1_ := Aside0.mk (Kd.R_below (by (with_reducible repeat (first | apply Kd.R_alloc | apply Kd.R_drewN | apply Kd.R_drew)); exact HO_257000.out) hb); have n2_ := Aside0.mk (Kd.R_below (by (with_reducible repeat (first | apply Kd.R_alloc | apply Kd.R_drewN | apply Kd.R_drew)); exact HO_262000.out) hb); have n3_ := Aside0.mk (Kd.R_below (by (with_reducible repeat (first | apply Kd.R_alloc | apply Kd.R_drewN | apply Kd.R_drew)); exact HO278.out) hb); have n4_ := Aside0.mk (blk_below (g := gb244) (o := .cells #[.slice A0_0 l0_0.length c0_0] 24 (0, 0)) (by (with_reducible repeat first | apply blk_drewN | apply blk_drew | apply blk_alloc); exact BK244.out) hb); have n5_ := Aside0.mk (blk_below (g := gb251) (o := .cells #[.slice Ao133 x252000_3.length co133] 24 (0, 0)) (by (with_reducible repeat first | apply blk_drewN | apply blk_drew | apply blk_alloc); exact BK251.out) hb); have n6_ := Aside0.mk (blk_below (g := gb256) (o := .cells #[.slice Ao85 t265.length co85] 24 (0, 0)) (by (with_reducible repeat first | apply blk_drewN | apply blk_drew | apply blk_alloc); exact BK256.out) hb); have n7_ := Aside0.mk (blk_below (g := gb261) (o := .cells #[.slice Ao91 t269.length co91] 24 (0, 0)) (by (with_reducible repeat first | apply blk_drewN | apply blk_drew | apply blk_alloc); exact BK261.out) hb); have n8_ := Aside0.mk (blk_below (g := gb279) (o := .cells #[.slice Ao121 t276.length co121] 24 (0, 0)) (by (with_reducible repeat first | apply blk_drewN | apply blk_drew | apply blk_alloc); exact BK279.out) hb); have n9_ := Aside0.mk (below_step (by repeat (first | (with_reducible first | exact HB.out | apply below_alloc | apply pw_below_drewN | apply below_drew1 | refine below_set ?_ GE244.out | refine below_set ?_ GE251.out | refine below_set ?_ GE256.out | refine below_set ?_ GE261.out | refine below_set ?_ GE279.out) | exact HB.out)) hb); clear HO_252000; clear HO_257000; clear HO_262000; clear HO278; clear BK244; clear BK251; clear BK256; clear BK261; clear BK279; clear HB; have HO_252000 := n0_; have HO_257000 := n1_; have HO_262000 := n2_; have HO278 := n3_; have BK244 := n4_; have BK251 := n5_; have BK256 := n6_; have BK261 := n7_; have BK279 := n8_; have HB := n9_; clear n0_ n1_ n2_ n3_ n4_ n5_ n6_ n7_ n8_ n9_; (try clear hb); (try clear hb2); (try clear hk); (try clear hi); (try clear A114)))
              have dwx_ : ∀ k_, (.slice Ao133 x252000_3.length co133 : Value).ownBlock = some k_ → some k_ ≠ (.slice Ao85 t265.length co85 : Value).ownBlock := fun k_ hk_ => by have h_ := HO_252000.out.1 k_ hk_; (first | exact h_ | exact h_.1 | exact h_.2 | exact h_.1.1 | exact h_.1.2 | exact h_.2.1 | exact h_.2.2 | exact h_.1.1.1 | exact h_.1.1.2 | exact h_.1.2.1 | exact h_.1.2.2 | exact h_.2.1.1 | exact h_.2.1.2 | exact h_.2.2.1 | exact h_.2.2.2 | exact h_.1.1.1.1 | exact h_.1.1.1.2 | exact h_.1.1.2.1 | exact h_.1.1.2.2 | exact h_.1.2.1.1 | exact h_.1.2.1.2 | exact h_.1.2.2.1 | exact h_.1.2.2.2 | exact h_.2.2.2.1 | exact h_.2.2.2.2 | exact h_.2.2.1.1 | exact h_.2.2.1.2)
              have dwc_ : ∀ k_, (.slice Ao133 x252000_3.length co133 : Value).ownBlock = some k_ → some k_ ≠ (.slice Ao121 t276.length co121 : Value).ownBlock := fun k_ hk_ => by have h_ := HO_252000.out.1 k_ hk_; (first | exact h_ | exact h_.1 | exact h_.2 | exact h_.1.1 | exact h_.1.2 | exact h_.2.1 | exact h_.2.2 | exact h_.1.1.1 | exact h_.1.1.2 | exact h_.1.2.1 | exact h_.1.2.2 | exact h_.2.1.1 | exact h_.2.1.2 | exact h_.2.2.1 | exact h_.2.2.2 | exact h_.1.1.1.1 | exact h_.1.1.1.2 | exact h_.1.1.2.1 | exact h_.1.1.2.2 | exact h_.1.2.1.1 | exact h_.1.2.1.2 | exact h_.1.2.2.1 | exact h_.1.2.2.2 | exact h_.2.2.2.1 | exact h_.2.2.2.2 | exact h_.2.2.1.1 | exact h_.2.2.1.2)
              have dxc_ : ∀ k_, (.slice Ao85 t265.length co85 : Value).ownBlock = some k_ → some k_ ≠ (.slice Ao121 t276.length co121 : Value).ownBlock := fun k_ hk_ => by have h_ := HO_257000.out.1 k_ hk_; (first | exact h_ | exact h_.1 | exact h_.2 | exact h_.1.1 | exact h_.1.2 | exact h_.2.1 | exact h_.2.2 | exact h_.1.1.1 | exact h_.1.1.2 | exact h_.1.2.1 | exact h_.1.2.2 | exact h_.2.1.1 | exact h_.2.1.2 | exact h_.2.2.1 | exact h_.2.2.2 | exact h_.1.1.1.1 | exact h_.1.1.1.2 | exact h_.1.1.2.1 | exact h_.1.1.2.2 | exact h_.1.2.1.1 | exact h_.1.2.1.2 | exact h_.1.2.2.1 | exact h_.1.2.2.2 | exact h_.2.2.2.1 | exact h_.2.2.2.2 | exact h_.2.2.1.1 | exact h_.2.2.1.2)
              have dcx_ : ∀ k_, (.slice Ao121 t276.length co121 : Value).ownBlock = some k_ → some k_ ≠ (.slice Ao85 t265.length co85 : Value).ownBlock := fun k_ hk_ => by have h_ := HO278.out.1 k_ hk_; (first | exact h_ | exact h_.1 | exact h_.2 | exact h_.1.1 | exact h_.1.2 | exact h_.2.1 | exact h_.2.2 | exact h_.1.1.1 | exact h_.1.1.2 | exact h_.1.2.1 | exact h_.1.2.2 | exact h_.2.1.1 | exact h_.2.1.2 | exact h_.2.2.1 | exact h_.2.2.2 | exact h_.1.1.1.1 | exact h_.1.1.1.2 | exact h_.1.1.2.1 | exact h_.1.1.2.2 | exact h_.1.2.1.1 | exact h_.1.2.1.2 | exact h_.1.2.2.1 | exact h_.1.2.2.2 | exact h_.2.2.2.1 | exact h_.2.2.2.2 | exact h_.2.2.1.1 | exact h_.2.2.1.2)
              have dyx_ : ∀ k_, (.slice Ao91 t269.length co91 : Value).ownBlock = some k_ → some k_ ≠ (.slice Ao85 t265.length co85 : Value).ownBlock := fun k_ hk_ => by have h_ := HO_262000.out.1 k_ hk_; (first | exact h_ | exact h_.1 | exact h_.2 | exact h_.1.1 | exact h_.1.2 | exact h_.2.1 | exact h_.2.2 | exact h_.1.1.1 | exact h_.1.1.2 | exact h_.1.2.1 | exact h_.1.2.2 | exact h_.2.1.1 | exact h_.2.1.2 | exact h_.2.2.1 | exact h_.2.2.2 | exact h_.1.1.1.1 | exact h_.1.1.1.2 | exact h_.1.1.2.1 | exact h_.1.1.2.2 | exact h_.1.2.1.1 | exact h_.1.2.1.2 | exact h_.1.2.2.1 | exact h_.1.2.2.2 | exact h_.2.2.2.1 | exact h_.2.2.2.2 | exact h_.2.2.1.1 | exact h_.2.2.1.2)
              have dyc_ : ∀ k_, (.slice Ao91 t269.length co91 : Value).ownBlock = some k_ → some k_ ≠ (.slice Ao121 t276.length co121 : Value).ownBlock := fun k_ hk_ => by have h_ := HO_262000.out.1 k_ hk_; (first | exact h_ | exact h_.1 | exact h_.2 | exact h_.1.1 | exact h_.1.2 | exact h_.2.1 | exact h_.2.2 | exact h_.1.1.1 | exact h_.1.1.2 | exact h_.1.2.1 | exact h_.1.2.2 | exact h_.2.1.1 | exact h_.2.1.2 | exact h_.2.2.1 | exact h_.2.2.2 | exact h_.1.1.1.1 | exact h_.1.1.1.2 | exact h_.1.1.2.1 | exact h_.1.1.2.2 | exact h_.1.2.1.1 | exact h_.1.2.1.2 | exact h_.1.2.2.1 | exact h_.1.2.2.2 | exact h_.2.2.2.1 | exact h_.2.2.2.2 | exact h_.2.2.1.1 | exact h_.2.2.1.2)
              have LB_ := blk_new w128 (.cells #[.slice Ao85 t265.length co85, .slice Ao121 t276.length co121] 22)
              have S0x_ : Kd.R k34 34 (w128.alloc (.cells #[.slice Ao85 t265.length co85, .slice Ao121 t276.length co121] 22)) w.heap.size (fun k_ => True ∧ some k_ ≠ (.slice Ao121 t276.length co121 : Value).ownBlock) (.slice Ao85 t265.length co85) t265 := Kd.R_alloc (Kd.R_reok rfl HO_257000.out (fun k_ hk_ => ⟨trivial, dxc_ k_ hk_⟩)) _
              have S0c_ : Kd.R k34 34 (w128.alloc (.cells #[.slice Ao85 t265.length co85, .slice Ao121 t276.length co121] 22)) w.heap.size (fun k_ => True ∧ some k_ ≠ (.slice Ao85 t265.length co85 : Value).ownBlock) (.slice Ao121 t276.length co121) t276 := Kd.R_alloc (Kd.R_reok rfl HO278.out (fun k_ hk_ => ⟨trivial, dcx_ k_ hk_⟩)) _
              have S0w_ : Kd.R k34 34 (w128.alloc (.cells #[.slice Ao85 t265.length co85, .slice Ao121 t276.length co121] 22)) w.heap.size (fun k_ => some k_ ≠ (.slice Ao121 t276.length co121 : Value).ownBlock ∧ some k_ ≠ (.slice Ao85 t265.length co85 : Value).ownBlock) (.slice Ao133 x252000_3.length co133) x252000_3 := Kd.R_alloc (Kd.R_reok rfl HO_252000.out (fun k_ hk_ => ⟨dwc_ k_ hk_, dwx_ k_ hk_⟩)) _
              have S0y_ : Kd.R k34 34 (w128.alloc (.cells #[.slice Ao85 t265.length co85, .slice Ao121 t276.length co121] 22)) w.heap.size (fun k_ => some k_ ≠ (.slice Ao121 t276.length co121 : Value).ownBlock ∧ some k_ ≠ (.slice Ao85 t265.length co85 : Value).ownBlock) (.slice Ao91 t269.length co91) t269 := Kd.R_alloc (Kd.R_reok rfl HO_262000.out (fun k_ hk_ => ⟨dyc_ k_ hk_, dyx_ k_ hk_⟩)) _
              have HB0_ := below_alloc (o := (.cells #[.slice Ao85 t265.length co85, .slice Ao121 t276.length co121] 22)) HB.out
              have B0244_ := blk_alloc BK244.out (.cells #[.slice Ao85 t265.length co85, .slice Ao121 t276.length co121] 22)
              have B0251_ := blk_alloc BK251.out (.cells #[.slice Ao85 t265.length co85, .slice Ao121 t276.length co121] 22)
              have B0256_ := blk_alloc BK256.out (.cells #[.slice Ao85 t265.length co85, .slice Ao121 t276.length co121] 22)
              have B0261_ := blk_alloc BK261.out (.cells #[.slice Ao85 t265.length co85, .slice Ao121 t276.length co121] 22)
              have B0279_ := blk_alloc BK279.out (.cells #[.slice Ao85 t265.length co85, .slice Ao121 t276.length co121] 22)
              generalize w128.heap.size = lb_ at *
              generalize (w128.alloc (.cells #[.slice Ao85 t265.length co85, .slice Ao121 t276.length co121] 22)) = wa_ at *
              have hm1_ : t265.length ≤ 9223372036854775807 := (Kd.R_reads' S0x_).2.2.2.1
              have hm2_ : t276.length ≤ 9223372036854775807 := (Kd.R_reads' S0c_).2.2.2.1
              have nx_ := Kd.R_ne S0x_ LB_ (by decide)
              have nc_ := Kd.R_ne S0c_ LB_ (by decide)
              go_loopw [118] (fun i wr => ∃ (k : Nat) (xs cs : List S34), k ≤ 2 ∧ i = .int .i64 k ∧ xs.length = t265.length ∧ cs.length = t276.length ∧ Kd.R k34 34 wr w.heap.size (fun k_ => True ∧ some k_ ≠ (.slice Ao121 t276.length co121 : Value).ownBlock) (.slice Ao85 t265.length co85) xs ∧ Kd.R k34 34 wr w.heap.size (fun k_ => True ∧ some k_ ≠ (.slice Ao85 t265.length co85 : Value).ownBlock) (.slice Ao121 t276.length co121) cs ∧ ∃ w1, wa_.grownBy w1 (.slice Ao85 t265.length co85 : Value).ownBlock ∧ w1.grownBy wr (.slice Ao121 t276.length co121 : Value).ownBlock ∧ (k = 0 → w1 = wr)) (fun i _ => 2 - (intOf i).toNat)
              case atStart => exact ⟨0, t265, t276, by omega, rfl, rfl, rfl, S0x_, S0c_, wa_, World.grownBy.refl _ _, World.grownBy.refl _ _, fun _ => rfl⟩
              case round =>
               obtain ⟨k_, xs_, cs_, hk_, rfl, lx_, lc_, Rx_, Rc_, w1_, g1_, g2_, hz_⟩ := hrel
               have LBr_ := blk_grown (blk_grown LB_ g1_ nx_) g2_ nc_
               have l0_ : wr.cell? ⟨lb_, 0, none⟩ = some (.slice Ao85 t265.length co85) := (blk_cell LBr_ 0).trans rfl
               have l1_ : wr.cell? ⟨lb_, 1, none⟩ = some (.slice Ao121 t276.length co121) := (blk_cell LBr_ 1).trans rfl
               by_cases k0_ : k_ = 0
               ·subst k0_
                rw [hz_ rfl] at g1_
                clear g2_ hz_
                go_wp2
                go_loopw [124] (fun i wi => ∃ (j : Nat) (ys : List S34), j ≤ t265.length ∧ i = .int .i64 j ∧ ys.length = t265.length ∧ Kd.R k34 34 wi w.heap.size (fun k_ => True ∧ some k_ ≠ (.slice Ao121 t276.length co121 : Value).ownBlock) (.slice Ao85 t265.length co85) ys ∧ wr.grownBy wi (.slice Ao85 t265.length co85 : Value).ownBlock) (fun i _ => t265.length - (intOf i).toNat)
                case atStart => exact ⟨0, xs_, Nat.zero_le _, rfl, lx_, Rx_, World.grownBy.refl _ _⟩
                case round =>
                 obtain ⟨j_, ys_, hj_, rfl, ly_, Ry_, gy_⟩ := hrel
                 by_cases hlt_ : j_ < t265.length
                 ·obtain ⟨go_, co_, eo_, _⟩ := Kd.R_form Ry_ (by omega)
                  injection eo_ with ea_ en_ ec_
                  subst ea_
                  obtain ⟨ce_, hcl_, hM_, hcc_, hfr_⟩ := Kd.R_elem Ry_ z34 (j_ : Int) (by omega) (by omega)
                  obtain rfl := k34_openM hM_
                  have HP_ := Kd.R_seg Ry_ (j_ : Int) (by omega) (by omega) (seg := [.int .u32 (Go.bits .xor .u32 ((rd_T34 ys_ (j_ : Int)).f1) 255)]) (j := 1) hcl_ hcc_ (show 2 ≤ 2 from by decide) (x' := (⟨(rd_T34 ys_ (j_ : Int)).f0, Go.bits .xor .u32 ((rd_T34 ys_ (j_ : Int)).f1) 255⟩ : S34)) (k34_mkM _ _ _ (⟨(rd_T34 ys_ (j_ : Int)).f0, Go.bits .xor .u32 ((rd_T34 ys_ (j_ : Int)).f1) 255⟩ : S34)) (fun _ hk => hk)
                  have hx1_ : wr.cell? ⟨go_, j_ * 2 + 1, none⟩ = some (.int .u32 ((rd_T34 ys_ (j_ : Int)).f1)) := hcc_ 1 _ rfl
                  have hf1_ : wr.frozen? ⟨go_, j_ * 2 + 1, none⟩ = false := hfr_ 1
                  clear hcl_ hcc_ hfr_ hM_ en_ ec_
                  have LY_ := Aside0.mk ly_
                  clear ly_
                  go_wp2
                  go_roundw
                  case rel => exact ⟨j_ + 1, _, by omega, by simp, by rw [List.length_set]; exact LY_.out, HP_.1, gy_.trans HP_.2⟩
                  case measure => simp [intOf]; omega
                 ·obtain rfl : j_ = t265.length := by omega
                  go_wp2
                  go_roundw
                  case rel => exact ⟨1, ys_, cs_, by omega, by simp, ly_, lc_, Ry_, Kd.R_after (v := .slice Ao85 t265.length co85) (v1 := .slice Ao85 t265.length co85) (ok := fun _ => True) Rc_ gy_ (.inl rfl), _, g1_.trans gy_, World.grownBy.refl _ _, fun h => absurd h (by decide)⟩
                  case measure => simp [intOf]
               ·by_cases k1_ : k_ = 1
                ·subst k1_
                 go_wp2
                 go_loopw [124] (fun i wi => ∃ (j : Nat) (ys : List S34), j ≤ t276.length ∧ i = .int .i64 j ∧ ys.length = t276.length ∧ Kd.R k34 34 wi w.heap.size (fun k_ => True ∧ some k_ ≠ (.slice Ao85 t265.length co85 : Value).ownBlock) (.slice Ao121 t276.length co121) ys ∧ wr.grownBy wi (.slice Ao121 t276.length co121 : Value).ownBlock) (fun i _ => t276.length - (intOf i).toNat)
                 case atStart => exact ⟨0, cs_, Nat.zero_le _, rfl, lc_, Rc_, World.grownBy.refl _ _⟩
                 case round =>
                  obtain ⟨j_, ys_, hj_, rfl, ly_, Ry_, gy_⟩ := hrel
                  by_cases hlt_ : j_ < t276.length
                  ·obtain ⟨go_, co_, eo_, _⟩ := Kd.R_form Ry_ (by omega)
                   injection eo_ with ea_ en_ ec_
                   subst ea_
                   obtain ⟨ce_, hcl_, hM_, hcc_, hfr_⟩ := Kd.R_elem Ry_ z34 (j_ : Int) (by omega) (by omega)
                   obtain rfl := k34_openM hM_
                   have HP_ := Kd.R_seg Ry_ (j_ : Int) (by omega) (by omega) (seg := [.int .u32 (Go.bits .xor .u32 ((rd_T34 ys_ (j_ : Int)).f1) 255)]) (j := 1) hcl_ hcc_ (show 2 ≤ 2 from by decide) (x' := (⟨(rd_T34 ys_ (j_ : Int)).f0, Go.bits .xor .u32 ((rd_T34 ys_ (j_ : Int)).f1) 255⟩ : S34)) (k34_mkM _ _ _ (⟨(rd_T34 ys_ (j_ : Int)).f0, Go.bits .xor .u32 ((rd_T34 ys_ (j_ : Int)).f1) 255⟩ : S34)) (fun _ hk => hk)
                   have hx1_ : wr.cell? ⟨go_, j_ * 2 + 1, none⟩ = some (.int .u32 ((rd_T34 ys_ (j_ : Int)).f1)) := hcc_ 1 _ rfl
                   have hf1_ : wr.frozen? ⟨go_, j_ * 2 + 1, none⟩ = false := hfr_ 1
                   clear hcl_ hcc_ hfr_ hM_ en_ ec_
                   have LY_ := Aside0.mk ly_
                   clear ly_
                   go_wp2
                   go_roundw
                   case rel => exact ⟨j_ + 1, _, by omega, by simp, by rw [List.length_set]; exact LY_.out, HP_.1, gy_.trans HP_.2⟩
                   case measure => simp [intOf]; omega
                  ·obtain rfl : j_ = t276.length := by omega
                   go_wp2
                   go_roundw
                   case rel => exact ⟨2, xs_, ys_, by omega, by simp, lx_, ly_, Kd.R_after (v := .slice Ao121 t276.length co121) (v1 := .slice Ao121 t276.length co121) (ok := fun _ => True) Rx_ gy_ (.inl rfl), Ry_, _, g1_, g2_.trans gy_, fun h => absurd h (by decide)⟩
                   case measure => simp [intOf]
                ·obtain rfl : k_ = 2 := by omega
                 have HBr_ := (HB0_.grown g1_ HB0_.size (fun k_ e_ => Kd.R_base S0x_ k_ e_)).grown g2_ (Nat.le_trans HB0_.size g1_.size) (fun k_ e_ => Kd.R_base S0c_ k_ e_)
                 have B1244_ := blk_grown (blk_grown B0244_ g1_ (Kd.R_ne S0x_ B0244_ (by decide))) g2_ (Kd.R_ne S0c_ B0244_ (by decide))
                 have B1251_ := blk_grown (blk_grown B0251_ g1_ (Kd.R_ne S0x_ B0251_ (by decide))) g2_ (Kd.R_ne S0c_ B0251_ (by decide))
                 have B1256_ := blk_grown (blk_grown B0256_ g1_ (Kd.R_ne S0x_ B0256_ (by decide))) g2_ (Kd.R_ne S0c_ B0256_ (by decide))
                 have B1261_ := blk_grown (blk_grown B0261_ g1_ (Kd.R_ne S0x_ B0261_ (by decide))) g2_ (Kd.R_ne S0c_ B0261_ (by decide))
                 have B1279_ := blk_grown (blk_grown B0279_ g1_ (Kd.R_ne S0x_ B0279_ (by decide))) g2_ (Kd.R_ne S0c_ B0279_ (by decide))
                 have S1w_ := Kd.R_after (v := .slice Ao121 t276.length co121) (v1 := .slice Ao121 t276.length co121) (ok := fun k_ => some k_ ≠ (.slice Ao85 t265.length co85 : Value).ownBlock) (Kd.R_mono (Kd.R_after (v := .slice Ao85 t265.length co85) (v1 := .slice Ao85 t265.length co85) (ok := fun k_ => some k_ ≠ (.slice Ao121 t276.length co121 : Value).ownBlock) S0w_ g1_ (.inl rfl)) (fun _ hk => ⟨hk.2, hk.1⟩)) g2_ (.inl rfl)
                 have S1y_ := Kd.R_after (v := .slice Ao121 t276.length co121) (v1 := .slice Ao121 t276.length co121) (ok := fun k_ => some k_ ≠ (.slice Ao85 t265.length co85 : Value).ownBlock) (Kd.R_mono (Kd.R_after (v := .slice Ao85 t265.length co85) (v1 := .slice Ao85 t265.length co85) (ok := fun k_ => some k_ ≠ (.slice Ao121 t276.length co121 : Value).ownBlock) S0y_ g1_ (.inl rfl)) (fun _ hk => ⟨hk.2, hk.1⟩)) g2_ (.inl rfl)
                 clear HO_252000 HO_257000 HO_262000 HO278 BK244 BK251 BK256 BK261 BK279 HB
                 have HO_252000 := Aside0.mk S1w_
                 have HO_257000 := Aside0.mk Rx_
                 have HO_262000 := Aside0.mk S1y_
                 have HO278 := Aside0.mk Rc_
                 have BK244 := Aside0.mk B1244_
                 have BK251 := Aside0.mk B1251_
                 have BK256 := Aside0.mk B1256_
                 have BK261 := Aside0.mk B1261_
                 have BK279 := Aside0.mk B1279_
                 have HB := Aside0.mk HBr_
                 clear S1w_ S1y_ HBr_ B1244_ B1251_ B1256_ B1261_ B1279_
                 have hcy1_ : wr.cell? ⟨gb244, 0, none⟩ = some (.slice A0_0 l0_0.length c0_0) := (blk_cell BK244.out 0).trans rfl
                 have hcy2_ : wr.cell? ⟨gb251, 0, none⟩ = some (.slice Ao133 x252000_3.length co133) := (blk_cell BK251.out 0).trans rfl
                 go_wp2_with (first | ((with_reducible refine gate_callee (f := 13) rfl ?_); refine goesL_ (some 139) rfl rfl Try.func13 (by kernel_rfl) rfl #[.agg #[.slice A0_0 l0_0.length c0_0], .agg #[.slice Ao133 x252000_3.length co133]] rfl (by (try simp only [List.map_toArray, List.map_cons, List.map_nil]); first | done | rfl | (simp only [List.length_drop, List.length_take]; rfl)) ?_; (with_reducible refine (atticref14_Same.calls kj78 _ _ l0_0 _ _ x252000_3 t281 _ ?side1 ?side2 ?side3 ?side4 A114.out).mono ?_); (case side1 => repeat (first | exact (Kd.C_below HR0_0.out HB.out) | (with_reducible refine Kd.C_alloc ?_ _) | (with_reducible refine Kd.C_drewN ?_ _) | (with_reducible refine Kd.C_drew ?_))); (case side2 => exact HC0_0.out); (case side3 => repeat (first | exact (Kd.R_reads' HO_252000.out).2.2 | (with_reducible refine Kd.C_alloc ?_ _) | (with_reducible refine Kd.C_drewN ?_ _) | (with_reducible refine Kd.C_drew ?_))); (case side4 => exact (Kd.R_reads' HO_252000.out).2.1); rintro e w134 ⟨rfl, hb⟩; refine ⟨_, rfl, ?_⟩; have n0_ := Aside0.mk (Kd.R_below (by (with_reducible repeat (first | apply Kd.R_alloc | apply Kd.R_drewN | apply Kd.R_drew)); exact HO_252000.out) hb); have n1_ := Aside0.mk (Kd.R_below (by (with_reducible repeat (first | apply Kd.R_alloc | apply Kd.R_drewN | apply Kd.R_drew)); exact HO_257000.out) hb); have n2_ := Aside0.mk (Kd.R_below (by (with_reducible repeat (first | apply Kd.R_alloc | apply Kd.R_drewN | apply Kd.R_drew)); exact HO_262000.out) hb); have n3_ := Aside0.mk (Kd.R_below (by (with_reducible repeat (first | apply Kd.R_alloc | apply Kd.R_drewN | apply Kd.R_drew)); exact HO278.out) hb); have n4_ := Aside0.mk (blk_below (g := gb244) (o := .cells #[.slice A0_0 l0_0.length c0_0] 24 (0, 0)) (by (with_reducible repeat first | apply blk_drewN | apply blk_drew | apply blk_alloc); exact BK244.out) hb); have n5_ := Aside0.mk (blk_below (g := gb251) (o := .cells #[.slice Ao133 x252000_3.length co133] 24 (0, 0)) (by (with_reducible repeat first | apply blk_drewN | apply blk_drew | apply blk_alloc); exact BK251.out) hb); have n6_ := Aside0.mk (blk_below (g := gb256) (o := .cells #[.slice Ao85 t265.length co85] 24 (0, 0)) (by (with_reducible repeat first | apply blk_drewN | apply blk_drew | apply blk_alloc); exact BK256.out) hb); have n7_ := Aside0.mk (blk_below (g := gb261) (o := .cells #[.slice Ao91 t269.length co91] 24 (0, 0)) (by (with_reducible repeat first | apply blk_drewN | apply blk_drew | apply blk_alloc); exact BK261.out) hb); have n8_ := Aside0.mk (blk_below (g := gb279) (o := .cells #[.slice Ao121 t276.length co121] 24 (0, 0)) (by (with_reducible repeat first | apply blk_drewN | apply blk_drew | apply blk_alloc); exact BK279.out) hb); have n9_ := Aside0.mk (below_step (by repeat (first | (with_reducible first | exact HB.out | apply below_alloc | apply pw_below_drewN | apply below_drew1 | refine below_set ?_ GE244.out | refine below_set ?_ GE251.out | refine below_set ?_ GE256.out | refine below_set ?_ GE261.out | refine below_set ?_ GE279.out) | exact HB.out)) hb); clear HO_252000; clear HO_257000; clear HO_262000; clear HO278; clear BK244; clear BK251; clear BK256; clear BK261; clear BK279; clear HB; have HO_252000 := n0_; have HO_257000 := n1_; have HO_262000 := n2_; have HO278 := n3_; have BK244 := n4_; have BK251 := n5_; have BK256 := n6_; have BK261 := n7_; have BK279 := n8_; have HB := n9_; clear n0_ n1_ n2_ n3_ n4_ n5_ n6_ n7_ n8_ n9_; (try clear hb); (try clear hb2); (try clear hk); (try clear hi); (try clear A114)))
                 go_ret
                 exact ⟨by first | rfl | (simp [errW_none, errW_some] <;> rfl) | (simp [*, errW_none, errW_some] <;> rfl) | (simp [Int.tdiv_eq_ediv_of_nonneg]; done), by repeat (first | (with_reducible first | exact HB.out | apply below_alloc | apply pw_below_drewN | apply below_drew1 | refine below_set ?_ GE244.out | refine below_set ?_ GE251.out | refine below_set ?_ GE256.out | refine below_set ?_ GE261.out | refine below_set ?_ GE279.out) | exact HB.out)⟩
             ·replace c113 := Bool.eq_false_iff.mpr c113
              subst c113
              have H1 : (some false) = some r := by rw [if_neg (show ¬ (false = true) by decide)] at H; exact H
              clear H
              have H := H1
              clear H1
              exact absurd (Option.some.inj H) (by rw [hrt_.out]; decide)

/-- THE ONE PURE STATEMENT of atticlaw14_TablePuts. -/
def atticlaw14_TablePuts.Pure : Prop := ∀ (x0 : S24) (x1 : Int) (x2 : Int) (x3 : Int) (x4 : Bool), G24 x0 → (Lit.int .i64 x1).wf = true → (Lit.int .i64 x2).wf = true → (Lit.int .i64 x3).wf = true → ∃ k, atticlaw14_TablePuts.f k x0.f0 x1 x2 x3 x4 = some true
/-- The same, of inputs of a bulk that the second form allows. -/
def atticlaw14_TablePuts.UptoPure : Prop := ∀ (x0 : S24) (x1 : Int) (x2 : Int) (x3 : Int) (x4 : Bool), G24 x0 → (Lit.int .i64 x1).wf = true → (Lit.int .i64 x2).wf = true → (Lit.int .i64 x3).wf = true → mu24 x0 + (1 + (1 + (1 + (1)))) ≤ 1048576 → ∃ k, atticlaw14_TablePuts.f k x0.f0 x1 x2 x3 x4 = some true

end Go.Proofs.Ytdjajecgojndfaa.Print
