-- Written by a program of this session (wip/xprint.py, by way of the print): Lean functions and proofs that the Go functions come to them.
import Derived.Test.YtnmpmjbkelogaaaPrint0
import Derived.Test.YtnmpmjbkelogaaaPrint1
import Derived.Test.YtnmpmjbkelogaaaPrint2
import Derived.Test.YtnmpmjbkelogaaaPrint3
namespace Go.Proofs.Ytnmpmjbkelogaaa.Print
open Go.RowKit Go.Proofs.YtnmpmjbkelogaaaW.PrintWords Go.Proofs.YtnmpmjbkelogaaaW.PrintLast Go.Proofs.YtnmpmjbkelogaaaW.PrintMore
attribute [local go_sem] max2_int min2_int max_two min_two max_three min_three max_four min_four   -- for this text's walks alone
set_option linter.unusedVariables false
set_option linter.unusedSimpArgs false

/-! ### atticlaw19_MarkRooms: function 7 -/
mutual
def atticlaw19_MarkRooms.j0 : Nat → Int → Int → Int → Bool → List (S56) → List Int → Int → Int → List Bool → List Int → Bool → Bool → Bool → List (S56) → List Int → Int → Int → List Bool → List Int → Bool → Bool → Bool → Option (Bool)
 | 0, _, _, _, _, _, _, _, _, _, _, _, _, _, _, _, _, _, _, _, _, _, _ => none
 | k + 1, x1, x2, x8, x43, x215000, x215001, x228000, x228001, x228002, x228003, x228004, x228005, x228006, x232000, x232001, x246000, x246001, x246002, x246003, x246004, x246005, x246006 => if x43 = true then (some false) else (if x8 = 0 then ((atticlaw19_few.f x215000 x215001).bind fun t247 => (atticlaw19_MarkRooms.j1 k x1 x2 (!t247) x215000 x215001 x228000 x228001 x228002 x228003 x228004 x228005 x228006 x232000 x232001 x246000 x246001 x246002 x246003 x246004 x246005 x246006)) else (atticlaw19_MarkRooms.j1 k x1 x2 true x215000 x215001 x228000 x228001 x228002 x228003 x228004 x228005 x228006 x232000 x232001 x246000 x246001 x246002 x246003 x246004 x246005 x246006))
def atticlaw19_MarkRooms.j1 : Nat → Int → Int → Bool → List (S56) → List Int → Int → Int → List Bool → List Int → Bool → Bool → Bool → List (S56) → List Int → Int → Int → List Bool → List Int → Bool → Bool → Bool → Option (Bool)
 | 0, _, _, _, _, _, _, _, _, _, _, _, _, _, _, _, _, _, _, _, _, _ => none
 | k + 1, x1, x2, x50, x215000, x215001, x228000, x228001, x228002, x228003, x228004, x228005, x228006, x232000, x232001, x246000, x246001, x246002, x246003, x246004, x246005, x246006 => if x50 = true then (some true) else ((mark_Bound.f x215000 x215001).bind fun t248 => ((mark_Run.f k x215000 x215001 (wrap64 (1 + (wrap64 (x1)))) x228000 x228001 x228002 x228003 x228004 x228005 x228006 t248).bind fun bt249 => ((mark_Bound.f x232000 x232001).bind fun t261 => ((mark_Run.f k x232000 x232001 (wrap64 (1 + (wrap64 (x2)))) x246000 x246001 x246002 x246003 x246004 x246005 x246006 t261).bind fun bt262 => (if bt249.1 = 3 then (if bt262.1 = 3 then ((slices_Equal_bool_bool.f k bt249.2.2.1 bt262.2.2.1).bind fun t274 => (some t274)) else (some false)) else (some false))))))
end
def atticlaw19_MarkRooms.f (k : Nat) (l0_0 : List (S56)) (l0_1 : List Int) (a1 : Int) (a2 : Int) : Option (Bool) := (mark_New.f k l0_0 l0_1 (wrap64 (1 + (wrap64 (a1))))).bind fun bt215 => ((clone_int.f l0_1).bind fun t228 => ((slices_Reverse_int_int.f k t228).bind fun t232 => ((mark_New.f k l0_0 t232 (wrap64 (1 + (wrap64 (a2))))).bind fun bt233 => ((atticlaw19_live.f k).bind fun t246 => (if t246 = true then (atticlaw19_MarkRooms.j0 k a1 a2 bt215.2.2.2.2.2.2.2 (bt215.2.2.2.2.2.2.2 != bt233.2.2.2.2.2.2.2) l0_0 l0_1 bt215.1 bt215.2.1 bt215.2.2.1 bt215.2.2.2.1 bt215.2.2.2.2.1 bt215.2.2.2.2.2.1 bt215.2.2.2.2.2.2.1 l0_0 t232 bt233.1 bt233.2.1 bt233.2.2.1 bt233.2.2.2.1 bt233.2.2.2.2.1 bt233.2.2.2.2.2.1 bt233.2.2.2.2.2.2.1) else (atticlaw19_MarkRooms.j0 k a1 a2 bt215.2.2.2.2.2.2.2 true l0_0 l0_1 bt215.1 bt215.2.1 bt215.2.2.1 bt215.2.2.2.1 bt215.2.2.2.2.1 bt215.2.2.2.2.2.1 bt215.2.2.2.2.2.2.1 l0_0 t232 bt233.1 bt233.2.1 bt233.2.2.1 bt233.2.2.2.1 bt233.2.2.2.2.1 bt233.2.2.2.2.2.1 bt233.2.2.2.2.2.2.1))))))
theorem atticlaw19_MarkRooms.mono_l : ∀ k, (∀ y0 y1 y2 y3 y4 y5 y6 y7 y8 y9 y10 y11 y12 y13 y14 y15 y16 y17 y18 y19 y20 y21, LeO (atticlaw19_MarkRooms.j0 k y0 y1 y2 y3 y4 y5 y6 y7 y8 y9 y10 y11 y12 y13 y14 y15 y16 y17 y18 y19 y20 y21) (atticlaw19_MarkRooms.j0 (k + 1) y0 y1 y2 y3 y4 y5 y6 y7 y8 y9 y10 y11 y12 y13 y14 y15 y16 y17 y18 y19 y20 y21)) ∧ (∀ y0 y1 y2 y3 y4 y5 y6 y7 y8 y9 y10 y11 y12 y13 y14 y15 y16 y17 y18 y19 y20, LeO (atticlaw19_MarkRooms.j1 k y0 y1 y2 y3 y4 y5 y6 y7 y8 y9 y10 y11 y12 y13 y14 y15 y16 y17 y18 y19 y20) (atticlaw19_MarkRooms.j1 (k + 1) y0 y1 y2 y3 y4 y5 y6 y7 y8 y9 y10 y11 y12 y13 y14 y15 y16 y17 y18 y19 y20))
 | 0 => ⟨fun _ _ _ _ _ _ _ _ _ _ _ _ _ _ _ _ _ _ _ _ _ _ r h => by simp [atticlaw19_MarkRooms.j0] at h, fun _ _ _ _ _ _ _ _ _ _ _ _ _ _ _ _ _ _ _ _ _ r h => by simp [atticlaw19_MarkRooms.j1] at h⟩
 | k + 1 => by
  obtain ⟨ih0, ih1⟩ := atticlaw19_MarkRooms.mono_l k
  refine ⟨?_, ?_⟩
  ·intro y0 y1 y2 y3 y4 y5 y6 y7 y8 y9 y10 y11 y12 y13 y14 y15 y16 y17 y18 y19 y20 y21
   unfold atticlaw19_MarkRooms.j0
   repeat' first
   | (with_reducible exact ih0 _ _ _ _ _ _ _ _ _ _ _ _ _ _ _ _ _ _ _ _ _ _)
   | (with_reducible exact ih1 _ _ _ _ _ _ _ _ _ _ _ _ _ _ _ _ _ _ _ _ _)
   | (with_reducible exact atticlaw19_live.mono _)
   | (with_reducible exact mark_New.mono _ _ _ _)
   | (with_reducible exact mark_Run.mono _ _ _ _ _ _ _ _ _ _ _ _)
   | (with_reducible exact slices_Equal_bool_bool.mono _ _ _)
   | (with_reducible exact slices_Reverse_int_int.mono _ _)
   | (with_reducible exact LeO.refl _)
   | (with_reducible exact LeO.none _)
   | (with_reducible refine LeO.ite ?_ ?_)
   | (with_reducible refine LeO.bind ?_ (fun _ => ?_))
   | exact ih0 _ _ _ _ _ _ _ _ _ _ _ _ _ _ _ _ _ _ _ _ _ _
   | exact ih1 _ _ _ _ _ _ _ _ _ _ _ _ _ _ _ _ _ _ _ _ _
   | exact atticlaw19_live.mono _
   | exact mark_New.mono _ _ _ _
   | exact mark_Run.mono _ _ _ _ _ _ _ _ _ _ _ _
   | exact slices_Equal_bool_bool.mono _ _ _
   | exact slices_Reverse_int_int.mono _ _
   | exact LeO.none _
   | refine LeO.ite ?_ ?_
   | refine LeO.bind ?_ (fun _ => ?_)
  ·intro y0 y1 y2 y3 y4 y5 y6 y7 y8 y9 y10 y11 y12 y13 y14 y15 y16 y17 y18 y19 y20
   unfold atticlaw19_MarkRooms.j1
   repeat' first
   | (with_reducible exact ih0 _ _ _ _ _ _ _ _ _ _ _ _ _ _ _ _ _ _ _ _ _ _)
   | (with_reducible exact ih1 _ _ _ _ _ _ _ _ _ _ _ _ _ _ _ _ _ _ _ _ _)
   | (with_reducible exact atticlaw19_live.mono _)
   | (with_reducible exact mark_New.mono _ _ _ _)
   | (with_reducible exact mark_Run.mono _ _ _ _ _ _ _ _ _ _ _ _)
   | (with_reducible exact slices_Equal_bool_bool.mono _ _ _)
   | (with_reducible exact slices_Reverse_int_int.mono _ _)
   | (with_reducible exact LeO.refl _)
   | (with_reducible exact LeO.none _)
   | (with_reducible refine LeO.ite ?_ ?_)
   | (with_reducible refine LeO.bind ?_ (fun _ => ?_))
   | exact ih0 _ _ _ _ _ _ _ _ _ _ _ _ _ _ _ _ _ _ _ _ _ _
   | exact ih1 _ _ _ _ _ _ _ _ _ _ _ _ _ _ _ _ _ _ _ _ _
   | exact atticlaw19_live.mono _
   | exact mark_New.mono _ _ _ _
   | exact mark_Run.mono _ _ _ _ _ _ _ _ _ _ _ _
   | exact slices_Equal_bool_bool.mono _ _ _
   | exact slices_Reverse_int_int.mono _ _
   | exact LeO.none _
   | refine LeO.ite ?_ ?_
   | refine LeO.bind ?_ (fun _ => ?_)
theorem atticlaw19_MarkRooms.mono : ∀ a0 a1 a2 a3 k, LeO (atticlaw19_MarkRooms.f k a0 a1 a2 a3) (atticlaw19_MarkRooms.f (k + 1) a0 a1 a2 a3) := by
 intro a0 a1 a2 a3 k
 obtain ⟨ih0, ih1⟩ := atticlaw19_MarkRooms.mono_l k
 unfold atticlaw19_MarkRooms.f
 repeat' first
   | (with_reducible exact ih0 _ _ _ _ _ _ _ _ _ _ _ _ _ _ _ _ _ _ _ _ _ _)
   | (with_reducible exact ih1 _ _ _ _ _ _ _ _ _ _ _ _ _ _ _ _ _ _ _ _ _)
   | (with_reducible exact atticlaw19_live.mono _)
   | (with_reducible exact mark_New.mono _ _ _ _)
   | (with_reducible exact mark_Run.mono _ _ _ _ _ _ _ _ _ _ _ _)
   | (with_reducible exact slices_Equal_bool_bool.mono _ _ _)
   | (with_reducible exact slices_Reverse_int_int.mono _ _)
   | (with_reducible exact LeO.refl _)
   | (with_reducible exact LeO.none _)
   | (with_reducible refine LeO.ite ?_ ?_)
   | (with_reducible refine LeO.bind ?_ (fun _ => ?_))
   | exact ih0 _ _ _ _ _ _ _ _ _ _ _ _ _ _ _ _ _ _ _ _ _ _
   | exact ih1 _ _ _ _ _ _ _ _ _ _ _ _ _ _ _ _ _ _ _ _ _
   | exact atticlaw19_live.mono _
   | exact mark_New.mono _ _ _ _
   | exact mark_Run.mono _ _ _ _ _ _ _ _ _ _ _ _
   | exact slices_Equal_bool_bool.mono _ _ _
   | exact slices_Reverse_int_int.mono _ _
   | exact LeO.none _
   | refine LeO.ite ?_ ?_
   | refine LeO.bind ?_ (fun _ => ?_)
def atticlaw19_MarkRooms.T2 : Bool × List (List Nat × List Nat) := (true, [([], []), ([0], [0]), ([], []), ([2], [2]), ([3], [3]), ([1, 4], [1, 4]), ([], []), ([6, 5, 4, 0, 1, 2, 3, 4, 5, 6], [5, 6])])
def atticlaw19_MarkRooms.B2 : List Nat := [0, 1, 0, 4, 12, 31, 0, 127]
theorem atticlaw19_MarkRooms.tab2 : rtab .any (opsOf Try.f7 2) = atticlaw19_MarkRooms.T2 := by kernel_rfl
theorem atticlaw19_MarkRooms.bits2 : waitsOk atticlaw19_MarkRooms.T2.2 atticlaw19_MarkRooms.B2 = true := by kernel_rfl
def atticlaw19_MarkRooms.T9 : Bool × List (List Nat × List Nat) := (true, [([], []), ([], []), ([1], [1]), ([2], [2]), ([], []), ([], []), ([5], [5]), ([0, 3, 4, 6, 6], [0, 3, 4, 6]), ([7], [7]), ([8], [8]), ([8], [8]), ([9, 7, 0, 1, 2, 3, 4, 5, 6, 7, 8, 9], [9])])
def atticlaw19_MarkRooms.B9 : List Nat := [0, 0, 2, 6, 0, 0, 32, 127, 255, 511, 511, 1023]
theorem atticlaw19_MarkRooms.tab9 : rtab .any (opsOf Try.f7 9) = atticlaw19_MarkRooms.T9 := by kernel_rfl
theorem atticlaw19_MarkRooms.bits9 : waitsOk atticlaw19_MarkRooms.T9.2 atticlaw19_MarkRooms.B9 = true := by kernel_rfl
def atticlaw19_MarkRooms.T10 : Bool × List (List Nat × List Nat) := (true, [([], []), ([], []), ([1], [1]), ([2], [2]), ([], []), ([], []), ([5], [5]), ([0, 3, 4, 6, 6], [0, 3, 4, 6]), ([7], [7]), ([8], [8]), ([8], [8]), ([9, 7, 0, 1, 2, 3, 4, 5, 6, 7, 8, 9], [9])])
def atticlaw19_MarkRooms.B10 : List Nat := [0, 0, 2, 6, 0, 0, 32, 127, 255, 511, 511, 1023]
theorem atticlaw19_MarkRooms.tab10 : rtab .any (opsOf Try.f7 10) = atticlaw19_MarkRooms.T10 := by kernel_rfl
theorem atticlaw19_MarkRooms.bits10 : waitsOk atticlaw19_MarkRooms.T10.2 atticlaw19_MarkRooms.B10 = true := by kernel_rfl
set_option maxHeartbeats 8000000 in
set_option maxRecDepth 100000 in
theorem atticlaw19_MarkRooms.calls (k : Nat) (A0_0 : Option Addr) (c0_0 : Nat) (l0_0 : List (S56)) (A0_1 : Option Addr) (c0_1 : Nat) (l0_1 : List Int) (a1 : Int) (a2 : Int) (r : Bool) (w : World) (hr0_0 : Kd.C k56 w A0_0 l0_0.length l0_0) (hc0_0 : l0_0.length ≤ c0_0) (hr0_1 : Kd.C (Kd.int .i64) w A0_1 l0_1.length l0_1) (hc0_1 : l0_1.length ≤ c0_1) (hrt_ : Aside0 (r = true)) (h : atticlaw19_MarkRooms.f k l0_0 l0_1 a1 a2 = some r) :
  Calls Try.prog 7 #[.agg #[.slice A0_0 l0_0.length c0_0, .slice A0_1 l0_1.length c0_1], .int .u8 a1, .int .u8 a2] w fun e w' => e = .returned (.bool r) ∧ Below w.heap.size w w' := by
 have hu25 := Try.underlying25
 have hu28 := Try.underlying28
 have HR0_0 := Aside0.mk hr0_0
 have HC0_0 := Aside0.mk hc0_0
 clear hr0_0 hc0_0
 have HR0_1 := Aside0.mk hr0_1
 have HC0_1 := Aside0.mk hc0_1
 clear hr0_1 hc0_1
 have HB := Aside0.mk (Below.refl w.heap.size w)
 have H : ((mark_New.f k l0_0 l0_1 (wrap64 (1 + (wrap64 (a1))))).bind fun bt215 => ((clone_int.f l0_1).bind fun t228 => ((slices_Reverse_int_int.f k t228).bind fun t232 => ((mark_New.f k l0_0 t232 (wrap64 (1 + (wrap64 (a2))))).bind fun bt233 => ((atticlaw19_live.f k).bind fun t246 => (if t246 = true then (atticlaw19_MarkRooms.j0 k a1 a2 bt215.2.2.2.2.2.2.2 (bt215.2.2.2.2.2.2.2 != bt233.2.2.2.2.2.2.2) l0_0 l0_1 bt215.1 bt215.2.1 bt215.2.2.1 bt215.2.2.2.1 bt215.2.2.2.2.1 bt215.2.2.2.2.2.1 bt215.2.2.2.2.2.2.1 l0_0 t232 bt233.1 bt233.2.1 bt233.2.2.1 bt233.2.2.2.1 bt233.2.2.2.2.1 bt233.2.2.2.2.2.1 bt233.2.2.2.2.2.2.1) else (atticlaw19_MarkRooms.j0 k a1 a2 bt215.2.2.2.2.2.2.2 true l0_0 l0_1 bt215.1 bt215.2.1 bt215.2.2.1 bt215.2.2.2.1 bt215.2.2.2.2.1 bt215.2.2.2.2.2.1 bt215.2.2.2.2.2.2.1 l0_0 t232 bt233.1 bt233.2.1 bt233.2.2.1 bt233.2.2.2.1 bt233.2.2.2.2.1 bt233.2.2.2.2.2.1 bt233.2.2.2.2.2.2.1))))))) = some r := h
 clear h
 replace H := Option.bind_eq_some_iff.mp H
 obtain ⟨⟨t215, t216, t217, t220, t223, t224, t225, t226⟩, A40, H⟩ := H
 replace H : ((clone_int.f l0_1).bind fun t228 => ((slices_Reverse_int_int.f k t228).bind fun t232 => ((mark_New.f k l0_0 t232 (wrap64 (1 + (wrap64 (a2))))).bind fun bt233 => ((atticlaw19_live.f k).bind fun t246 => (if t246 = true then (atticlaw19_MarkRooms.j0 k a1 a2 t226 (t226 != bt233.2.2.2.2.2.2.2) l0_0 l0_1 t215 t216 t217 t220 t223 t224 t225 l0_0 t232 bt233.1 bt233.2.1 bt233.2.2.1 bt233.2.2.2.1 bt233.2.2.2.2.1 bt233.2.2.2.2.2.1 bt233.2.2.2.2.2.2.1) else (atticlaw19_MarkRooms.j0 k a1 a2 t226 true l0_0 l0_1 t215 t216 t217 t220 t223 t224 t225 l0_0 t232 bt233.1 bt233.2.1 bt233.2.2.1 bt233.2.2.2.1 bt233.2.2.2.2.1 bt233.2.2.2.2.2.1 bt233.2.2.2.2.2.2.1)))))) = some r := H
 have A4 := Aside0.mk A40
 clear A40
 replace H := Option.bind_eq_some_iff.mp H
 obtain ⟨t228, A50, H⟩ := H
 replace H : ((slices_Reverse_int_int.f k t228).bind fun t232 => ((mark_New.f k l0_0 t232 (wrap64 (1 + (wrap64 (a2))))).bind fun bt233 => ((atticlaw19_live.f k).bind fun t246 => (if t246 = true then (atticlaw19_MarkRooms.j0 k a1 a2 t226 (t226 != bt233.2.2.2.2.2.2.2) l0_0 l0_1 t215 t216 t217 t220 t223 t224 t225 l0_0 t232 bt233.1 bt233.2.1 bt233.2.2.1 bt233.2.2.2.1 bt233.2.2.2.2.1 bt233.2.2.2.2.2.1 bt233.2.2.2.2.2.2.1) else (atticlaw19_MarkRooms.j0 k a1 a2 t226 true l0_0 l0_1 t215 t216 t217 t220 t223 t224 t225 l0_0 t232 bt233.1 bt233.2.1 bt233.2.2.1 bt233.2.2.2.1 bt233.2.2.2.2.1 bt233.2.2.2.2.2.1 bt233.2.2.2.2.2.2.1))))) = some r := H
 have A5 := Aside0.mk A50
 clear A50
 replace H := Option.bind_eq_some_iff.mp H
 obtain ⟨t232, A60, H⟩ := H
 replace H : ((mark_New.f k l0_0 t232 (wrap64 (1 + (wrap64 (a2))))).bind fun bt233 => ((atticlaw19_live.f k).bind fun t246 => (if t246 = true then (atticlaw19_MarkRooms.j0 k a1 a2 t226 (t226 != bt233.2.2.2.2.2.2.2) l0_0 l0_1 t215 t216 t217 t220 t223 t224 t225 l0_0 t232 bt233.1 bt233.2.1 bt233.2.2.1 bt233.2.2.2.1 bt233.2.2.2.2.1 bt233.2.2.2.2.2.1 bt233.2.2.2.2.2.2.1) else (atticlaw19_MarkRooms.j0 k a1 a2 t226 true l0_0 l0_1 t215 t216 t217 t220 t223 t224 t225 l0_0 t232 bt233.1 bt233.2.1 bt233.2.2.1 bt233.2.2.2.1 bt233.2.2.2.2.1 bt233.2.2.2.2.2.1 bt233.2.2.2.2.2.2.1)))) = some r := H
 have A6 := Aside0.mk A60
 clear A60
 replace H := Option.bind_eq_some_iff.mp H
 obtain ⟨⟨t233, t234, t235, t238, t241, t242, t243, t244⟩, A70, H⟩ := H
 replace H : ((atticlaw19_live.f k).bind fun t246 => (if t246 = true then (atticlaw19_MarkRooms.j0 k a1 a2 t226 (t226 != t244) l0_0 l0_1 t215 t216 t217 t220 t223 t224 t225 l0_0 t232 t233 t234 t235 t238 t241 t242 t243) else (atticlaw19_MarkRooms.j0 k a1 a2 t226 true l0_0 l0_1 t215 t216 t217 t220 t223 t224 t225 l0_0 t232 t233 t234 t235 t238 t241 t242 t243))) = some r := H
 have A7 := Aside0.mk A70
 clear A70
 have HC8 := Aside0.mk H
 clear H
 go_enter Try.func7, Try.ntmps7
 try go_wp2_with (first | ((with_reducible refine gate_dst (N := 3) rfl ?_); refine box_event ?hg (N := 3) ?hd (cs := #[.slice A0_0 l0_0.length c0_0, .slice A0_1 l0_1.length c0_1]) (t := 25) ?hr ?_; (case hd => rfl); (case hg => rfl); (case hr => first | (go_simp; done) | (go_simp; rfl)); intro gb214 hg w9 hbox hb; have n0_ := Aside0.mk (below_step (by repeat (first | (with_reducible first | exact HB.out | apply below_alloc | apply pw_below_drewN | apply below_drew1) | exact HB.out)) hb); have n1_ := Aside0.mk (hbox); have n2_ := Aside0.mk ((by rw [hg]; exact (below_size (by repeat (first | (with_reducible first | exact HB.out | apply below_alloc | apply pw_below_drewN | apply below_drew1) | exact HB.out))) : w.heap.size ≤ gb214)); have n3_ := Aside0.mk ((by rw [hg]; exact (below_size (by repeat (first | (with_reducible first | exact HB.out | apply below_alloc | apply pw_below_drewN | apply below_drew1) | exact HB.out))) : w.heap.size ≤ gb214)); clear HB; have HB := n0_; have BK214 := n1_; have GW214 := n2_; have GE214 := n3_; clear n0_ n1_ n2_ n3_; clear hb hbox hg; have hcz10_0 : w9.cell? ⟨gb214, 0, none⟩ = some (.slice A0_0 l0_0.length c0_0) := (blk_cell BK214.out 0).trans rfl; have hcz10_1 : w9.cell? ⟨gb214, 1, none⟩ = some (.slice A0_1 l0_1.length c0_1) := (blk_cell BK214.out 1).trans rfl; have hfz10_0 := blk_frozen BK214.out 0; have hfz10_1 := blk_frozen BK214.out 1) | ((with_reducible refine gate_callee (f := 14) rfl ?_); refine goesL_ (some 17) rfl rfl Try.func14 (by kernel_rfl) rfl #[.agg #[.slice A0_0 l0_0.length c0_0, .slice A0_1 l0_1.length c0_1], .int .i64 (wrap64 (1 + (wrap64 (a1))))] rfl (by (try simp only [List.map_toArray, List.map_cons, List.map_nil]); first | done | rfl | (simp only [List.length_drop, List.length_take]; rfl)) ?_; (with_reducible refine (mark_New.calls k _ _ l0_0 _ _ l0_1 (wrap64 (1 + (wrap64 (a1)))) t215 t216 t217 t220 t223 t224 t225 t226 _ ?side1 ?side2 ?side3 ?side4 A4.out).mono ?_); (case side1 => repeat (first | exact (Kd.C_below HR0_0.out HB.out) | (with_reducible refine Kd.C_alloc ?_ _) | (with_reducible refine Kd.C_drewN ?_ _) | (with_reducible refine Kd.C_drew ?_))); (case side2 => exact HC0_0.out); (case side3 => repeat (first | exact (Kd.C_below HR0_1.out HB.out) | (with_reducible refine Kd.C_alloc ?_ _) | (with_reducible refine Kd.C_drewN ?_ _) | (with_reducible refine Kd.C_drew ?_))); (case side4 => exact HC0_1.out); rintro e w11 ⟨v218, v221, rfl, ho0, ho1, hb⟩; refine ⟨_, rfl, ?_⟩; have n0_ := Aside0.mk (Kd.R_lower ho0 (below_size (by repeat (first | (with_reducible first | exact HB.out | apply below_alloc | apply pw_below_drewN | apply below_drew1 | refine below_set ?_ GE214.out) | exact HB.out)))); have n1_ := Aside0.mk (Kd.R_lower ho1 (below_size (by repeat (first | (with_reducible first | exact HB.out | apply below_alloc | apply pw_below_drewN | apply below_drew1 | refine below_set ?_ GE214.out) | exact HB.out)))); have n2_ := Aside0.mk (blk_below (g := gb214) (o := .cells #[.slice A0_0 l0_0.length c0_0, .slice A0_1 l0_1.length c0_1] 25 (0, 0)) (by (with_reducible repeat first | apply blk_drewN | apply blk_drew | apply blk_alloc); exact BK214.out) hb); have n3_ := Aside0.mk (below_step (by repeat (first | (with_reducible first | exact HB.out | apply below_alloc | apply pw_below_drewN | apply below_drew1 | refine below_set ?_ GE214.out) | exact HB.out)) hb); clear BK214; clear HB; have HO219 := n0_; have HO222 := n1_; have BK214 := n2_; have HB := n3_; clear n0_ n1_ n2_ n3_; (try clear hb); (try clear hb2); (try clear hk); (try clear hi); (try clear ho0); (try clear ho1); (try clear A4)) | ((with_reducible refine gate_dst (N := 7) rfl ?_); refine box_event ?hg (N := 7) ?hd (cs := #[.int .i64 0, .int .i64 0, .slice none 0 0, .slice none 0 0, .bool false, .bool false, .bool false]) (t := 28) ?hr ?_; (case hd => rfl); (case hg => rfl); (case hr => first | (go_simp; done) | (go_simp; rfl)); intro gb227 hg w12 hbox hb; have n0_ := Aside0.mk (Kd.R_below (by (with_reducible repeat (first | apply Kd.R_alloc | apply Kd.R_drewN | apply Kd.R_drew)); exact HO219.out) hb); have n1_ := Aside0.mk (Kd.R_below (by (with_reducible repeat (first | apply Kd.R_alloc | apply Kd.R_drewN | apply Kd.R_drew)); exact HO222.out) hb); have n2_ := Aside0.mk (blk_below (g := gb214) (o := .cells #[.slice A0_0 l0_0.length c0_0, .slice A0_1 l0_1.length c0_1] 25 (0, 0)) (by (with_reducible repeat first | apply blk_drewN | apply blk_drew | apply blk_alloc); exact BK214.out) hb); have n3_ := Aside0.mk (below_step (by repeat (first | (with_reducible first | exact HB.out | apply below_alloc | apply pw_below_drewN | apply below_drew1 | refine below_set ?_ GE214.out) | exact HB.out)) hb); have n4_ := Aside0.mk (hbox); have n5_ := Aside0.mk ((by rw [hg]; exact (below_size (by repeat (first | (with_reducible first | exact HB.out | apply below_alloc | apply pw_below_drewN | apply below_drew1 | refine below_set ?_ GE214.out) | exact HB.out))) : w.heap.size ≤ gb227)); have n6_ := Aside0.mk ((by rw [hg]; exact (below_size (by repeat (first | (with_reducible first | exact HB.out | apply below_alloc | apply pw_below_drewN | apply below_drew1 | refine below_set ?_ GE214.out) | exact HB.out))) : w.heap.size ≤ gb227)); have n7_ := Aside0.mk ((by rw [hg]; exact Nat.ne_of_lt (blk_lt (g := gb214) (o := .cells #[.slice A0_0 l0_0.length c0_0, .slice A0_1 l0_1.length c0_1] 25 (0, 0)) (by (with_reducible repeat first | apply blk_drewN | apply blk_drew | apply blk_alloc); exact BK214.out)) : gb214 ≠ gb227)); have n8_ := Aside0.mk ((by rw [hg]; exact Nat.ne_of_gt (blk_lt (g := gb214) (o := .cells #[.slice A0_0 l0_0.length c0_0, .slice A0_1 l0_1.length c0_1] 25 (0, 0)) (by (with_reducible repeat first | apply blk_drewN | apply blk_drew | apply blk_alloc); exact BK214.out)) : gb227 ≠ gb214)); clear HO219; clear HO222; clear BK214; clear HB; have HO219 := n0_; have HO222 := n1_; have BK214 := n2_; have HB := n3_; have BK227 := n4_; have GW227 := n5_; have GE227 := n6_; have NB214_227 := n7_; have NB227_214 := n8_; clear n0_ n1_ n2_ n3_ n4_ n5_ n6_ n7_ n8_; clear hb hbox hg; have hnb13 := NB227_214.out; have hnc13 := NB214_227.out; have hcz14_0 : w12.cell? ⟨gb227, 0, none⟩ = some (.int .i64 0) := (blk_cell BK227.out 0).trans rfl; have hcz14_1 : w12.cell? ⟨gb227, 1, none⟩ = some (.int .i64 0) := (blk_cell BK227.out 1).trans rfl; have hcz14_2 : w12.cell? ⟨gb227, 2, none⟩ = some (.slice none 0 0) := (blk_cell BK227.out 2).trans rfl; have hcz14_3 : w12.cell? ⟨gb227, 3, none⟩ = some (.slice none 0 0) := (blk_cell BK227.out 3).trans rfl; have hcz14_4 : w12.cell? ⟨gb227, 4, none⟩ = some (.bool false) := (blk_cell BK227.out 4).trans rfl; have hcz14_5 : w12.cell? ⟨gb227, 5, none⟩ = some (.bool false) := (blk_cell BK227.out 5).trans rfl; have hcz14_6 : w12.cell? ⟨gb227, 6, none⟩ = some (.bool false) := (blk_cell BK227.out 6).trans rfl; have hfz14_0 := blk_frozen BK227.out 0; have hfz14_1 := blk_frozen BK227.out 1; have hfz14_2 := blk_frozen BK227.out 2; have hfz14_3 := blk_frozen BK227.out 3; have hfz14_4 := blk_frozen BK227.out 4; have hfz14_5 := blk_frozen BK227.out 5; have hfz14_6 := blk_frozen BK227.out 6; obtain ⟨Ao15, co15, eo15⟩ := Kd.R_slice HO219.out; subst eo15; obtain ⟨Ao16, co16, eo16⟩ := Kd.R_slice HO222.out; subst eo16))
 have n0_ : Aside0 (Kd.R Kd.bool 4 (((((((w12.setCell ⟨gb227, 0, none⟩ (.int .i64 t215)).setCell ⟨gb227, 1, none⟩ (.int .i64 t216)).setCell ⟨gb227, 2, none⟩ (.slice Ao15 t217.length co15)).setCell ⟨gb227, 3, none⟩ (.slice Ao16 t220.length co16)).setCell ⟨gb227, 4, none⟩ (.bool t223)).setCell ⟨gb227, 5, none⟩ (.bool t224)).setCell ⟨gb227, 6, none⟩ (.bool t225)) w.heap.size (fun _ => True) (.slice Ao15 t217.length co15) t217) := ⟨by (with_reducible repeat (first | apply Kd.R_alloc | apply Kd.R_drewN | apply Kd.R_drew)); exact Kd.R_mono (Kd.R_far (p := ⟨gb227, 6, none⟩) (Kd.R_far (p := ⟨gb227, 5, none⟩) (Kd.R_far (p := ⟨gb227, 4, none⟩) (Kd.R_far (p := ⟨gb227, 3, none⟩) (Kd.R_far (p := ⟨gb227, 2, none⟩) (Kd.R_far (p := ⟨gb227, 1, none⟩) (Kd.R_far (p := ⟨gb227, 0, none⟩) (Kd.R_types HO219.out BK227.out (by decide)) (fun _ hk => hk.2) (.int .i64 t215)) (fun _ hk => hk.2) (.int .i64 t216)) (fun _ hk => hk.2) (.slice Ao15 t217.length co15)) (fun _ hk => hk.2) (.slice Ao16 t220.length co16)) (fun _ hk => hk.2) (.bool t223)) (fun _ hk => hk.2) (.bool t224)) (fun _ hk => hk.2) (.bool t225)) (fun _ hk => trivial)⟩
 have n1_ : Aside0 (Kd.R (Kd.int .i64) 3 (((((((w12.setCell ⟨gb227, 0, none⟩ (.int .i64 t215)).setCell ⟨gb227, 1, none⟩ (.int .i64 t216)).setCell ⟨gb227, 2, none⟩ (.slice Ao15 t217.length co15)).setCell ⟨gb227, 3, none⟩ (.slice Ao16 t220.length co16)).setCell ⟨gb227, 4, none⟩ (.bool t223)).setCell ⟨gb227, 5, none⟩ (.bool t224)).setCell ⟨gb227, 6, none⟩ (.bool t225)) w.heap.size (fun _ => True) (.slice Ao16 t220.length co16) t220) := ⟨by (with_reducible repeat (first | apply Kd.R_alloc | apply Kd.R_drewN | apply Kd.R_drew)); exact Kd.R_mono (Kd.R_far (p := ⟨gb227, 6, none⟩) (Kd.R_far (p := ⟨gb227, 5, none⟩) (Kd.R_far (p := ⟨gb227, 4, none⟩) (Kd.R_far (p := ⟨gb227, 3, none⟩) (Kd.R_far (p := ⟨gb227, 2, none⟩) (Kd.R_far (p := ⟨gb227, 1, none⟩) (Kd.R_far (p := ⟨gb227, 0, none⟩) (Kd.R_types HO222.out BK227.out (by decide)) (fun _ hk => hk.2) (.int .i64 t215)) (fun _ hk => hk.2) (.int .i64 t216)) (fun _ hk => hk.2) (.slice Ao15 t217.length co15)) (fun _ hk => hk.2) (.slice Ao16 t220.length co16)) (fun _ hk => hk.2) (.bool t223)) (fun _ hk => hk.2) (.bool t224)) (fun _ hk => hk.2) (.bool t225)) (fun _ hk => trivial)⟩
 have n2_ : Aside0 ((((((((w12.setCell ⟨gb227, 0, none⟩ (.int .i64 t215)).setCell ⟨gb227, 1, none⟩ (.int .i64 t216)).setCell ⟨gb227, 2, none⟩ (.slice Ao15 t217.length co15)).setCell ⟨gb227, 3, none⟩ (.slice Ao16 t220.length co16)).setCell ⟨gb227, 4, none⟩ (.bool t223)).setCell ⟨gb227, 5, none⟩ (.bool t224)).setCell ⟨gb227, 6, none⟩ (.bool t225)).heap[gb214]? = some (.cells #[.slice A0_0 l0_0.length c0_0, .slice A0_1 l0_1.length c0_1] 25 (0, 0))) := ⟨by (with_reducible repeat first | apply blk_drewN | apply blk_drew | apply blk_alloc); refine blk_far ?_ NB214_227.out _; (with_reducible repeat first | apply blk_drewN | apply blk_drew | apply blk_alloc); refine blk_far ?_ NB214_227.out _; (with_reducible repeat first | apply blk_drewN | apply blk_drew | apply blk_alloc); refine blk_far ?_ NB214_227.out _; (with_reducible repeat first | apply blk_drewN | apply blk_drew | apply blk_alloc); refine blk_far ?_ NB214_227.out _; (with_reducible repeat first | apply blk_drewN | apply blk_drew | apply blk_alloc); refine blk_far ?_ NB214_227.out _; (with_reducible repeat first | apply blk_drewN | apply blk_drew | apply blk_alloc); refine blk_far ?_ NB214_227.out _; (with_reducible repeat first | apply blk_drewN | apply blk_drew | apply blk_alloc); refine blk_far ?_ NB214_227.out _; (with_reducible repeat first | apply blk_drewN | apply blk_drew | apply blk_alloc); exact BK214.out⟩
 have n3_ : Aside0 ((((((((w12.setCell ⟨gb227, 0, none⟩ (.int .i64 t215)).setCell ⟨gb227, 1, none⟩ (.int .i64 t216)).setCell ⟨gb227, 2, none⟩ (.slice Ao15 t217.length co15)).setCell ⟨gb227, 3, none⟩ (.slice Ao16 t220.length co16)).setCell ⟨gb227, 4, none⟩ (.bool t223)).setCell ⟨gb227, 5, none⟩ (.bool t224)).setCell ⟨gb227, 6, none⟩ (.bool t225)).heap[gb227]? = some (.cells #[.int .i64 t215, .int .i64 t216, .slice Ao15 t217.length co15, .slice Ao16 t220.length co16, .bool t223, .bool t224, .bool t225] 28 (0, 0))) := ⟨by (with_reducible repeat first | apply blk_drewN | apply blk_drew | apply blk_alloc); refine blk_put (cs := #[.int .i64 t215, .int .i64 t216, .slice Ao15 t217.length co15, .slice Ao16 t220.length co16, .bool t223, .bool t224, .bool false]) ?_ 6 _ rfl; (with_reducible repeat first | apply blk_drewN | apply blk_drew | apply blk_alloc); refine blk_put (cs := #[.int .i64 t215, .int .i64 t216, .slice Ao15 t217.length co15, .slice Ao16 t220.length co16, .bool t223, .bool false, .bool false]) ?_ 5 _ rfl; (with_reducible repeat first | apply blk_drewN | apply blk_drew | apply blk_alloc); refine blk_put (cs := #[.int .i64 t215, .int .i64 t216, .slice Ao15 t217.length co15, .slice Ao16 t220.length co16, .bool false, .bool false, .bool false]) ?_ 4 _ rfl; (with_reducible repeat first | apply blk_drewN | apply blk_drew | apply blk_alloc); refine blk_put (cs := #[.int .i64 t215, .int .i64 t216, .slice Ao15 t217.length co15, .slice none 0 0, .bool false, .bool false, .bool false]) ?_ 3 _ rfl; (with_reducible repeat first | apply blk_drewN | apply blk_drew | apply blk_alloc); refine blk_put (cs := #[.int .i64 t215, .int .i64 t216, .slice none 0 0, .slice none 0 0, .bool false, .bool false, .bool false]) ?_ 2 _ rfl; (with_reducible repeat first | apply blk_drewN | apply blk_drew | apply blk_alloc); refine blk_put (cs := #[.int .i64 t215, .int .i64 0, .slice none 0 0, .slice none 0 0, .bool false, .bool false, .bool false]) ?_ 1 _ rfl; (with_reducible repeat first | apply blk_drewN | apply blk_drew | apply blk_alloc); refine blk_put (cs := #[.int .i64 0, .int .i64 0, .slice none 0 0, .slice none 0 0, .bool false, .bool false, .bool false]) ?_ 0 _ rfl; (with_reducible repeat first | apply blk_drewN | apply blk_drew | apply blk_alloc); exact BK227.out⟩
 have n4_ : Aside0 (Below w.heap.size w (((((((w12.setCell ⟨gb227, 0, none⟩ (.int .i64 t215)).setCell ⟨gb227, 1, none⟩ (.int .i64 t216)).setCell ⟨gb227, 2, none⟩ (.slice Ao15 t217.length co15)).setCell ⟨gb227, 3, none⟩ (.slice Ao16 t220.length co16)).setCell ⟨gb227, 4, none⟩ (.bool t223)).setCell ⟨gb227, 5, none⟩ (.bool t224)).setCell ⟨gb227, 6, none⟩ (.bool t225))) := ⟨by repeat (first | (with_reducible first | exact HB.out | apply below_alloc | apply pw_below_drewN | apply below_drew1 | refine below_set ?_ GE214.out | refine below_set ?_ GE227.out) | exact HB.out)⟩
 (try clear HO219)
 (try clear HO222)
 (try clear BK214)
 (try clear BK227)
 (try clear HB)
 generalize (((((((w12.setCell ⟨gb227, 0, none⟩ (.int .i64 t215)).setCell ⟨gb227, 1, none⟩ (.int .i64 t216)).setCell ⟨gb227, 2, none⟩ (.slice Ao15 t217.length co15)).setCell ⟨gb227, 3, none⟩ (.slice Ao16 t220.length co16)).setCell ⟨gb227, 4, none⟩ (.bool t223)).setCell ⟨gb227, 5, none⟩ (.bool t224)).setCell ⟨gb227, 6, none⟩ (.bool t225)) = w17 at n0_ n1_ n2_ n3_ n4_ ⊢
 have HO219 := n0_
 have HO222 := n1_
 have BK214 := n2_
 have BK227 := n3_
 have HB := n4_
 clear n0_ n1_ n2_ n3_ n4_
 have n0_ := Aside0.mk (Kd.R_drew HO219.out)
 have n1_ := Aside0.mk (Kd.R_drew HO222.out)
 have n2_ := Aside0.mk (blk_drew BK214.out)
 have n3_ := Aside0.mk (blk_drew BK227.out)
 have n4_ := Aside0.mk (below_drew1 HB.out)
 clear HO219
 clear HO222
 clear BK214
 clear BK227
 clear HB
 have HO219 := n0_
 have HO222 := n1_
 have BK214 := n2_
 have BK227 := n3_
 have HB := n4_
 clear n0_ n1_ n2_ n3_ n4_
 refine start_ (n := 8) (S := fun w' => w'.cell? ⟨gb214, 0, none⟩ = some (.slice A0_0 l0_0.length c0_0) ∧ w'.cell? ⟨gb214, 1, none⟩ = some (.slice A0_1 l0_1.length c0_1)) (ds := []) #[false, false, false, false, false, false, false, false] (by kernel_rfl) rfl rfl ⟨(blk_cell BK214.out 0).trans rfl, (blk_cell BK214.out 1).trans rfl⟩ (fun hHeld => ?_); refine with_tabW atticlaw19_MarkRooms.tab2 atticlaw19_MarkRooms.bits2 (fun HT_ HW_ => ?_)
 generalize w17.drew = w18 at HO219 HO222 BK214 BK227 HB hHeld ⊢
 refine pure_ (i := 0) (N := some 20) (v := ?_) (a' := ?_) #[true, false, false, false, false, false, false, false] rfl rfl (any_of HT_.out (by kernel_rfl)) (fun _ _ _ h => h) (Or.inl ⟨by rfl, ?_⟩) ?_ ?_
 rotate_left
 ·intro w'
  go_simp
  with_reducible rfl
 rotate_left
 ·simp only [Act.put, List.setIfInBounds_toArray, List.set_cons_zero, List.set_cons_succ, i64_w, i32_w]
  rfl
 refine pure_ (i := 2) (N := some 22) (v := ?_) (a' := ?_) #[true, false, true, false, false, false, false, false] rfl rfl (any_of HT_.out (by kernel_rfl)) (fun _ _ _ h => h) (Or.inl ⟨by rfl, ?_⟩) ?_ ?_
 rotate_left
 ·intro w'
  go_simp
  with_reducible rfl
 rotate_left
 ·simp only [Act.put, List.setIfInBounds_toArray, List.set_cons_zero, List.set_cons_succ, i64_w, i32_w]
  rfl
 refine take_ (i := 1) (N := some 21) (v := ?_) (a' := ?_) #[true, true, true, false, false, false, false, false] rfl rfl (take_ofW HT_.out HW_.out (by kernel_rfl)) (fun _ _ _ h => h) (Or.inl ⟨by rfl, ?_⟩) hHeld ?_ ?_
 rotate_left
 ·rintro w' ⟨s0, s1⟩
  go_simp
  with_reducible rfl
 rotate_left
 ·simp only [Act.put, List.setIfInBounds_toArray, List.set_cons_zero, List.set_cons_succ, i64_w, i32_w]
  rfl
 refine take_ (i := 3) (N := some 23) (v := ?_) (a' := ?_) #[true, true, true, true, false, false, false, false] rfl rfl (take_ofW HT_.out HW_.out (by kernel_rfl)) (fun _ _ _ h => h) (Or.inl ⟨by rfl, ?_⟩) hHeld ?_ ?_
 rotate_left
 ·rintro w' ⟨s0, s1⟩
  go_simp
  with_reducible rfl
 rotate_left
 ·simp only [Act.put, List.setIfInBounds_toArray, List.set_cons_zero, List.set_cons_succ, i64_w, i32_w]
  rfl
 refine join_ (σ := Value × Nat) 1 #[true, true, true, true, true, true, true, false] (fun s_ => [(24, s_.1), (9, .pointer (some ⟨s_.2, 0, none⟩)), (25, .agg #[.slice A0_0 l0_0.length c0_0, s_.1])]) (fun s_ w' => (w'.cell? ⟨gb214, 0, none⟩ = some (.slice A0_0 l0_0.length c0_0) ∧ w'.cell? ⟨gb214, 1, none⟩ = some (.slice A0_1 l0_1.length c0_1)) ∧ (Kd.R Kd.bool 4 w' w.heap.size (fun _ => True) (.slice Ao15 t217.length co15) t217) ∧ (Kd.R (Kd.int .i64) 3 w' w.heap.size (fun k_ => some k_ ≠ (s_.1 : Value).ownBlock) (.slice Ao16 t220.length co16) t220) ∧ (Kd.R (Kd.int .i64) 3 w' w.heap.size (fun k_ => some k_ ≠ (.slice Ao16 t220.length co16 : Value).ownBlock) s_.1 t228) ∧ (w'.heap[gb214]? = some (.cells #[.slice A0_0 l0_0.length c0_0, .slice A0_1 l0_1.length c0_1] 25 (0, 0))) ∧ (w'.heap[gb227]? = some (.cells #[.int .i64 t215, .int .i64 t216, .slice Ao15 t217.length co15, .slice Ao16 t220.length co16, .bool t223, .bool t224, .bool t225] 28 (0, 0))) ∧ (w'.heap[s_.2]? = some (.cells #[.slice none 0 0, .slice none 0 0] 25 (0, 0))) ∧ (w.heap.size ≤ s_.2) ∧ (w.heap.size ≤ s_.2) ∧ (gb214 ≠ s_.2) ∧ (s_.2 ≠ gb214) ∧ (gb227 ≠ s_.2) ∧ (s_.2 ≠ gb227) ∧ (Below w.heap.size w w')) ?_ ?_
 rotate_left
 ·intro hCont
  refine two_ (i := 4) (j := 6) (Ni := some 24) (Nj := some 9) #[true, true, true, true, true, false, false, false] #[true, true, true, true, false, false, true, false] rfl rfl rfl rfl (two_of HT_.out (by kernel_rfl)) (by decide) (by decide) (fun K hK => ?_) (fun K hK => ?_)
  ·skip
   refine goes_ Try.func29 (by kernel_rfl) rfl #[.slice A0_1 l0_1.length c0_1] (by rfl) rfl rfl (by (try simp only [List.map_toArray, List.map_cons, List.map_nil]); first | done | rfl | (simp only [List.length_drop, List.length_take]; rfl)) ?_
   with_reducible refine (clone_int.calls _ _ l0_1 t228 _ ?side1 ?side2 A5.out).mono ?_
   (case side1 => repeat (first | exact (Kd.C_below HR0_1.out HB.out) | (with_reducible refine Kd.C_alloc ?_ _) | (with_reducible refine Kd.C_drewN ?_ _) | (with_reducible refine Kd.C_drew ?_)))
   (case side2 => exact HC0_1.out)
   rintro e w19 ⟨v229, rfl, ho0, hb⟩
   refine ⟨_, rfl, ?_⟩
   have n0_ := Aside0.mk (Kd.R_below (by (with_reducible repeat (first | apply Kd.R_alloc | apply Kd.R_drewN | apply Kd.R_drew)); exact HO219.out) hb)
   have n1_ := Aside0.mk (Kd.R_elder' (by (with_reducible repeat (first | apply Kd.R_alloc | apply Kd.R_drewN | apply Kd.R_drew)); exact HO222.out) (Kd.R_base ho0) hb)
   have n2_ := Aside0.mk (Kd.R_lower (Kd.R_new' ho0 (Kd.R_lt (by (with_reducible repeat (first | apply Kd.R_alloc | apply Kd.R_drewN | apply Kd.R_drew)); exact HO222.out))) (below_size (by repeat (first | (with_reducible first | exact HB.out | apply below_alloc | apply pw_below_drewN | apply below_drew1 | refine below_set ?_ GE214.out | refine below_set ?_ GE227.out) | exact HB.out))))
   have n3_ := Aside0.mk (blk_below (g := gb214) (o := .cells #[.slice A0_0 l0_0.length c0_0, .slice A0_1 l0_1.length c0_1] 25 (0, 0)) (by (with_reducible repeat first | apply blk_drewN | apply blk_drew | apply blk_alloc); exact BK214.out) hb)
   have n4_ := Aside0.mk (blk_below (g := gb227) (o := .cells #[.int .i64 t215, .int .i64 t216, .slice Ao15 t217.length co15, .slice Ao16 t220.length co16, .bool t223, .bool t224, .bool t225] 28 (0, 0)) (by (with_reducible repeat first | apply blk_drewN | apply blk_drew | apply blk_alloc); exact BK227.out) hb)
   have n5_ := Aside0.mk (below_step (by repeat (first | (with_reducible first | exact HB.out | apply below_alloc | apply pw_below_drewN | apply below_drew1 | refine below_set ?_ GE214.out | refine below_set ?_ GE227.out) | exact HB.out)) hb)
   clear HO219
   clear HO222
   clear BK214
   clear BK227
   clear HB
   have HO219 := n0_
   have HO222 := n1_
   have HO230 := n2_
   have BK214 := n3_
   have BK227 := n4_
   have HB := n5_
   clear n0_ n1_ n2_ n3_ n4_ n5_
   (try clear hb)
   (try clear hb2)
   (try clear hk)
   (try clear hi)
   (try clear ho0)
   obtain ⟨Ao20, co20, eo20⟩ := Kd.R_slice HO230.out
   (first | subst eo20 | (injection eo20 with f1_ f2_ f3_; have f4_ := f1_.symm; have f5_ := f3_.symm; clear f1_ f2_ f3_; subst f4_; subst f5_))
   refine hK.out _ _ ⟨(blk_cell BK214.out 0).trans rfl, (blk_cell BK214.out 1).trans rfl⟩ (fun hHeld => ?_)
   clear hK K
   refine norm_ (a' := ?_) ?_ ?_
   rotate_left
   ·show Act.put _ (some 24) _ = _
    simp only [Act.put, List.setIfInBounds_toArray, List.set_cons_zero, List.set_cons_succ, i64_w, i32_w]
    rfl
   refine pure_ (i := 5) (N := some 25) (v := ?_) (a' := ?_) #[true, true, true, true, true, true, false, false] rfl rfl (any_of HT_.out (by kernel_rfl)) (fun _ _ _ h => h) (Or.inl ⟨by rfl, ?_⟩) ?_ ?_
   rotate_left
   ·intro w'
    go_simp
    with_reducible rfl
   rotate_left
   ·simp only [Act.put, List.setIfInBounds_toArray, List.set_cons_zero, List.set_cons_succ, i64_w, i32_w]
    rfl
   refine one_ (i := 6) (N := some 9) #[true, true, true, true, true, true, true, false] rfl rfl (one_of HT_.out (by kernel_rfl)) (by decide) (fun K hK => ?_)
   refine box_step ?hg (N := 9) ?hd (cs := #[.slice none 0 0, .slice none 0 0]) (t := 25) ?hr ?_; (case hd => rfl); (case hg => rfl); (case hr => first | (go_simp; done) | (go_simp; rfl))
   intro gb231 hg w21 hbox hb
   have n0_ := Aside0.mk (Kd.R_below (by (with_reducible repeat (first | apply Kd.R_alloc | apply Kd.R_drewN | apply Kd.R_drew)); exact HO219.out) hb)
   have n1_ := Aside0.mk (Kd.R_below (by (with_reducible repeat (first | apply Kd.R_alloc | apply Kd.R_drewN | apply Kd.R_drew)); exact HO222.out) hb)
   have n2_ := Aside0.mk (Kd.R_below (by (with_reducible repeat (first | apply Kd.R_alloc | apply Kd.R_drewN | apply Kd.R_drew)); exact HO230.out) hb)
   have n3_ := Aside0.mk (blk_below (g := gb214) (o := .cells #[.slice A0_0 l0_0.length c0_0, .slice A0_1 l0_1.length c0_1] 25 (0, 0)) (by (with_reducible repeat first | apply blk_drewN | apply blk_drew | apply blk_alloc); exact BK214.out) hb)
   have n4_ := Aside0.mk (blk_below (g := gb227) (o := .cells #[.int .i64 t215, .int .i64 t216, .slice Ao15 t217.length co15, .slice Ao16 t220.length co16, .bool t223, .bool t224, .bool t225] 28 (0, 0)) (by (with_reducible repeat first | apply blk_drewN | apply blk_drew | apply blk_alloc); exact BK227.out) hb)
   have n5_ := Aside0.mk (below_step (by repeat (first | (with_reducible first | exact HB.out | apply below_alloc | apply pw_below_drewN | apply below_drew1 | refine below_set ?_ GE214.out | refine below_set ?_ GE227.out) | exact HB.out)) hb)
   have n6_ := Aside0.mk (hbox)
   have n7_ := Aside0.mk ((by rw [hg]; exact (below_size (by repeat (first | (with_reducible first | exact HB.out | apply below_alloc | apply pw_below_drewN | apply below_drew1 | refine below_set ?_ GE214.out | refine below_set ?_ GE227.out) | exact HB.out))) : w.heap.size ≤ gb231))
   have n8_ := Aside0.mk ((by rw [hg]; exact (below_size (by repeat (first | (with_reducible first | exact HB.out | apply below_alloc | apply pw_below_drewN | apply below_drew1 | refine below_set ?_ GE214.out | refine below_set ?_ GE227.out) | exact HB.out))) : w.heap.size ≤ gb231))
   have n9_ := Aside0.mk ((by rw [hg]; exact Nat.ne_of_lt (blk_lt (g := gb214) (o := .cells #[.slice A0_0 l0_0.length c0_0, .slice A0_1 l0_1.length c0_1] 25 (0, 0)) (by (with_reducible repeat first | apply blk_drewN | apply blk_drew | apply blk_alloc); exact BK214.out)) : gb214 ≠ gb231))
   have n10_ := Aside0.mk ((by rw [hg]; exact Nat.ne_of_gt (blk_lt (g := gb214) (o := .cells #[.slice A0_0 l0_0.length c0_0, .slice A0_1 l0_1.length c0_1] 25 (0, 0)) (by (with_reducible repeat first | apply blk_drewN | apply blk_drew | apply blk_alloc); exact BK214.out)) : gb231 ≠ gb214))
   have n11_ := Aside0.mk ((by rw [hg]; exact Nat.ne_of_lt (blk_lt (g := gb227) (o := .cells #[.int .i64 t215, .int .i64 t216, .slice Ao15 t217.length co15, .slice Ao16 t220.length co16, .bool t223, .bool t224, .bool t225] 28 (0, 0)) (by (with_reducible repeat first | apply blk_drewN | apply blk_drew | apply blk_alloc); exact BK227.out)) : gb227 ≠ gb231))
   have n12_ := Aside0.mk ((by rw [hg]; exact Nat.ne_of_gt (blk_lt (g := gb227) (o := .cells #[.int .i64 t215, .int .i64 t216, .slice Ao15 t217.length co15, .slice Ao16 t220.length co16, .bool t223, .bool t224, .bool t225] 28 (0, 0)) (by (with_reducible repeat first | apply blk_drewN | apply blk_drew | apply blk_alloc); exact BK227.out)) : gb231 ≠ gb227))
   clear HO219
   clear HO222
   clear HO230
   clear BK214
   clear BK227
   clear HB
   have HO219 := n0_
   have HO222 := n1_
   have HO230 := n2_
   have BK214 := n3_
   have BK227 := n4_
   have HB := n5_
   have BK231 := n6_
   have GW231 := n7_
   have GE231 := n8_
   have NB214_231 := n9_
   have NB231_214 := n10_
   have NB227_231 := n11_
   have NB231_227 := n12_
   clear n0_ n1_ n2_ n3_ n4_ n5_ n6_ n7_ n8_ n9_ n10_ n11_ n12_
   clear hb hbox hg
   refine hK.out _ _ ⟨(blk_cell BK214.out 0).trans rfl, (blk_cell BK214.out 1).trans rfl⟩ (fun hHeld => ?_)
   clear hK K
   refine norm_ (a' := ?_) ?_ ?_
   rotate_left
   ·show Act.put _ (some 9) _ = _
    simp only [Act.put, List.setIfInBounds_toArray, List.set_cons_zero, List.set_cons_succ, i64_w, i32_w]
    rfl
   exact norm_ (by simp only [putAll, Act.put, List.setIfInBounds_toArray, List.set_cons_zero, List.set_cons_succ]) (hCont (.slice Ao20 t228.length co20, gb231) _ ⟨hHeld, (by (with_reducible repeat (first | apply Kd.R_alloc | apply Kd.R_drewN | apply Kd.R_drew)); exact HO219.out), (by (with_reducible repeat (first | apply Kd.R_alloc | apply Kd.R_drewN | apply Kd.R_drew)); exact Kd.R_mono HO222.out (fun _ hk => hk.2)), (by (with_reducible repeat (first | apply Kd.R_alloc | apply Kd.R_drewN | apply Kd.R_drew)); exact Kd.R_mono HO230.out (fun _ hk => hk.2)), (by (with_reducible repeat first | apply blk_drewN | apply blk_drew | apply blk_alloc); exact BK214.out), (by (with_reducible repeat first | apply blk_drewN | apply blk_drew | apply blk_alloc); exact BK227.out), (by (with_reducible repeat first | apply blk_drewN | apply blk_drew | apply blk_alloc); exact BK231.out), GW231.out, GE231.out, NB214_231.out, NB231_214.out, NB227_231.out, NB231_227.out, (by repeat (first | (with_reducible first | exact HB.out | apply below_alloc | apply pw_below_drewN | apply below_drew1 | refine below_set ?_ GE214.out | refine below_set ?_ GE227.out | refine below_set ?_ GE231.out) | exact HB.out))⟩)
  ·skip
   refine box_step ?hg (N := 9) ?hd (cs := #[.slice none 0 0, .slice none 0 0]) (t := 25) ?hr ?_; (case hd => rfl); (case hg => rfl); (case hr => first | (go_simp; done) | (go_simp; rfl))
   intro gb231 hg w19 hbox hb
   have n0_ := Aside0.mk (Kd.R_below (by (with_reducible repeat (first | apply Kd.R_alloc | apply Kd.R_drewN | apply Kd.R_drew)); exact HO219.out) hb)
   have n1_ := Aside0.mk (Kd.R_below (by (with_reducible repeat (first | apply Kd.R_alloc | apply Kd.R_drewN | apply Kd.R_drew)); exact HO222.out) hb)
   have n2_ := Aside0.mk (blk_below (g := gb214) (o := .cells #[.slice A0_0 l0_0.length c0_0, .slice A0_1 l0_1.length c0_1] 25 (0, 0)) (by (with_reducible repeat first | apply blk_drewN | apply blk_drew | apply blk_alloc); exact BK214.out) hb)
   have n3_ := Aside0.mk (blk_below (g := gb227) (o := .cells #[.int .i64 t215, .int .i64 t216, .slice Ao15 t217.length co15, .slice Ao16 t220.length co16, .bool t223, .bool t224, .bool t225] 28 (0, 0)) (by (with_reducible repeat first | apply blk_drewN | apply blk_drew | apply blk_alloc); exact BK227.out) hb)
   have n4_ := Aside0.mk (below_step (by repeat (first | (with_reducible first | exact HB.out | apply below_alloc | apply pw_below_drewN | apply below_drew1 | refine below_set ?_ GE214.out | refine below_set ?_ GE227.out) | exact HB.out)) hb)
   have n5_ := Aside0.mk (hbox)
   have n6_ := Aside0.mk ((by rw [hg]; exact (below_size (by repeat (first | (with_reducible first | exact HB.out | apply below_alloc | apply pw_below_drewN | apply below_drew1 | refine below_set ?_ GE214.out | refine below_set ?_ GE227.out) | exact HB.out))) : w.heap.size ≤ gb231))
   have n7_ := Aside0.mk ((by rw [hg]; exact (below_size (by repeat (first | (with_reducible first | exact HB.out | apply below_alloc | apply pw_below_drewN | apply below_drew1 | refine below_set ?_ GE214.out | refine below_set ?_ GE227.out) | exact HB.out))) : w.heap.size ≤ gb231))
   have n8_ := Aside0.mk ((by rw [hg]; exact Nat.ne_of_lt (blk_lt (g := gb214) (o := .cells #[.slice A0_0 l0_0.length c0_0, .slice A0_1 l0_1.length c0_1] 25 (0, 0)) (by (with_reducible repeat first | apply blk_drewN | apply blk_drew | apply blk_alloc); exact BK214.out)) : gb214 ≠ gb231))
   have n9_ := Aside0.mk ((by rw [hg]; exact Nat.ne_of_gt (blk_lt (g := gb214) (o := .cells #[.slice A0_0 l0_0.length c0_0, .slice A0_1 l0_1.length c0_1] 25 (0, 0)) (by (with_reducible repeat first | apply blk_drewN | apply blk_drew | apply blk_alloc); exact BK214.out)) : gb231 ≠ gb214))
   have n10_ := Aside0.mk ((by rw [hg]; exact Nat.ne_of_lt (blk_lt (g := gb227) (o := .cells #[.int .i64 t215, .int .i64 t216, .slice Ao15 t217.length co15, .slice Ao16 t220.length co16, .bool t223, .bool t224, .bool t225] 28 (0, 0)) (by (with_reducible repeat first | apply blk_drewN | apply blk_drew | apply blk_alloc); exact BK227.out)) : gb227 ≠ gb231))
   have n11_ := Aside0.mk ((by rw [hg]; exact Nat.ne_of_gt (blk_lt (g := gb227) (o := .cells #[.int .i64 t215, .int .i64 t216, .slice Ao15 t217.length co15, .slice Ao16 t220.length co16, .bool t223, .bool t224, .bool t225] 28 (0, 0)) (by (with_reducible repeat first | apply blk_drewN | apply blk_drew | apply blk_alloc); exact BK227.out)) : gb231 ≠ gb227))
   clear HO219
   clear HO222
   clear BK214
   clear BK227
   clear HB
   have HO219 := n0_
   have HO222 := n1_
   have BK214 := n2_
   have BK227 := n3_
   have HB := n4_
   have BK231 := n5_
   have GW231 := n6_
   have GE231 := n7_
   have NB214_231 := n8_
   have NB231_214 := n9_
   have NB227_231 := n10_
   have NB231_227 := n11_
   clear n0_ n1_ n2_ n3_ n4_ n5_ n6_ n7_ n8_ n9_ n10_ n11_
   clear hb hbox hg
   refine hK.out _ _ ⟨(blk_cell BK214.out 0).trans rfl, (blk_cell BK214.out 1).trans rfl⟩ (fun hHeld => ?_)
   clear hK K
   refine norm_ (a' := ?_) ?_ ?_
   rotate_left
   ·show Act.put _ (some 9) _ = _
    simp only [Act.put, List.setIfInBounds_toArray, List.set_cons_zero, List.set_cons_succ, i64_w, i32_w]
    rfl
   refine one_ (i := 4) (N := some 24) #[true, true, true, true, true, false, true, false] rfl rfl (one_of HT_.out (by kernel_rfl)) (by decide) (fun K hK => ?_)
   refine goes_ Try.func29 (by kernel_rfl) rfl #[.slice A0_1 l0_1.length c0_1] (by rfl) rfl rfl (by (try simp only [List.map_toArray, List.map_cons, List.map_nil]); first | done | rfl | (simp only [List.length_drop, List.length_take]; rfl)) ?_
   with_reducible refine (clone_int.calls _ _ l0_1 t228 _ ?side1 ?side2 A5.out).mono ?_
   (case side1 => repeat (first | exact (Kd.C_below HR0_1.out HB.out) | (with_reducible refine Kd.C_alloc ?_ _) | (with_reducible refine Kd.C_drewN ?_ _) | (with_reducible refine Kd.C_drew ?_)))
   (case side2 => exact HC0_1.out)
   rintro e w20 ⟨v229, rfl, ho0, hb⟩
   refine ⟨_, rfl, ?_⟩
   have n0_ := Aside0.mk (Kd.R_below (by (with_reducible repeat (first | apply Kd.R_alloc | apply Kd.R_drewN | apply Kd.R_drew)); exact HO219.out) hb)
   have n1_ := Aside0.mk (Kd.R_elder' (by (with_reducible repeat (first | apply Kd.R_alloc | apply Kd.R_drewN | apply Kd.R_drew)); exact HO222.out) (Kd.R_base ho0) hb)
   have n2_ := Aside0.mk (Kd.R_lower (Kd.R_new' ho0 (Kd.R_lt (by (with_reducible repeat (first | apply Kd.R_alloc | apply Kd.R_drewN | apply Kd.R_drew)); exact HO222.out))) (below_size (by repeat (first | (with_reducible first | exact HB.out | apply below_alloc | apply pw_below_drewN | apply below_drew1 | refine below_set ?_ GE214.out | refine below_set ?_ GE227.out | refine below_set ?_ GE231.out) | exact HB.out))))
   have n3_ := Aside0.mk (blk_below (g := gb214) (o := .cells #[.slice A0_0 l0_0.length c0_0, .slice A0_1 l0_1.length c0_1] 25 (0, 0)) (by (with_reducible repeat first | apply blk_drewN | apply blk_drew | apply blk_alloc); exact BK214.out) hb)
   have n4_ := Aside0.mk (blk_below (g := gb227) (o := .cells #[.int .i64 t215, .int .i64 t216, .slice Ao15 t217.length co15, .slice Ao16 t220.length co16, .bool t223, .bool t224, .bool t225] 28 (0, 0)) (by (with_reducible repeat first | apply blk_drewN | apply blk_drew | apply blk_alloc); exact BK227.out) hb)
   have n5_ := Aside0.mk (blk_below (g := gb231) (o := .cells #[.slice none 0 0, .slice none 0 0] 25 (0, 0)) (by (with_reducible repeat first | apply blk_drewN | apply blk_drew | apply blk_alloc); exact BK231.out) hb)
   have n6_ := Aside0.mk (below_step (by repeat (first | (with_reducible first | exact HB.out | apply below_alloc | apply pw_below_drewN | apply below_drew1 | refine below_set ?_ GE214.out | refine below_set ?_ GE227.out | refine below_set ?_ GE231.out) | exact HB.out)) hb)
   clear HO219
   clear HO222
   clear BK214
   clear BK227
   clear BK231
   clear HB
   have HO219 := n0_
   have HO222 := n1_
   have HO230 := n2_
   have BK214 := n3_
   have BK227 := n4_
   have BK231 := n5_
   have HB := n6_
   clear n0_ n1_ n2_ n3_ n4_ n5_ n6_
   (try clear hb)
   (try clear hb2)
   (try clear hk)
   (try clear hi)
   (try clear ho0)
   obtain ⟨Ao21, co21, eo21⟩ := Kd.R_slice HO230.out
   (first | subst eo21 | (injection eo21 with f1_ f2_ f3_; have f4_ := f1_.symm; have f5_ := f3_.symm; clear f1_ f2_ f3_; subst f4_; subst f5_))
   refine hK.out _ _ ⟨(blk_cell BK214.out 0).trans rfl, (blk_cell BK214.out 1).trans rfl⟩ (fun hHeld => ?_)
   clear hK K
   refine norm_ (a' := ?_) ?_ ?_
   rotate_left
   ·show Act.put _ (some 24) _ = _
    simp only [Act.put, List.setIfInBounds_toArray, List.set_cons_zero, List.set_cons_succ, i64_w, i32_w]
    rfl
   refine pure_ (i := 5) (N := some 25) (v := ?_) (a' := ?_) #[true, true, true, true, true, true, true, false] rfl rfl (any_of HT_.out (by kernel_rfl)) (fun _ _ _ h => h) (Or.inl ⟨by rfl, ?_⟩) ?_ ?_
   rotate_left
   ·intro w'
    go_simp
    with_reducible rfl
   rotate_left
   ·simp only [Act.put, List.setIfInBounds_toArray, List.set_cons_zero, List.set_cons_succ, i64_w, i32_w]
    rfl
   exact norm_ (by simp only [putAll, Act.put, List.setIfInBounds_toArray, List.set_cons_zero, List.set_cons_succ]) (hCont (.slice Ao21 t228.length co21, gb231) _ ⟨hHeld, (by (with_reducible repeat (first | apply Kd.R_alloc | apply Kd.R_drewN | apply Kd.R_drew)); exact HO219.out), (by (with_reducible repeat (first | apply Kd.R_alloc | apply Kd.R_drewN | apply Kd.R_drew)); exact Kd.R_mono HO222.out (fun _ hk => hk.2)), (by (with_reducible repeat (first | apply Kd.R_alloc | apply Kd.R_drewN | apply Kd.R_drew)); exact Kd.R_mono HO230.out (fun _ hk => hk.2)), (by (with_reducible repeat first | apply blk_drewN | apply blk_drew | apply blk_alloc); exact BK214.out), (by (with_reducible repeat first | apply blk_drewN | apply blk_drew | apply blk_alloc); exact BK227.out), (by (with_reducible repeat first | apply blk_drewN | apply blk_drew | apply blk_alloc); exact BK231.out), GW231.out, GE231.out, NB214_231.out, NB231_214.out, NB227_231.out, NB231_227.out, (by repeat (first | (with_reducible first | exact HB.out | apply below_alloc | apply pw_below_drewN | apply below_drew1 | refine below_set ?_ GE214.out | refine below_set ?_ GE227.out | refine below_set ?_ GE231.out) | exact HB.out))⟩)
 rintro ⟨v229, gb231⟩ w22 ⟨hS_, h0_, h1_, h2_, h3_, h4_, h5_, h6_, h7_, h8_, h9_, h10_, h11_, h12_⟩
 have n0_ : Aside0 (Kd.R Kd.bool 4 w22 w.heap.size (fun _ => True) (.slice Ao15 t217.length co15) t217) := ⟨h0_⟩
 have n1_ : Aside0 (Kd.R (Kd.int .i64) 3 w22 w.heap.size (fun k_ => some k_ ≠ (v229 : Value).ownBlock) (.slice Ao16 t220.length co16) t220) := ⟨h1_⟩
 have n2_ : Aside0 (Kd.R (Kd.int .i64) 3 w22 w.heap.size (fun k_ => some k_ ≠ (.slice Ao16 t220.length co16 : Value).ownBlock) v229 t228) := ⟨h2_⟩
 have n3_ : Aside0 (w22.heap[gb214]? = some (.cells #[.slice A0_0 l0_0.length c0_0, .slice A0_1 l0_1.length c0_1] 25 (0, 0))) := ⟨h3_⟩
 have n4_ : Aside0 (w22.heap[gb227]? = some (.cells #[.int .i64 t215, .int .i64 t216, .slice Ao15 t217.length co15, .slice Ao16 t220.length co16, .bool t223, .bool t224, .bool t225] 28 (0, 0))) := ⟨h4_⟩
 have n5_ : Aside0 (w22.heap[gb231]? = some (.cells #[.slice none 0 0, .slice none 0 0] 25 (0, 0))) := ⟨h5_⟩
 have n6_ : Aside0 (w.heap.size ≤ gb231) := ⟨h6_⟩
 have n7_ : Aside0 (w.heap.size ≤ gb231) := ⟨h7_⟩
 have n8_ : Aside0 (gb214 ≠ gb231) := ⟨h8_⟩
 have n9_ : Aside0 (gb231 ≠ gb214) := ⟨h9_⟩
 have n10_ : Aside0 (gb227 ≠ gb231) := ⟨h10_⟩
 have n11_ : Aside0 (gb231 ≠ gb227) := ⟨h11_⟩
 have n12_ : Aside0 (Below w.heap.size w w22) := ⟨h12_⟩
 clear HO219
 clear HO222
 clear BK214
 clear BK227
 clear HB
 clear h0_ h1_ h2_ h3_ h4_ h5_ h6_ h7_ h8_ h9_ h10_ h11_ h12_
 have HO219 := n0_
 have HO222 := n1_
 have HO230 := n2_
 have BK214 := n3_
 have BK227 := n4_
 have BK231 := n5_
 have GW231 := n6_
 have GE231 := n7_
 have NB214_231 := n8_
 have NB231_214 := n9_
 have NB227_231 := n10_
 have NB231_227 := n11_
 have HB := n12_
 clear n0_ n1_ n2_ n3_ n4_ n5_ n6_ n7_ n8_ n9_ n10_ n11_ n12_
 have hHeld : w22.cell? ⟨gb214, 0, none⟩ = some (.slice A0_0 l0_0.length c0_0) ∧ w22.cell? ⟨gb214, 1, none⟩ = some (.slice A0_1 l0_1.length c0_1) := hS_
 obtain ⟨Ao23, co23, eo23⟩ := Kd.R_slice HO230.out
 (first | subst eo23 | (injection eo23 with f1_ f2_ f3_; have f4_ := f1_.symm; have f5_ := f3_.symm; clear f1_ f2_ f3_; subst f4_; subst f5_))
 refine norm_ (a' := ?_) ?_ ?_
 rotate_left
 ·simp only [putAll, Act.put, List.setIfInBounds_toArray, List.set_cons_zero, List.set_cons_succ]
  rfl
 refine one_ (i := 7) (N := none) #[true, true, true, true, true, true, true, true] rfl rfl (one_of HT_.out (by kernel_rfl)) (by decide) (fun K hK => ?_)
 have hs24 : w22.cell? ⟨gb231, 0, none⟩ = some (.slice none 0 0) := (blk_cell BK231.out 0).trans rfl
 have hfs24 := blk_frozen BK231.out 0
 have hns24_0 := NB214_231.out
 have hns24_1 := NB227_231.out
 have hms24_0 := NB231_214.out
 have hms24_1 := NB231_227.out
 have hs25 : w22.cell? ⟨gb231, 1, none⟩ = some (.slice none 0 0) := (blk_cell BK231.out 1).trans rfl
 have hfs25 := blk_frozen BK231.out 1
 have hns25_0 := NB214_231.out
 have hns25_1 := NB227_231.out
 have hms25_0 := NB231_214.out
 have hms25_1 := NB231_227.out
 refine skip_ (w1 := ?_) (by rfl) rfl ?_ ?_
 rotate_left
 ·go_simp
  rfl
 refine hK.out _ _ ⟨((cell_far (p := ⟨gb231, _, none⟩) NB214_231.out _).trans (((cell_far (p := ⟨gb231, _, none⟩) NB214_231.out _).trans (hHeld.1)))), ((cell_far (p := ⟨gb231, _, none⟩) NB214_231.out _).trans (((cell_far (p := ⟨gb231, _, none⟩) NB214_231.out _).trans (hHeld.2))))⟩ (fun hHeld => ?_)
 clear hK K
 refine done_ (done_of HT_.out (by kernel_rfl)) ?_
 have n0_ : Aside0 (Kd.R Kd.bool 4 ((w22.setCell ⟨gb231, 0, none⟩ (.slice A0_0 l0_0.length c0_0)).setCell ⟨gb231, 1, none⟩ (.slice Ao23 t228.length co23)) w.heap.size (fun _ => True) (.slice Ao15 t217.length co15) t217) := ⟨by (with_reducible repeat (first | apply Kd.R_alloc | apply Kd.R_drewN | apply Kd.R_drew)); exact Kd.R_mono (Kd.R_far (p := ⟨gb231, 1, none⟩) (Kd.R_far (p := ⟨gb231, 0, none⟩) (Kd.R_types HO219.out BK231.out (by decide)) (fun _ hk => hk.2) (.slice A0_0 l0_0.length c0_0)) (fun _ hk => hk.2) (.slice Ao23 t228.length co23)) (fun _ hk => trivial)⟩
 have n1_ : Aside0 (Kd.R (Kd.int .i64) 3 ((w22.setCell ⟨gb231, 0, none⟩ (.slice A0_0 l0_0.length c0_0)).setCell ⟨gb231, 1, none⟩ (.slice Ao23 t228.length co23)) w.heap.size (fun k_ => some k_ ≠ (.slice Ao23 t228.length co23 : Value).ownBlock) (.slice Ao16 t220.length co16) t220) := ⟨by (with_reducible repeat (first | apply Kd.R_alloc | apply Kd.R_drewN | apply Kd.R_drew)); exact Kd.R_mono (Kd.R_far (p := ⟨gb231, 1, none⟩) (Kd.R_far (p := ⟨gb231, 0, none⟩) (Kd.R_types HO222.out BK231.out (by decide)) (fun _ hk => hk.2) (.slice A0_0 l0_0.length c0_0)) (fun _ hk => hk.2) (.slice Ao23 t228.length co23)) (fun _ hk => hk.1)⟩
 have n2_ : Aside0 (Kd.R (Kd.int .i64) 3 ((w22.setCell ⟨gb231, 0, none⟩ (.slice A0_0 l0_0.length c0_0)).setCell ⟨gb231, 1, none⟩ (.slice Ao23 t228.length co23)) w.heap.size (fun k_ => some k_ ≠ (.slice Ao16 t220.length co16 : Value).ownBlock) (.slice Ao23 t228.length co23) t228) := ⟨by (with_reducible repeat (first | apply Kd.R_alloc | apply Kd.R_drewN | apply Kd.R_drew)); exact Kd.R_mono (Kd.R_far (p := ⟨gb231, 1, none⟩) (Kd.R_far (p := ⟨gb231, 0, none⟩) (Kd.R_types HO230.out BK231.out (by decide)) (fun _ hk => hk.2) (.slice A0_0 l0_0.length c0_0)) (fun _ hk => hk.2) (.slice Ao23 t228.length co23)) (fun _ hk => hk.1)⟩
 have n3_ : Aside0 (((w22.setCell ⟨gb231, 0, none⟩ (.slice A0_0 l0_0.length c0_0)).setCell ⟨gb231, 1, none⟩ (.slice Ao23 t228.length co23)).heap[gb214]? = some (.cells #[.slice A0_0 l0_0.length c0_0, .slice A0_1 l0_1.length c0_1] 25 (0, 0))) := ⟨by (with_reducible repeat first | apply blk_drewN | apply blk_drew | apply blk_alloc); refine blk_far ?_ NB214_231.out _; (with_reducible repeat first | apply blk_drewN | apply blk_drew | apply blk_alloc); refine blk_far ?_ NB214_231.out _; (with_reducible repeat first | apply blk_drewN | apply blk_drew | apply blk_alloc); exact BK214.out⟩
 have n4_ : Aside0 (((w22.setCell ⟨gb231, 0, none⟩ (.slice A0_0 l0_0.length c0_0)).setCell ⟨gb231, 1, none⟩ (.slice Ao23 t228.length co23)).heap[gb227]? = some (.cells #[.int .i64 t215, .int .i64 t216, .slice Ao15 t217.length co15, .slice Ao16 t220.length co16, .bool t223, .bool t224, .bool t225] 28 (0, 0))) := ⟨by (with_reducible repeat first | apply blk_drewN | apply blk_drew | apply blk_alloc); refine blk_far ?_ NB227_231.out _; (with_reducible repeat first | apply blk_drewN | apply blk_drew | apply blk_alloc); refine blk_far ?_ NB227_231.out _; (with_reducible repeat first | apply blk_drewN | apply blk_drew | apply blk_alloc); exact BK227.out⟩
 have n5_ : Aside0 (((w22.setCell ⟨gb231, 0, none⟩ (.slice A0_0 l0_0.length c0_0)).setCell ⟨gb231, 1, none⟩ (.slice Ao23 t228.length co23)).heap[gb231]? = some (.cells #[.slice A0_0 l0_0.length c0_0, .slice Ao23 t228.length co23] 25 (0, 0))) := ⟨by (with_reducible repeat first | apply blk_drewN | apply blk_drew | apply blk_alloc); refine blk_put (cs := #[.slice A0_0 l0_0.length c0_0, .slice none 0 0]) ?_ 1 _ rfl; (with_reducible repeat first | apply blk_drewN | apply blk_drew | apply blk_alloc); refine blk_put (cs := #[.slice none 0 0, .slice none 0 0]) ?_ 0 _ rfl; (with_reducible repeat first | apply blk_drewN | apply blk_drew | apply blk_alloc); exact BK231.out⟩
 have n6_ : Aside0 (Below w.heap.size w ((w22.setCell ⟨gb231, 0, none⟩ (.slice A0_0 l0_0.length c0_0)).setCell ⟨gb231, 1, none⟩ (.slice Ao23 t228.length co23))) := ⟨by repeat (first | (with_reducible first | exact HB.out | apply below_alloc | apply pw_below_drewN | apply below_drew1 | refine below_set ?_ GE214.out | refine below_set ?_ GE227.out | refine below_set ?_ GE231.out) | exact HB.out)⟩
 (try clear HO219)
 (try clear HO222)
 (try clear HO230)
 (try clear BK214)
 (try clear BK227)
 (try clear BK231)
 (try clear HB)
 generalize ((w22.setCell ⟨gb231, 0, none⟩ (.slice A0_0 l0_0.length c0_0)).setCell ⟨gb231, 1, none⟩ (.slice Ao23 t228.length co23)) = w26 at n0_ n1_ n2_ n3_ n4_ n5_ n6_ ⊢
 have HO219 := n0_
 have HO222 := n1_
 have HO230 := n2_
 have BK214 := n3_
 have BK227 := n4_
 have BK231 := n5_
 have HB := n6_
 clear n0_ n1_ n2_ n3_ n4_ n5_ n6_
 have hnb27 := NB231_214.out
 have hnc27 := NB214_231.out
 have hnb28 := NB231_227.out
 have hnc28 := NB227_231.out
 have hcz29_0 : w26.cell? ⟨gb231, 0, none⟩ = some (.slice A0_0 l0_0.length c0_0) := (blk_cell BK231.out 0).trans rfl
 have hcz29_1 : w26.cell? ⟨gb231, 1, none⟩ = some (.slice Ao23 t228.length co23) := (blk_cell BK231.out 1).trans rfl
 have hfz29_0 := blk_frozen BK231.out 0
 have hfz29_1 := blk_frozen BK231.out 1
 go_upto_region 5 with (first | ((with_reducible refine gate_callee (f := 30) rfl ?_); refine goesL_ (some 28) rfl rfl Try.func30 (by kernel_rfl) rfl #[.slice Ao23 t228.length co23] rfl (by (try simp only [List.map_toArray, List.map_cons, List.map_nil]); first | done | rfl | (simp only [List.length_drop, List.length_take]; rfl)) ?_; (with_reducible refine (slices_Reverse_int_int.calls k (fun k_ => some k_ = (.slice Ao23 t228.length co23 : Value).ownBlock) (.slice Ao23 t228.length co23) t228 t232 w _ ?side1 ?side2 A6.out).mono ?_); (case side1 => repeat (first | (with_reducible first | exact HB.out | apply below_alloc | apply pw_below_drewN | apply below_drew1 | refine below_set ?_ GE214.out | refine below_set ?_ GE227.out | refine below_set ?_ GE231.out) | exact HB.out)); (case side2 => exact Kd.R_tight rfl HO230.out); rintro e w30 ⟨rfl, hy0, hb, hkp⟩; refine ⟨_, rfl, ?_⟩; have n0_ := Aside0.mk (blk_kept (by (with_reducible repeat first | apply blk_drewN | apply blk_drew | apply blk_alloc); exact BK214.out) hkp (fun hs_ => (fun e_ => (Kd.R_ne HO230.out BK214.out (by decide)) e_) hs_)); have n1_ := Aside0.mk (Kd.R_mono (ok' := fun k_ => True) (Kd.R_keptB ((Kd.R_apart' HO219.out (Kd.R_typed HO230.out) (by decide))) hkp (fun k_ hk_ hs_ => (hk_.2) hs_)) (fun k_ hk_ => trivial)); have n2_ := Aside0.mk (Kd.R_mono (ok' := fun k_ => some k_ ≠ (.slice Ao23 t228.length co23 : Value).ownBlock) (Kd.R_keptB (HO222.out) hkp (fun k_ hk_ hs_ => (hk_) hs_)) (fun k_ hk_ => hk_.1)); have n3_ := Aside0.mk (blk_kept (by (with_reducible repeat first | apply blk_drewN | apply blk_drew | apply blk_alloc); exact BK227.out) hkp (fun hs_ => (fun e_ => (Kd.R_ne HO230.out BK227.out (by decide)) e_) hs_)); have n4_ := Aside0.mk (Kd.R_reok rfl hy0 (fun k_ e_ => HO230.out.1 k_ e_)); have n5_ := Aside0.mk (blk_kept (by (with_reducible repeat first | apply blk_drewN | apply blk_drew | apply blk_alloc); exact BK231.out) hkp (fun hs_ => (fun e_ => (Kd.R_ne HO230.out BK231.out (by decide)) e_) hs_)); have n6_ := Aside0.mk (hb); clear BK214; clear HO219; clear HO222; clear BK227; clear HO230; clear BK231; clear HB; have BK214 := n0_; have HO219 := n1_; have HO222 := n2_; have BK227 := n3_; have HO230 := n4_; have BK231 := n5_; have HB := n6_; clear n0_ n1_ n2_ n3_ n4_ n5_ n6_; (try clear hb); (try clear hkp); (try clear hy0); have hcz31_0 : w30.cell? ⟨gb231, 0, none⟩ = some (.slice A0_0 l0_0.length c0_0) := (blk_cell BK231.out 0).trans rfl; have hcz31_1 : w30.cell? ⟨gb231, 1, none⟩ = some (.slice Ao23 t228.length co23) := (blk_cell BK231.out 1).trans rfl; have hfz31_0 := blk_frozen BK231.out 0; have hfz31_1 := blk_frozen BK231.out 1) | ((with_reducible refine gate_callee (f := 14) rfl ?_); refine goesL_ (some 34) rfl rfl Try.func14 (by kernel_rfl) rfl #[.agg #[.slice A0_0 l0_0.length c0_0, .slice Ao23 t232.length co23], .int .i64 (wrap64 (1 + (wrap64 (a2))))] rfl (by (try simp only [List.map_toArray, List.map_cons, List.map_nil]); first | done | (rw [show t232.length = t228.length from (Kd.R_reads' HO230.out).1.symm] <;> rfl) | rfl | (simp only [List.length_drop, List.length_take]; rfl)) ?_; (with_reducible refine (mark_New.calls k _ _ l0_0 _ _ t232 (wrap64 (1 + (wrap64 (a2)))) t233 t234 t235 t238 t241 t242 t243 t244 _ ?side1 ?side2 ?side3 ?side4 A7.out).mono ?_); (case side1 => repeat (first | exact (Kd.C_below HR0_0.out HB.out) | (with_reducible refine Kd.C_alloc ?_ _) | (with_reducible refine Kd.C_drewN ?_ _) | (with_reducible refine Kd.C_drew ?_))); (case side2 => exact HC0_0.out); (case side3 => repeat (first | exact (Kd.R_reads' HO230.out).2.2 | (with_reducible refine Kd.C_alloc ?_ _) | (with_reducible refine Kd.C_drewN ?_ _) | (with_reducible refine Kd.C_drew ?_))); (case side4 => rw [show t232.length = t228.length from (Kd.R_reads' HO230.out).1.symm]; exact (Kd.R_reads' HO230.out).2.1); rintro e w32 ⟨v236, v239, rfl, ho0, ho1, hb⟩; refine ⟨_, rfl, ?_⟩; have n0_ := Aside0.mk (Kd.R_elder' (by (with_reducible repeat (first | apply Kd.R_alloc | apply Kd.R_drewN | apply Kd.R_drew)); exact HO219.out) (Kd.R_base ho0) hb); have n1_ := Aside0.mk (Kd.R_elder' (by (with_reducible repeat (first | apply Kd.R_alloc | apply Kd.R_drewN | apply Kd.R_drew)); exact HO222.out) (Kd.R_base ho1) hb); have n2_ := Aside0.mk (Kd.R_elder' (by (with_reducible repeat (first | apply Kd.R_alloc | apply Kd.R_drewN | apply Kd.R_drew)); exact HO230.out) (Kd.R_base ho1) hb); have n3_ := Aside0.mk (Kd.R_lower (Kd.R_new' ho0 (Kd.R_lt (by (with_reducible repeat (first | apply Kd.R_alloc | apply Kd.R_drewN | apply Kd.R_drew)); exact HO219.out))) (below_size (by repeat (first | (with_reducible first | exact HB.out | apply below_alloc | apply pw_below_drewN | apply below_drew1 | refine below_set ?_ GE214.out | refine below_set ?_ GE227.out | refine below_set ?_ GE231.out) | exact HB.out)))); have n4_ := Aside0.mk (Kd.R_lower (Kd.R_new' (Kd.R_new' ho1 (Kd.R_lt (by (with_reducible repeat (first | apply Kd.R_alloc | apply Kd.R_drewN | apply Kd.R_drew)); exact HO222.out))) (Kd.R_lt (by (with_reducible repeat (first | apply Kd.R_alloc | apply Kd.R_drewN | apply Kd.R_drew)); exact HO230.out))) (below_size (by repeat (first | (with_reducible first | exact HB.out | apply below_alloc | apply pw_below_drewN | apply below_drew1 | refine below_set ?_ GE214.out | refine below_set ?_ GE227.out | refine below_set ?_ GE231.out) | exact HB.out)))); have n5_ := Aside0.mk (blk_below (g := gb214) (o := .cells #[.slice A0_0 l0_0.length c0_0, .slice A0_1 l0_1.length c0_1] 25 (0, 0)) (by (with_reducible repeat first | apply blk_drewN | apply blk_drew | apply blk_alloc); exact BK214.out) hb); have n6_ := Aside0.mk (blk_below (g := gb227) (o := .cells #[.int .i64 t215, .int .i64 t216, .slice Ao15 t217.length co15, .slice Ao16 t220.length co16, .bool t223, .bool t224, .bool t225] 28 (0, 0)) (by (with_reducible repeat first | apply blk_drewN | apply blk_drew | apply blk_alloc); exact BK227.out) hb); have n7_ := Aside0.mk (blk_below (g := gb231) (o := .cells #[.slice A0_0 l0_0.length c0_0, .slice Ao23 t228.length co23] 25 (0, 0)) (by (with_reducible repeat first | apply blk_drewN | apply blk_drew | apply blk_alloc); exact BK231.out) hb); have n8_ := Aside0.mk (below_step (by repeat (first | (with_reducible first | exact HB.out | apply below_alloc | apply pw_below_drewN | apply below_drew1 | refine below_set ?_ GE214.out | refine below_set ?_ GE227.out | refine below_set ?_ GE231.out) | exact HB.out)) hb); clear HO219; clear HO222; clear HO230; clear BK214; clear BK227; clear BK231; clear HB; have HO219 := n0_; have HO222 := n1_; have HO230 := n2_; have HO237 := n3_; have HO240 := n4_; have BK214 := n5_; have BK227 := n6_; have BK231 := n7_; have HB := n8_; clear n0_ n1_ n2_ n3_ n4_ n5_ n6_ n7_ n8_; (try clear hb); (try clear hb2); (try clear hk); (try clear hi); (try clear ho0); (try clear ho1); (try clear A7)) | ((with_reducible refine gate_dst (N := 10) rfl ?_); refine box_event ?hg (N := 10) ?hd (cs := #[.int .i64 0, .int .i64 0, .slice none 0 0, .slice none 0 0, .bool false, .bool false, .bool false]) (t := 28) ?hr ?_; (case hd => rfl); (case hg => rfl); (case hr => first | (go_simp; done) | (go_simp; rfl)); intro gb245 hg w33 hbox hb; have n0_ := Aside0.mk (Kd.R_below (by (with_reducible repeat (first | apply Kd.R_alloc | apply Kd.R_drewN | apply Kd.R_drew)); exact HO219.out) hb); have n1_ := Aside0.mk (Kd.R_below (by (with_reducible repeat (first | apply Kd.R_alloc | apply Kd.R_drewN | apply Kd.R_drew)); exact HO222.out) hb); have n2_ := Aside0.mk (Kd.R_below (by (with_reducible repeat (first | apply Kd.R_alloc | apply Kd.R_drewN | apply Kd.R_drew)); exact HO230.out) hb); have n3_ := Aside0.mk (Kd.R_below (by (with_reducible repeat (first | apply Kd.R_alloc | apply Kd.R_drewN | apply Kd.R_drew)); exact HO237.out) hb); have n4_ := Aside0.mk (Kd.R_below (by (with_reducible repeat (first | apply Kd.R_alloc | apply Kd.R_drewN | apply Kd.R_drew)); exact HO240.out) hb); have n5_ := Aside0.mk (blk_below (g := gb214) (o := .cells #[.slice A0_0 l0_0.length c0_0, .slice A0_1 l0_1.length c0_1] 25 (0, 0)) (by (with_reducible repeat first | apply blk_drewN | apply blk_drew | apply blk_alloc); exact BK214.out) hb); have n6_ := Aside0.mk (blk_below (g := gb227) (o := .cells #[.int .i64 t215, .int .i64 t216, .slice Ao15 t217.length co15, .slice Ao16 t220.length co16, .bool t223, .bool t224, .bool t225] 28 (0, 0)) (by (with_reducible repeat first | apply blk_drewN | apply blk_drew | apply blk_alloc); exact BK227.out) hb); have n7_ := Aside0.mk (blk_below (g := gb231) (o := .cells #[.slice A0_0 l0_0.length c0_0, .slice Ao23 t228.length co23] 25 (0, 0)) (by (with_reducible repeat first | apply blk_drewN | apply blk_drew | apply blk_alloc); exact BK231.out) hb); have n8_ := Aside0.mk (below_step (by repeat (first | (with_reducible first | exact HB.out | apply below_alloc | apply pw_below_drewN | apply below_drew1 | refine below_set ?_ GE214.out | refine below_set ?_ GE227.out | refine below_set ?_ GE231.out) | exact HB.out)) hb); have n9_ := Aside0.mk (hbox); have n10_ := Aside0.mk ((by rw [hg]; exact (below_size (by repeat (first | (with_reducible first | exact HB.out | apply below_alloc | apply pw_below_drewN | apply below_drew1 | refine below_set ?_ GE214.out | refine below_set ?_ GE227.out | refine below_set ?_ GE231.out) | exact HB.out))) : w.heap.size ≤ gb245)); have n11_ := Aside0.mk ((by rw [hg]; exact (below_size (by repeat (first | (with_reducible first | exact HB.out | apply below_alloc | apply pw_below_drewN | apply below_drew1 | refine below_set ?_ GE214.out | refine below_set ?_ GE227.out | refine below_set ?_ GE231.out) | exact HB.out))) : w.heap.size ≤ gb245)); have n12_ := Aside0.mk ((by rw [hg]; exact Nat.ne_of_lt (blk_lt (g := gb214) (o := .cells #[.slice A0_0 l0_0.length c0_0, .slice A0_1 l0_1.length c0_1] 25 (0, 0)) (by (with_reducible repeat first | apply blk_drewN | apply blk_drew | apply blk_alloc); exact BK214.out)) : gb214 ≠ gb245)); have n13_ := Aside0.mk ((by rw [hg]; exact Nat.ne_of_gt (blk_lt (g := gb214) (o := .cells #[.slice A0_0 l0_0.length c0_0, .slice A0_1 l0_1.length c0_1] 25 (0, 0)) (by (with_reducible repeat first | apply blk_drewN | apply blk_drew | apply blk_alloc); exact BK214.out)) : gb245 ≠ gb214)); have n14_ := Aside0.mk ((by rw [hg]; exact Nat.ne_of_lt (blk_lt (g := gb227) (o := .cells #[.int .i64 t215, .int .i64 t216, .slice Ao15 t217.length co15, .slice Ao16 t220.length co16, .bool t223, .bool t224, .bool t225] 28 (0, 0)) (by (with_reducible repeat first | apply blk_drewN | apply blk_drew | apply blk_alloc); exact BK227.out)) : gb227 ≠ gb245)); have n15_ := Aside0.mk ((by rw [hg]; exact Nat.ne_of_gt (blk_lt (g := gb227) (o := .cells #[.int .i64 t215, .int .i64 t216, .slice Ao15 t217.length co15, .slice Ao16 t220.length co16, .bool t223, .bool t224, .bool t225] 28 (0, 0)) (by (with_reducible repeat first | apply blk_drewN | apply blk_drew | apply blk_alloc); exact BK227.out)) : gb245 ≠ gb227)); have n16_ := Aside0.mk ((by rw [hg]; exact Nat.ne_of_lt (blk_lt (g := gb231) (o := .cells #[.slice A0_0 l0_0.length c0_0, .slice Ao23 t228.length co23] 25 (0, 0)) (by (with_reducible repeat first | apply blk_drewN | apply blk_drew | apply blk_alloc); exact BK231.out)) : gb231 ≠ gb245)); have n17_ := Aside0.mk ((by rw [hg]; exact Nat.ne_of_gt (blk_lt (g := gb231) (o := .cells #[.slice A0_0 l0_0.length c0_0, .slice Ao23 t228.length co23] 25 (0, 0)) (by (with_reducible repeat first | apply blk_drewN | apply blk_drew | apply blk_alloc); exact BK231.out)) : gb245 ≠ gb231)); clear HO219; clear HO222; clear HO230; clear HO237; clear HO240; clear BK214; clear BK227; clear BK231; clear HB; have HO219 := n0_; have HO222 := n1_; have HO230 := n2_; have HO237 := n3_; have HO240 := n4_; have BK214 := n5_; have BK227 := n6_; have BK231 := n7_; have HB := n8_; have BK245 := n9_; have GW245 := n10_; have GE245 := n11_; have NB214_245 := n12_; have NB245_214 := n13_; have NB227_245 := n14_; have NB245_227 := n15_; have NB231_245 := n16_; have NB245_231 := n17_; clear n0_ n1_ n2_ n3_ n4_ n5_ n6_ n7_ n8_ n9_ n10_ n11_ n12_ n13_ n14_ n15_ n16_ n17_; clear hb hbox hg; have hnb34 := NB245_214.out; have hnc34 := NB214_245.out; have hnb35 := NB245_227.out; have hnc35 := NB227_245.out; have hnb36 := NB245_231.out; have hnc36 := NB231_245.out; have hcz37_0 : w33.cell? ⟨gb245, 0, none⟩ = some (.int .i64 0) := (blk_cell BK245.out 0).trans rfl; have hcz37_1 : w33.cell? ⟨gb245, 1, none⟩ = some (.int .i64 0) := (blk_cell BK245.out 1).trans rfl; have hcz37_2 : w33.cell? ⟨gb245, 2, none⟩ = some (.slice none 0 0) := (blk_cell BK245.out 2).trans rfl; have hcz37_3 : w33.cell? ⟨gb245, 3, none⟩ = some (.slice none 0 0) := (blk_cell BK245.out 3).trans rfl; have hcz37_4 : w33.cell? ⟨gb245, 4, none⟩ = some (.bool false) := (blk_cell BK245.out 4).trans rfl; have hcz37_5 : w33.cell? ⟨gb245, 5, none⟩ = some (.bool false) := (blk_cell BK245.out 5).trans rfl; have hcz37_6 : w33.cell? ⟨gb245, 6, none⟩ = some (.bool false) := (blk_cell BK245.out 6).trans rfl; have hfz37_0 := blk_frozen BK245.out 0; have hfz37_1 := blk_frozen BK245.out 1; have hfz37_2 := blk_frozen BK245.out 2; have hfz37_3 := blk_frozen BK245.out 3; have hfz37_4 := blk_frozen BK245.out 4; have hfz37_5 := blk_frozen BK245.out 5; have hfz37_6 := blk_frozen BK245.out 6; obtain ⟨Ao38, co38, eo38⟩ := Kd.R_slice HO237.out; subst eo38; obtain ⟨Ao39, co39, eo39⟩ := Kd.R_slice HO240.out; subst eo39))
 (try simp only [Act.put, List.setIfInBounds_toArray, List.set_cons_zero, List.set_cons_succ])
 go_cut [43] (fun v43 wc => ∃ (kq : Nat) (x43_7 : Bool), v43 = .bool x43_7 ∧ Aside0 (atticlaw19_MarkRooms.j0 kq a1 a2 t226 x43_7 l0_0 l0_1 t215 t216 t217 t220 t223 t224 t225 l0_0 t232 t233 t234 t235 t238 t241 t242 t243 = some r) ∧ Aside0 (kq ≤ k) ∧ Aside0 (Kd.R Kd.bool 4 wc w.heap.size (fun k_ => some k_ ≠ ((.slice Ao38 t235.length co38) : Value).ownBlock) (.slice Ao15 t217.length co15) t217) ∧ Aside0 (Kd.R (Kd.int .i64) 3 wc w.heap.size (fun k_ => some k_ ≠ ((.slice Ao23 t228.length co23) : Value).ownBlock ∧ some k_ ≠ ((.slice Ao39 t238.length co39) : Value).ownBlock) (.slice Ao16 t220.length co16) t220) ∧ Aside0 (Kd.R (Kd.int .i64) 3 wc w.heap.size (fun k_ => some k_ ≠ ((.slice Ao16 t220.length co16) : Value).ownBlock ∧ some k_ ≠ ((.slice Ao39 t238.length co39) : Value).ownBlock) (.slice Ao23 t228.length co23) t232) ∧ Aside0 (Kd.R Kd.bool 4 wc w.heap.size (fun k_ => some k_ ≠ ((.slice Ao15 t217.length co15) : Value).ownBlock) (.slice Ao38 t235.length co38) t235) ∧ Aside0 (Kd.R (Kd.int .i64) 3 wc w.heap.size (fun k_ => some k_ ≠ ((.slice Ao16 t220.length co16) : Value).ownBlock ∧ some k_ ≠ ((.slice Ao23 t228.length co23) : Value).ownBlock) (.slice Ao39 t238.length co39) t238) ∧ Aside0 (wc.heap[gb214]? = some (.cells #[(.slice A0_0 l0_0.length c0_0), (.slice A0_1 l0_1.length c0_1)] 25 (0, 0))) ∧ Aside0 (wc.heap[gb227]? = some (.cells #[.int .i64 t215, .int .i64 t216, (.slice Ao15 t217.length co15), (.slice Ao16 t220.length co16), .bool t223, .bool t224, .bool t225] 28 (0, 0))) ∧ Aside0 (wc.heap[gb231]? = some (.cells #[(.slice A0_0 l0_0.length c0_0), (.slice Ao23 t228.length co23)] 25 (0, 0))) ∧ Aside0 (wc.heap[gb245]? = some (.cells #[.int .i64 t233, .int .i64 t234, (.slice Ao38 t235.length co38), (.slice Ao39 t238.length co39), .bool t241, .bool t242, .bool t243] 28 (0, 0))) ∧ Aside0 (Below w.heap.size w wc))
 case first =>
  have H := HC8.out
  clear HC8
  replace H := Option.bind_eq_some_iff.mp H
  obtain ⟨t246, A400, H⟩ := H
  replace H : (if t246 = true then (atticlaw19_MarkRooms.j0 k a1 a2 t226 (t226 != t244) l0_0 l0_1 t215 t216 t217 t220 t223 t224 t225 l0_0 t232 t233 t234 t235 t238 t241 t242 t243) else (atticlaw19_MarkRooms.j0 k a1 a2 t226 true l0_0 l0_1 t215 t216 t217 t220 t223 t224 t225 l0_0 t232 t233 t234 t235 t238 t241 t242 t243)) = some r := H
  have A40 := Aside0.mk A400
  clear A400
  by_cases c41 : t246 = true
  ·subst c41
   have H1 : (atticlaw19_MarkRooms.j0 k a1 a2 t226 (t226 != t244) l0_0 l0_1 t215 t216 t217 t220 t223 t224 t225 l0_0 t232 t233 t234 t235 t238 t241 t242 t243) = some r := by rw [if_pos rfl] at H; exact H
   clear H
   have H := H1
   clear H1
   have H' := Aside0.mk H
   clear H
   go_wp2_with (first | ((with_reducible refine gate_callee (f := 10) rfl ?_); refine goesL_ (some 37) rfl rfl Try.func10 (by kernel_rfl) rfl #[] rfl (by (try simp only [List.map_toArray, List.map_cons, List.map_nil]); first | done | rfl | (simp only [List.length_drop, List.length_take]; rfl)) ?_; (with_reducible refine (atticlaw19_live.calls k  true _ A40.out).mono ?_); rintro e w42 ⟨rfl, hb⟩; refine ⟨_, rfl, ?_⟩; have n0_ := Aside0.mk (Kd.R_below (by (with_reducible repeat (first | apply Kd.R_alloc | apply Kd.R_drewN | apply Kd.R_drew)); exact (Kd.R_mono (Kd.R_far (p := ⟨gb245, 6, none⟩) (Kd.R_far (p := ⟨gb245, 5, none⟩) (Kd.R_far (p := ⟨gb245, 4, none⟩) (Kd.R_far (p := ⟨gb245, 3, none⟩) (Kd.R_far (p := ⟨gb245, 2, none⟩) (Kd.R_far (p := ⟨gb245, 1, none⟩) (Kd.R_far (p := ⟨gb245, 0, none⟩) (Kd.R_types HO219.out BK245.out (by decide)) (fun _ hk => hk.2) (.int .i64 t233)) (fun _ hk => hk.2) (.int .i64 t234)) (fun _ hk => hk.2) (.slice Ao38 t235.length co38)) (fun _ hk => hk.2) (.slice Ao39 t238.length co39)) (fun _ hk => hk.2) (.bool t241)) (fun _ hk => hk.2) (.bool t242)) (fun _ hk => hk.2) (.bool t243)) (fun _ h_ => h_.1))) hb); have n1_ := Aside0.mk (Kd.R_below (by (with_reducible repeat (first | apply Kd.R_alloc | apply Kd.R_drewN | apply Kd.R_drew)); exact (Kd.R_mono (Kd.R_far (p := ⟨gb245, 6, none⟩) (Kd.R_far (p := ⟨gb245, 5, none⟩) (Kd.R_far (p := ⟨gb245, 4, none⟩) (Kd.R_far (p := ⟨gb245, 3, none⟩) (Kd.R_far (p := ⟨gb245, 2, none⟩) (Kd.R_far (p := ⟨gb245, 1, none⟩) (Kd.R_far (p := ⟨gb245, 0, none⟩) (Kd.R_types HO222.out BK245.out (by decide)) (fun _ hk => hk.2) (.int .i64 t233)) (fun _ hk => hk.2) (.int .i64 t234)) (fun _ hk => hk.2) (.slice Ao38 t235.length co38)) (fun _ hk => hk.2) (.slice Ao39 t238.length co39)) (fun _ hk => hk.2) (.bool t241)) (fun _ hk => hk.2) (.bool t242)) (fun _ hk => hk.2) (.bool t243)) (fun _ h_ => h_.1))) hb); have n2_ := Aside0.mk (Kd.R_below (by (with_reducible repeat (first | apply Kd.R_alloc | apply Kd.R_drewN | apply Kd.R_drew)); exact (Kd.R_mono (Kd.R_far (p := ⟨gb245, 6, none⟩) (Kd.R_far (p := ⟨gb245, 5, none⟩) (Kd.R_far (p := ⟨gb245, 4, none⟩) (Kd.R_far (p := ⟨gb245, 3, none⟩) (Kd.R_far (p := ⟨gb245, 2, none⟩) (Kd.R_far (p := ⟨gb245, 1, none⟩) (Kd.R_far (p := ⟨gb245, 0, none⟩) (Kd.R_types HO230.out BK245.out (by decide)) (fun _ hk => hk.2) (.int .i64 t233)) (fun _ hk => hk.2) (.int .i64 t234)) (fun _ hk => hk.2) (.slice Ao38 t235.length co38)) (fun _ hk => hk.2) (.slice Ao39 t238.length co39)) (fun _ hk => hk.2) (.bool t241)) (fun _ hk => hk.2) (.bool t242)) (fun _ hk => hk.2) (.bool t243)) (fun _ h_ => h_.1))) hb); have n3_ := Aside0.mk (Kd.R_below (by (with_reducible repeat (first | apply Kd.R_alloc | apply Kd.R_drewN | apply Kd.R_drew)); exact (Kd.R_mono (Kd.R_far (p := ⟨gb245, 6, none⟩) (Kd.R_far (p := ⟨gb245, 5, none⟩) (Kd.R_far (p := ⟨gb245, 4, none⟩) (Kd.R_far (p := ⟨gb245, 3, none⟩) (Kd.R_far (p := ⟨gb245, 2, none⟩) (Kd.R_far (p := ⟨gb245, 1, none⟩) (Kd.R_far (p := ⟨gb245, 0, none⟩) (Kd.R_types HO237.out BK245.out (by decide)) (fun _ hk => hk.2) (.int .i64 t233)) (fun _ hk => hk.2) (.int .i64 t234)) (fun _ hk => hk.2) (.slice Ao38 t235.length co38)) (fun _ hk => hk.2) (.slice Ao39 t238.length co39)) (fun _ hk => hk.2) (.bool t241)) (fun _ hk => hk.2) (.bool t242)) (fun _ hk => hk.2) (.bool t243)) (fun _ h_ => h_.1))) hb); have n4_ := Aside0.mk (Kd.R_below (by (with_reducible repeat (first | apply Kd.R_alloc | apply Kd.R_drewN | apply Kd.R_drew)); exact (Kd.R_mono (Kd.R_far (p := ⟨gb245, 6, none⟩) (Kd.R_far (p := ⟨gb245, 5, none⟩) (Kd.R_far (p := ⟨gb245, 4, none⟩) (Kd.R_far (p := ⟨gb245, 3, none⟩) (Kd.R_far (p := ⟨gb245, 2, none⟩) (Kd.R_far (p := ⟨gb245, 1, none⟩) (Kd.R_far (p := ⟨gb245, 0, none⟩) (Kd.R_types HO240.out BK245.out (by decide)) (fun _ hk => hk.2) (.int .i64 t233)) (fun _ hk => hk.2) (.int .i64 t234)) (fun _ hk => hk.2) (.slice Ao38 t235.length co38)) (fun _ hk => hk.2) (.slice Ao39 t238.length co39)) (fun _ hk => hk.2) (.bool t241)) (fun _ hk => hk.2) (.bool t242)) (fun _ hk => hk.2) (.bool t243)) (fun _ h_ => h_.1))) hb); have n5_ := Aside0.mk (blk_below (g := gb214) (o := .cells #[.slice A0_0 l0_0.length c0_0, .slice A0_1 l0_1.length c0_1] 25 (0, 0)) (by (with_reducible repeat first | apply blk_drewN | apply blk_drew | apply blk_alloc); refine blk_far ?_ NB214_245.out _; (with_reducible repeat first | apply blk_drewN | apply blk_drew | apply blk_alloc); refine blk_far ?_ NB214_245.out _; (with_reducible repeat first | apply blk_drewN | apply blk_drew | apply blk_alloc); refine blk_far ?_ NB214_245.out _; (with_reducible repeat first | apply blk_drewN | apply blk_drew | apply blk_alloc); refine blk_far ?_ NB214_245.out _; (with_reducible repeat first | apply blk_drewN | apply blk_drew | apply blk_alloc); refine blk_far ?_ NB214_245.out _; (with_reducible repeat first | apply blk_drewN | apply blk_drew | apply blk_alloc); refine blk_far ?_ NB214_245.out _; (with_reducible repeat first | apply blk_drewN | apply blk_drew | apply blk_alloc); refine blk_far ?_ NB214_245.out _; (with_reducible repeat first | apply blk_drewN | apply blk_drew | apply blk_alloc); exact BK214.out) hb); have n6_ := Aside0.mk (blk_below (g := gb227) (o := .cells #[.int .i64 t215, .int .i64 t216, .slice Ao15 t217.length co15, .slice Ao16 t220.length co16, .bool t223, .bool t224, .bool t225] 28 (0, 0)) (by (with_reducible repeat first | apply blk_drewN | apply blk_drew | apply blk_alloc); refine blk_far ?_ NB227_245.out _; (with_reducible repeat first | apply blk_drewN | apply blk_drew | apply blk_alloc); refine blk_far ?_ NB227_245.out _; (with_reducible repeat first | apply blk_drewN | apply blk_drew | apply blk_alloc); refine blk_far ?_ NB227_245.out _; (with_reducible repeat first | apply blk_drewN | apply blk_drew | apply blk_alloc); refine blk_far ?_ NB227_245.out _; (with_reducible repeat first | apply blk_drewN | apply blk_drew | apply blk_alloc); refine blk_far ?_ NB227_245.out _; (with_reducible repeat first | apply blk_drewN | apply blk_drew | apply blk_alloc); refine blk_far ?_ NB227_245.out _; (with_reducible repeat first | apply blk_drewN | apply blk_drew | apply blk_alloc); refine blk_far ?_ NB227_245.out _; (with_reducible repeat first | apply blk_drewN | apply blk_drew | apply blk_alloc); exact BK227.out) hb); have n7_ := Aside0.mk (blk_below (g := gb231) (o := .cells #[.slice A0_0 l0_0.length c0_0, .slice Ao23 t228.length co23] 25 (0, 0)) (by (with_reducible repeat first | apply blk_drewN | apply blk_drew | apply blk_alloc); refine blk_far ?_ NB231_245.out _; (with_reducible repeat first | apply blk_drewN | apply blk_drew | apply blk_alloc); refine blk_far ?_ NB231_245.out _; (with_reducible repeat first | apply blk_drewN | apply blk_drew | apply blk_alloc); refine blk_far ?_ NB231_245.out _; (with_reducible repeat first | apply blk_drewN | apply blk_drew | apply blk_alloc); refine blk_far ?_ NB231_245.out _; (with_reducible repeat first | apply blk_drewN | apply blk_drew | apply blk_alloc); refine blk_far ?_ NB231_245.out _; (with_reducible repeat first | apply blk_drewN | apply blk_drew | apply blk_alloc); refine blk_far ?_ NB231_245.out _; (with_reducible repeat first | apply blk_drewN | apply blk_drew | apply blk_alloc); refine blk_far ?_ NB231_245.out _; (with_reducible repeat first | apply blk_drewN | apply blk_drew | apply blk_alloc); exact BK231.out) hb); have n8_ := Aside0.mk (blk_below (g := gb245) (o := .cells #[.int .i64 t233, .int .i64 t234, .slice Ao38 t235.length co38, .slice Ao39 t238.length co39, .bool t241, .bool t242, .bool t243] 28 (0, 0)) (by (with_reducible repeat first | apply blk_drewN | apply blk_drew | apply blk_alloc); refine blk_put (cs := #[.int .i64 t233, .int .i64 t234, .slice Ao38 t235.length co38, .slice Ao39 t238.length co39, .bool t241, .bool t242, .bool false]) ?_ 6 _ rfl; (with_reducible repeat first | apply blk_drewN | apply blk_drew | apply blk_alloc); refine blk_put (cs := #[.int .i64 t233, .int .i64 t234, .slice Ao38 t235.length co38, .slice Ao39 t238.length co39, .bool t241, .bool false, .bool false]) ?_ 5 _ rfl; (with_reducible repeat first | apply blk_drewN | apply blk_drew | apply blk_alloc); refine blk_put (cs := #[.int .i64 t233, .int .i64 t234, .slice Ao38 t235.length co38, .slice Ao39 t238.length co39, .bool false, .bool false, .bool false]) ?_ 4 _ rfl; (with_reducible repeat first | apply blk_drewN | apply blk_drew | apply blk_alloc); refine blk_put (cs := #[.int .i64 t233, .int .i64 t234, .slice Ao38 t235.length co38, .slice none 0 0, .bool false, .bool false, .bool false]) ?_ 3 _ rfl; (with_reducible repeat first | apply blk_drewN | apply blk_drew | apply blk_alloc); refine blk_put (cs := #[.int .i64 t233, .int .i64 t234, .slice none 0 0, .slice none 0 0, .bool false, .bool false, .bool false]) ?_ 2 _ rfl; (with_reducible repeat first | apply blk_drewN | apply blk_drew | apply blk_alloc); refine blk_put (cs := #[.int .i64 t233, .int .i64 0, .slice none 0 0, .slice none 0 0, .bool false, .bool false, .bool false]) ?_ 1 _ rfl; (with_reducible repeat first | apply blk_drewN | apply blk_drew | apply blk_alloc); refine blk_put (cs := #[.int .i64 0, .int .i64 0, .slice none 0 0, .slice none 0 0, .bool false, .bool false, .bool false]) ?_ 0 _ rfl; (with_reducible repeat first | apply blk_drewN | apply blk_drew | apply blk_alloc); exact BK245.out) hb); have n9_ := Aside0.mk (below_step (by repeat (first | (with_reducible first | exact HB.out | apply below_alloc | apply pw_below_drewN | apply below_drew1 | refine below_set ?_ GE214.out | refine below_set ?_ GE227.out | refine below_set ?_ GE231.out | refine below_set ?_ GE245.out) | exact HB.out)) hb); clear HO219; clear HO222; clear HO230; clear HO237; clear HO240; clear BK214; clear BK227; clear BK231; clear BK245; clear HB; have HO219 := n0_; have HO222 := n1_; have HO230 := n2_; have HO237 := n3_; have HO240 := n4_; have BK214 := n5_; have BK227 := n6_; have BK231 := n7_; have BK245 := n8_; have HB := n9_; clear n0_ n1_ n2_ n3_ n4_ n5_ n6_ n7_ n8_ n9_; (try clear hb); (try clear hb2); (try clear hk); (try clear hi); (try clear A40)))
   go_meet
   case rel => exact ⟨_, ((t226 != t244)), (by first | rfl | (simp; done) | (simp [*]; done) | (simp [Int.tdiv_eq_ediv_of_nonneg]; done)), H', ⟨by first | omega | exact Nat.le_refl _⟩, ⟨by (with_reducible repeat (first | apply Kd.R_alloc | apply Kd.R_drewN | apply Kd.R_drew)); exact Kd.R_mono HO219.out (fun _ hk => hk.2)⟩, ⟨by (with_reducible repeat (first | apply Kd.R_alloc | apply Kd.R_drewN | apply Kd.R_drew)); exact HO222.out⟩, ⟨by (with_reducible repeat (first | apply Kd.R_alloc | apply Kd.R_drewN | apply Kd.R_drew)); exact HO230.out⟩, ⟨by (with_reducible repeat (first | apply Kd.R_alloc | apply Kd.R_drewN | apply Kd.R_drew)); exact Kd.R_mono HO237.out (fun _ hk => hk.2)⟩, ⟨by (with_reducible repeat (first | apply Kd.R_alloc | apply Kd.R_drewN | apply Kd.R_drew)); exact Kd.R_mono HO240.out (fun _ hk => ⟨hk.1.2, hk.2⟩)⟩, ⟨by (with_reducible repeat first | apply blk_drewN | apply blk_drew | apply blk_alloc); exact BK214.out⟩, ⟨by (with_reducible repeat first | apply blk_drewN | apply blk_drew | apply blk_alloc); exact BK227.out⟩, ⟨by (with_reducible repeat first | apply blk_drewN | apply blk_drew | apply blk_alloc); exact BK231.out⟩, ⟨by (with_reducible repeat first | apply blk_drewN | apply blk_drew | apply blk_alloc); exact BK245.out⟩, ⟨by repeat (first | (with_reducible first | exact HB.out | apply below_alloc | apply pw_below_drewN | apply below_drew1 | refine below_set ?_ GE214.out | refine below_set ?_ GE227.out | refine below_set ?_ GE231.out | refine below_set ?_ GE245.out) | exact HB.out)⟩⟩
  ·replace c41 := Bool.eq_false_iff.mpr c41
   subst c41
   have H1 : (atticlaw19_MarkRooms.j0 k a1 a2 t226 true l0_0 l0_1 t215 t216 t217 t220 t223 t224 t225 l0_0 t232 t233 t234 t235 t238 t241 t242 t243) = some r := by rw [if_neg (show ¬ (false = true) by decide)] at H; exact H
   clear H
   have H := H1
   clear H1
   have H' := Aside0.mk H
   clear H
   go_wp2_with (first | ((with_reducible refine gate_callee (f := 10) rfl ?_); refine goesL_ (some 37) rfl rfl Try.func10 (by kernel_rfl) rfl #[] rfl (by (try simp only [List.map_toArray, List.map_cons, List.map_nil]); first | done | rfl | (simp only [List.length_drop, List.length_take]; rfl)) ?_; (with_reducible refine (atticlaw19_live.calls k  false _ A40.out).mono ?_); rintro e w43 ⟨rfl, hb⟩; refine ⟨_, rfl, ?_⟩; have n0_ := Aside0.mk (Kd.R_below (by (with_reducible repeat (first | apply Kd.R_alloc | apply Kd.R_drewN | apply Kd.R_drew)); exact (Kd.R_mono (Kd.R_far (p := ⟨gb245, 6, none⟩) (Kd.R_far (p := ⟨gb245, 5, none⟩) (Kd.R_far (p := ⟨gb245, 4, none⟩) (Kd.R_far (p := ⟨gb245, 3, none⟩) (Kd.R_far (p := ⟨gb245, 2, none⟩) (Kd.R_far (p := ⟨gb245, 1, none⟩) (Kd.R_far (p := ⟨gb245, 0, none⟩) (Kd.R_types HO219.out BK245.out (by decide)) (fun _ hk => hk.2) (.int .i64 t233)) (fun _ hk => hk.2) (.int .i64 t234)) (fun _ hk => hk.2) (.slice Ao38 t235.length co38)) (fun _ hk => hk.2) (.slice Ao39 t238.length co39)) (fun _ hk => hk.2) (.bool t241)) (fun _ hk => hk.2) (.bool t242)) (fun _ hk => hk.2) (.bool t243)) (fun _ h_ => h_.1))) hb); have n1_ := Aside0.mk (Kd.R_below (by (with_reducible repeat (first | apply Kd.R_alloc | apply Kd.R_drewN | apply Kd.R_drew)); exact (Kd.R_mono (Kd.R_far (p := ⟨gb245, 6, none⟩) (Kd.R_far (p := ⟨gb245, 5, none⟩) (Kd.R_far (p := ⟨gb245, 4, none⟩) (Kd.R_far (p := ⟨gb245, 3, none⟩) (Kd.R_far (p := ⟨gb245, 2, none⟩) (Kd.R_far (p := ⟨gb245, 1, none⟩) (Kd.R_far (p := ⟨gb245, 0, none⟩) (Kd.R_types HO222.out BK245.out (by decide)) (fun _ hk => hk.2) (.int .i64 t233)) (fun _ hk => hk.2) (.int .i64 t234)) (fun _ hk => hk.2) (.slice Ao38 t235.length co38)) (fun _ hk => hk.2) (.slice Ao39 t238.length co39)) (fun _ hk => hk.2) (.bool t241)) (fun _ hk => hk.2) (.bool t242)) (fun _ hk => hk.2) (.bool t243)) (fun _ h_ => h_.1))) hb); have n2_ := Aside0.mk (Kd.R_below (by (with_reducible repeat (first | apply Kd.R_alloc | apply Kd.R_drewN | apply Kd.R_drew)); exact (Kd.R_mono (Kd.R_far (p := ⟨gb245, 6, none⟩) (Kd.R_far (p := ⟨gb245, 5, none⟩) (Kd.R_far (p := ⟨gb245, 4, none⟩) (Kd.R_far (p := ⟨gb245, 3, none⟩) (Kd.R_far (p := ⟨gb245, 2, none⟩) (Kd.R_far (p := ⟨gb245, 1, none⟩) (Kd.R_far (p := ⟨gb245, 0, none⟩) (Kd.R_types HO230.out BK245.out (by decide)) (fun _ hk => hk.2) (.int .i64 t233)) (fun _ hk => hk.2) (.int .i64 t234)) (fun _ hk => hk.2) (.slice Ao38 t235.length co38)) (fun _ hk => hk.2) (.slice Ao39 t238.length co39)) (fun _ hk => hk.2) (.bool t241)) (fun _ hk => hk.2) (.bool t242)) (fun _ hk => hk.2) (.bool t243)) (fun _ h_ => h_.1))) hb); have n3_ := Aside0.mk (Kd.R_below (by (with_reducible repeat (first | apply Kd.R_alloc | apply Kd.R_drewN | apply Kd.R_drew)); exact (Kd.R_mono (Kd.R_far (p := ⟨gb245, 6, none⟩) (Kd.R_far (p := ⟨gb245, 5, none⟩) (Kd.R_far (p := ⟨gb245, 4, none⟩) (Kd.R_far (p := ⟨gb245, 3, none⟩) (Kd.R_far (p := ⟨gb245, 2, none⟩) (Kd.R_far (p := ⟨gb245, 1, none⟩) (Kd.R_far (p := ⟨gb245, 0, none⟩) (Kd.R_types HO237.out BK245.out (by decide)) (fun _ hk => hk.2) (.int .i64 t233)) (fun _ hk => hk.2) (.int .i64 t234)) (fun _ hk => hk.2) (.slice Ao38 t235.length co38)) (fun _ hk => hk.2) (.slice Ao39 t238.length co39)) (fun _ hk => hk.2) (.bool t241)) (fun _ hk => hk.2) (.bool t242)) (fun _ hk => hk.2) (.bool t243)) (fun _ h_ => h_.1))) hb); have n4_ := Aside0.mk (Kd.R_below (by (with_reducible repeat (first | apply Kd.R_alloc | apply Kd.R_drewN | apply Kd.R_drew)); exact (Kd.R_mono (Kd.R_far (p := ⟨gb245, 6, none⟩) (Kd.R_far (p := ⟨gb245, 5, none⟩) (Kd.R_far (p := ⟨gb245, 4, none⟩) (Kd.R_far (p := ⟨gb245, 3, none⟩) (Kd.R_far (p := ⟨gb245, 2, none⟩) (Kd.R_far (p := ⟨gb245, 1, none⟩) (Kd.R_far (p := ⟨gb245, 0, none⟩) (Kd.R_types HO240.out BK245.out (by decide)) (fun _ hk => hk.2) (.int .i64 t233)) (fun _ hk => hk.2) (.int .i64 t234)) (fun _ hk => hk.2) (.slice Ao38 t235.length co38)) (fun _ hk => hk.2) (.slice Ao39 t238.length co39)) (fun _ hk => hk.2) (.bool t241)) (fun _ hk => hk.2) (.bool t242)) (fun _ hk => hk.2) (.bool t243)) (fun _ h_ => h_.1))) hb); have n5_ := Aside0.mk (blk_below (g := gb214) (o := .cells #[.slice A0_0 l0_0.length c0_0, .slice A0_1 l0_1.length c0_1] 25 (0, 0)) (by (with_reducible repeat first | apply blk_drewN | apply blk_drew | apply blk_alloc); refine blk_far ?_ NB214_245.out _; (with_reducible repeat first | apply blk_drewN | apply blk_drew | apply blk_alloc); refine blk_far ?_ NB214_245.out _; (with_reducible repeat first | apply blk_drewN | apply blk_drew | apply blk_alloc); refine blk_far ?_ NB214_245.out _; (with_reducible repeat first | apply blk_drewN | apply blk_drew | apply blk_alloc); refine blk_far ?_ NB214_245.out _; (with_reducible repeat first | apply blk_drewN | apply blk_drew | apply blk_alloc); refine blk_far ?_ NB214_245.out _; (with_reducible repeat first | apply blk_drewN | apply blk_drew | apply blk_alloc); refine blk_far ?_ NB214_245.out _; (with_reducible repeat first | apply blk_drewN | apply blk_drew | apply blk_alloc); refine blk_far ?_ NB214_245.out _; (with_reducible repeat first | apply blk_drewN | apply blk_drew | apply blk_alloc); exact BK214.out) hb); have n6_ := Aside0.mk (blk_below (g := gb227) (o := .cells #[.int .i64 t215, .int .i64 t216, .slice Ao15 t217.length co15, .slice Ao16 t220.length co16, .bool t223, .bool t224, .bool t225] 28 (0, 0)) (by (with_reducible repeat first | apply blk_drewN | apply blk_drew | apply blk_alloc); refine blk_far ?_ NB227_245.out _; (with_reducible repeat first | apply blk_drewN | apply blk_drew | apply blk_alloc); refine blk_far ?_ NB227_245.out _; (with_reducible repeat first | apply blk_drewN | apply blk_drew | apply blk_alloc); refine blk_far ?_ NB227_245.out _; (with_reducible repeat first | apply blk_drewN | apply blk_drew | apply blk_alloc); refine blk_far ?_ NB227_245.out _; (with_reducible repeat first | apply blk_drewN | apply blk_drew | apply blk_alloc); refine blk_far ?_ NB227_245.out _; (with_reducible repeat first | apply blk_drewN | apply blk_drew | apply blk_alloc); refine blk_far ?_ NB227_245.out _; (with_reducible repeat first | apply blk_drewN | apply blk_drew | apply blk_alloc); refine blk_far ?_ NB227_245.out _; (with_reducible repeat first | apply blk_drewN | apply blk_drew | apply blk_alloc); exact BK227.out) hb); have n7_ := Aside0.mk (blk_below (g := gb231) (o := .cells #[.slice A0_0 l0_0.length c0_0, .slice Ao23 t228.length co23] 25 (0, 0)) (by (with_reducible repeat first | apply blk_drewN | apply blk_drew | apply blk_alloc); refine blk_far ?_ NB231_245.out _; (with_reducible repeat first | apply blk_drewN | apply blk_drew | apply blk_alloc); refine blk_far ?_ NB231_245.out _; (with_reducible repeat first | apply blk_drewN | apply blk_drew | apply blk_alloc); refine blk_far ?_ NB231_245.out _; (with_reducible repeat first | apply blk_drewN | apply blk_drew | apply blk_alloc); refine blk_far ?_ NB231_245.out _; (with_reducible repeat first | apply blk_drewN | apply blk_drew | apply blk_alloc); refine blk_far ?_ NB231_245.out _; (with_reducible repeat first | apply blk_drewN | apply blk_drew | apply blk_alloc); refine blk_far ?_ NB231_245.out _; (with_reducible repeat first | apply blk_drewN | apply blk_drew | apply blk_alloc); refine blk_far ?_ NB231_245.out _; (with_reducible repeat first | apply blk_drewN | apply blk_drew | apply blk_alloc); exact BK231.out) hb); have n8_ := Aside0.mk (blk_below (g := gb245) (o := .cells #[.int .i64 t233, .int .i64 t234, .slice Ao38 t235.length co38, .slice Ao39 t238.length co39, .bool t241, .bool t242, .bool t243] 28 (0, 0)) (by (with_reducible repeat first | apply blk_drewN | apply blk_drew | apply blk_alloc); refine blk_put (cs := #[.int .i64 t233, .int .i64 t234, .slice Ao38 t235.length co38, .slice Ao39 t238.length co39, .bool t241, .bool t242, .bool false]) ?_ 6 _ rfl; (with_reducible repeat first | apply blk_drewN | apply blk_drew | apply blk_alloc); refine blk_put (cs := #[.int .i64 t233, .int .i64 t234, .slice Ao38 t235.length co38, .slice Ao39 t238.length co39, .bool t241, .bool false, .bool false]) ?_ 5 _ rfl; (with_reducible repeat first | apply blk_drewN | apply blk_drew | apply blk_alloc); refine blk_put (cs := #[.int .i64 t233, .int .i64 t234, .slice Ao38 t235.length co38, .slice Ao39 t238.length co39, .bool false, .bool false, .bool false]) ?_ 4 _ rfl; (with_reducible repeat first | apply blk_drewN | apply blk_drew | apply blk_alloc); refine blk_put (cs := #[.int .i64 t233, .int .i64 t234, .slice Ao38 t235.length co38, .slice none 0 0, .bool false, .bool false, .bool false]) ?_ 3 _ rfl; (with_reducible repeat first | apply blk_drewN | apply blk_drew | apply blk_alloc); refine blk_put (cs := #[.int .i64 t233, .int .i64 t234, .slice none 0 0, .slice none 0 0, .bool false, .bool false, .bool false]) ?_ 2 _ rfl; (with_reducible repeat first | apply blk_drewN | apply blk_drew | apply blk_alloc); refine blk_put (cs := #[.int .i64 t233, .int .i64 0, .slice none 0 0, .slice none 0 0, .bool false, .bool false, .bool false]) ?_ 1 _ rfl; (with_reducible repeat first | apply blk_drewN | apply blk_drew | apply blk_alloc); refine blk_put (cs := #[.int .i64 0, .int .i64 0, .slice none 0 0, .slice none 0 0, .bool false, .bool false, .bool false]) ?_ 0 _ rfl; (with_reducible repeat first | apply blk_drewN | apply blk_drew | apply blk_alloc); exact BK245.out) hb); have n9_ := Aside0.mk (below_step (by repeat (first | (with_reducible first | exact HB.out | apply below_alloc | apply pw_below_drewN | apply below_drew1 | refine below_set ?_ GE214.out | refine below_set ?_ GE227.out | refine below_set ?_ GE231.out | refine below_set ?_ GE245.out) | exact HB.out)) hb); clear HO219; clear HO222; clear HO230; clear HO237; clear HO240; clear BK214; clear BK227; clear BK231; clear BK245; clear HB; have HO219 := n0_; have HO222 := n1_; have HO230 := n2_; have HO237 := n3_; have HO240 := n4_; have BK214 := n5_; have BK227 := n6_; have BK231 := n7_; have BK245 := n8_; have HB := n9_; clear n0_ n1_ n2_ n3_ n4_ n5_ n6_ n7_ n8_ n9_; (try clear hb); (try clear hb2); (try clear hk); (try clear hi); (try clear A40)))
   go_meet
   case rel => exact ⟨_, (true), (by first | rfl | (simp; done) | (simp [*]; done) | (simp [Int.tdiv_eq_ediv_of_nonneg]; done)), H', ⟨by first | omega | exact Nat.le_refl _⟩, ⟨by (with_reducible repeat (first | apply Kd.R_alloc | apply Kd.R_drewN | apply Kd.R_drew)); exact Kd.R_mono HO219.out (fun _ hk => hk.2)⟩, ⟨by (with_reducible repeat (first | apply Kd.R_alloc | apply Kd.R_drewN | apply Kd.R_drew)); exact HO222.out⟩, ⟨by (with_reducible repeat (first | apply Kd.R_alloc | apply Kd.R_drewN | apply Kd.R_drew)); exact HO230.out⟩, ⟨by (with_reducible repeat (first | apply Kd.R_alloc | apply Kd.R_drewN | apply Kd.R_drew)); exact Kd.R_mono HO237.out (fun _ hk => hk.2)⟩, ⟨by (with_reducible repeat (first | apply Kd.R_alloc | apply Kd.R_drewN | apply Kd.R_drew)); exact Kd.R_mono HO240.out (fun _ hk => ⟨hk.1.2, hk.2⟩)⟩, ⟨by (with_reducible repeat first | apply blk_drewN | apply blk_drew | apply blk_alloc); exact BK214.out⟩, ⟨by (with_reducible repeat first | apply blk_drewN | apply blk_drew | apply blk_alloc); exact BK227.out⟩, ⟨by (with_reducible repeat first | apply blk_drewN | apply blk_drew | apply blk_alloc); exact BK231.out⟩, ⟨by (with_reducible repeat first | apply blk_drewN | apply blk_drew | apply blk_alloc); exact BK245.out⟩, ⟨by repeat (first | (with_reducible first | exact HB.out | apply below_alloc | apply pw_below_drewN | apply below_drew1 | refine below_set ?_ GE214.out | refine below_set ?_ GE227.out | refine below_set ?_ GE231.out | refine below_set ?_ GE245.out) | exact HB.out)⟩⟩
 case rest =>
  clear HC8
  try clear c1
  try clear c2
  try clear p2
  try clear c3
  try clear c4
  try clear p6
  try clear c7
  try clear c10
  try clear c13
  try clear c14
  try clear c27
  try clear c28
  try clear c29
  try clear c30
  try clear c34
  try clear c35
  try clear c36
  try clear c41
  try clear hcz10_0
  try clear hcz10_1
  try clear hcz14_0
  try clear hcz14_1
  try clear hcz14_2
  try clear hcz14_3
  try clear hcz14_4
  try clear hcz14_5
  try clear hcz14_6
  try clear hcz29_0
  try clear hcz29_1
  try clear hcz31_0
  try clear hcz31_1
  try clear hcz37_0
  try clear hcz37_1
  try clear hcz37_2
  try clear hcz37_3
  try clear hcz37_4
  try clear hcz37_5
  try clear hcz37_6
  try clear hfz10_0
  try clear hfz10_1
  try clear hfz14_0
  try clear hfz14_1
  try clear hfz14_2
  try clear hfz14_3
  try clear hfz14_4
  try clear hfz14_5
  try clear hfz14_6
  try clear hfz29_0
  try clear hfz29_1
  try clear hfz31_0
  try clear hfz31_1
  try clear hfz37_0
  try clear hfz37_1
  try clear hfz37_2
  try clear hfz37_3
  try clear hfz37_4
  try clear hfz37_5
  try clear hfz37_6
  obtain ⟨kq, x43_7, rfl, HA, HJ7, HO_228002, HO_228003, HO_232001, HO_246002, HO_246003, BK214, BK227, BK231, BK245, HB⟩ := hcut
  have hl232001_7 := (Kd.R_reads' HO_232001.out).1
  rw [hl232001_7] at HO_232001
  (try simp only [hl232001_7])
  (try simp only [hl232001_7] at BK214)
  (try simp only [hl232001_7] at BK227)
  (try simp only [hl232001_7] at BK231)
  (try simp only [hl232001_7] at BK245)
  (try simp only [hl232001_7] at HO_228002)
  (try simp only [hl232001_7] at HO_228003)
  (try simp only [hl232001_7] at HO_246002)
  (try simp only [hl232001_7] at HO_246003)
  cases kq with
  | zero => exact absurd HA.out (by simp [atticlaw19_MarkRooms.j0])
  | succ kj7 =>
   have H := HA.out
   clear HA
   simp only [atticlaw19_MarkRooms.j0] at H
   by_cases c44 : x43_7 = true
   ·subst c44
    have H1 : (some false) = some r := by rw [if_pos rfl] at H; exact H
    clear H
    have H := H1
    clear H1
    exact absurd (Option.some.inj H) (by rw [hrt_.out]; decide)
   ·replace c44 := Bool.eq_false_iff.mpr c44
    subst c44
    have H1 : (if t226 = 0 then ((atticlaw19_few.f l0_0 l0_1).bind fun t247 => (atticlaw19_MarkRooms.j1 kj7 a1 a2 (!t247) l0_0 l0_1 t215 t216 t217 t220 t223 t224 t225 l0_0 t232 t233 t234 t235 t238 t241 t242 t243)) else (atticlaw19_MarkRooms.j1 kj7 a1 a2 true l0_0 l0_1 t215 t216 t217 t220 t223 t224 t225 l0_0 t232 t233 t234 t235 t238 t241 t242 t243)) = some r := by rw [if_neg (show ¬ (false = true) by decide)] at H; exact H
    clear H
    have H := H1
    clear H1
    have HC45 := Aside0.mk H
    clear H
    go_upto_region 7 with (fail)
    go_cut [50] (fun v50 wc => ∃ (kq : Nat) (x50_44 : Bool), v50 = .bool x50_44 ∧ Aside0 (atticlaw19_MarkRooms.j1 kq a1 a2 x50_44 l0_0 l0_1 t215 t216 t217 t220 t223 t224 t225 l0_0 t232 t233 t234 t235 t238 t241 t242 t243 = some r) ∧ Aside0 (kq ≤ kj7) ∧ Aside0 (Kd.R Kd.bool 4 wc w.heap.size (fun k_ => some k_ ≠ ((.slice Ao38 t235.length co38) : Value).ownBlock) (.slice Ao15 t217.length co15) t217) ∧ Aside0 (Kd.R (Kd.int .i64) 3 wc w.heap.size (fun k_ => some k_ ≠ ((.slice Ao23 t232.length co23) : Value).ownBlock ∧ some k_ ≠ ((.slice Ao39 t238.length co39) : Value).ownBlock) (.slice Ao16 t220.length co16) t220) ∧ Aside0 (Kd.R (Kd.int .i64) 3 wc w.heap.size (fun k_ => some k_ ≠ ((.slice Ao16 t220.length co16) : Value).ownBlock ∧ some k_ ≠ ((.slice Ao39 t238.length co39) : Value).ownBlock) (.slice Ao23 t232.length co23) t232) ∧ Aside0 (Kd.R Kd.bool 4 wc w.heap.size (fun k_ => some k_ ≠ ((.slice Ao15 t217.length co15) : Value).ownBlock) (.slice Ao38 t235.length co38) t235) ∧ Aside0 (Kd.R (Kd.int .i64) 3 wc w.heap.size (fun k_ => some k_ ≠ ((.slice Ao16 t220.length co16) : Value).ownBlock ∧ some k_ ≠ ((.slice Ao23 t232.length co23) : Value).ownBlock) (.slice Ao39 t238.length co39) t238) ∧ Aside0 (wc.heap[gb214]? = some (.cells #[(.slice A0_0 l0_0.length c0_0), (.slice A0_1 l0_1.length c0_1)] 25 (0, 0))) ∧ Aside0 (wc.heap[gb227]? = some (.cells #[.int .i64 t215, .int .i64 t216, (.slice Ao15 t217.length co15), (.slice Ao16 t220.length co16), .bool t223, .bool t224, .bool t225] 28 (0, 0))) ∧ Aside0 (wc.heap[gb231]? = some (.cells #[(.slice A0_0 l0_0.length c0_0), (.slice Ao23 t232.length co23)] 25 (0, 0))) ∧ Aside0 (wc.heap[gb245]? = some (.cells #[.int .i64 t233, .int .i64 t234, (.slice Ao38 t235.length co38), (.slice Ao39 t238.length co39), .bool t241, .bool t242, .bool t243] 28 (0, 0))) ∧ Aside0 (Below w.heap.size w wc))
    case first =>
     have H := HC45.out
     clear HC45
     by_cases c46 : t226 = 0
     ·rw [if_pos c46] at H
      have c46b0 : (t226 == 0) = true := beq_iff_eq.mpr c46
      have c46b1 : (t226 != 0) = false := bne_eq_false_iff_eq.mpr c46
      clear c46
      (first | rw [c46b0] | (simp only [i64_w, i32_w]; rw [c46b0]) | skip)
      replace H := Option.bind_eq_some_iff.mp H
      obtain ⟨t247, A470, H⟩ := H
      replace H : (atticlaw19_MarkRooms.j1 kj7 a1 a2 (!t247) l0_0 l0_1 t215 t216 t217 t220 t223 t224 t225 l0_0 t232 t233 t234 t235 t238 t241 t242 t243) = some r := H
      have A47 := Aside0.mk A470
      clear A470
      have H' := Aside0.mk H
      clear H
      have hnb48 := NB214_227.out
      have hnc48 := NB227_214.out
      have hnb49 := NB214_231.out
      have hnc49 := NB231_214.out
      have hnb50 := NB214_245.out
      have hnc50 := NB245_214.out
      have hcz51_0 : wc.cell? ⟨gb214, 0, none⟩ = some (.slice A0_0 l0_0.length c0_0) := (blk_cell BK214.out 0).trans rfl
      have hcz51_1 : wc.cell? ⟨gb214, 1, none⟩ = some (.slice A0_1 l0_1.length c0_1) := (blk_cell BK214.out 1).trans rfl
      have hfz51_0 := blk_frozen BK214.out 0
      have hfz51_1 := blk_frozen BK214.out 1
      go_wp2_with (first | (go_at_call 11; (with_reducible refine (atticlaw19_few.calls _ _ l0_0 _ _ l0_1 t247 _ ?side1 ?side2 ?side3 ?side4 A47.out).mono ?_); (case side1 => repeat (first | exact (Kd.C_below HR0_0.out HB.out) | (with_reducible refine Kd.C_alloc ?_ _) | (with_reducible refine Kd.C_drewN ?_ _) | (with_reducible refine Kd.C_drew ?_))); (case side2 => exact HC0_0.out); (case side3 => repeat (first | exact (Kd.C_below HR0_1.out HB.out) | (with_reducible refine Kd.C_alloc ?_ _) | (with_reducible refine Kd.C_drewN ?_ _) | (with_reducible refine Kd.C_drew ?_))); (case side4 => exact HC0_1.out); rintro e w52 ⟨rfl, hb⟩; have n0_ := Aside0.mk (Kd.R_below (by (with_reducible repeat (first | apply Kd.R_alloc | apply Kd.R_drewN | apply Kd.R_drew)); exact HO_228002.out) hb); have n1_ := Aside0.mk (Kd.R_below (by (with_reducible repeat (first | apply Kd.R_alloc | apply Kd.R_drewN | apply Kd.R_drew)); exact HO_228003.out) hb); have n2_ := Aside0.mk (Kd.R_below (by (with_reducible repeat (first | apply Kd.R_alloc | apply Kd.R_drewN | apply Kd.R_drew)); exact HO_232001.out) hb); have n3_ := Aside0.mk (Kd.R_below (by (with_reducible repeat (first | apply Kd.R_alloc | apply Kd.R_drewN | apply Kd.R_drew)); exact HO_246002.out) hb); have n4_ := Aside0.mk (Kd.R_below (by (with_reducible repeat (first | apply Kd.R_alloc | apply Kd.R_drewN | apply Kd.R_drew)); exact HO_246003.out) hb); have n5_ := Aside0.mk (blk_below (g := gb214) (o := .cells #[.slice A0_0 l0_0.length c0_0, .slice A0_1 l0_1.length c0_1] 25 (0, 0)) (by (with_reducible repeat first | apply blk_drewN | apply blk_drew | apply blk_alloc); exact BK214.out) hb); have n6_ := Aside0.mk (blk_below (g := gb227) (o := .cells #[.int .i64 t215, .int .i64 t216, .slice Ao15 t217.length co15, .slice Ao16 t220.length co16, .bool t223, .bool t224, .bool t225] 28 (0, 0)) (by (with_reducible repeat first | apply blk_drewN | apply blk_drew | apply blk_alloc); exact BK227.out) hb); have n7_ := Aside0.mk (blk_below (g := gb231) (o := .cells #[.slice A0_0 l0_0.length c0_0, .slice Ao23 t232.length co23] 25 (0, 0)) (by (with_reducible repeat first | apply blk_drewN | apply blk_drew | apply blk_alloc); exact BK231.out) hb); have n8_ := Aside0.mk (blk_below (g := gb245) (o := .cells #[.int .i64 t233, .int .i64 t234, .slice Ao38 t235.length co38, .slice Ao39 t238.length co39, .bool t241, .bool t242, .bool t243] 28 (0, 0)) (by (with_reducible repeat first | apply blk_drewN | apply blk_drew | apply blk_alloc); exact BK245.out) hb); have n9_ := Aside0.mk (below_step (by repeat (first | (with_reducible first | exact HB.out | apply below_alloc | apply pw_below_drewN | apply below_drew1 | refine below_set ?_ GE214.out | refine below_set ?_ GE227.out | refine below_set ?_ GE231.out | refine below_set ?_ GE245.out) | exact HB.out)) hb); clear HO_228002; clear HO_228003; clear HO_232001; clear HO_246002; clear HO_246003; clear BK214; clear BK227; clear BK231; clear BK245; clear HB; have HO_228002 := n0_; have HO_228003 := n1_; have HO_232001 := n2_; have HO_246002 := n3_; have HO_246003 := n4_; have BK214 := n5_; have BK227 := n6_; have BK231 := n7_; have BK245 := n8_; have HB := n9_; clear n0_ n1_ n2_ n3_ n4_ n5_ n6_ n7_ n8_ n9_; (try clear hb); (try clear hb2); (try clear hk); (try clear hi); (try clear A47)))
      go_meet
      case rel => exact ⟨_, (!t247), (by first | rfl | (simp; done) | (simp [*]; done) | (simp [Int.tdiv_eq_ediv_of_nonneg]; done)), H', ⟨by have := HJ7.out; first | omega | exact Nat.le_refl _⟩, ⟨by (try simp only [hl232001_7]); (with_reducible repeat (first | apply Kd.R_alloc | apply Kd.R_drewN | apply Kd.R_drew)); exact HO_228002.out⟩, ⟨by (try simp only [hl232001_7]); (with_reducible repeat (first | apply Kd.R_alloc | apply Kd.R_drewN | apply Kd.R_drew)); exact HO_228003.out⟩, ⟨by (try simp only [hl232001_7]); (with_reducible repeat (first | apply Kd.R_alloc | apply Kd.R_drewN | apply Kd.R_drew)); exact HO_232001.out⟩, ⟨by (try simp only [hl232001_7]); (with_reducible repeat (first | apply Kd.R_alloc | apply Kd.R_drewN | apply Kd.R_drew)); exact HO_246002.out⟩, ⟨by (try simp only [hl232001_7]); (with_reducible repeat (first | apply Kd.R_alloc | apply Kd.R_drewN | apply Kd.R_drew)); exact HO_246003.out⟩, ⟨by (try simp only [hl232001_7]); (with_reducible repeat first | apply blk_drewN | apply blk_drew | apply blk_alloc); exact BK214.out⟩, ⟨by (try simp only [hl232001_7]); (with_reducible repeat first | apply blk_drewN | apply blk_drew | apply blk_alloc); exact BK227.out⟩, ⟨by (try simp only [hl232001_7]); (with_reducible repeat first | apply blk_drewN | apply blk_drew | apply blk_alloc); exact BK231.out⟩, ⟨by (try simp only [hl232001_7]); (with_reducible repeat first | apply blk_drewN | apply blk_drew | apply blk_alloc); exact BK245.out⟩, ⟨by repeat (first | (with_reducible first | exact HB.out | apply below_alloc | apply pw_below_drewN | apply below_drew1 | refine below_set ?_ GE214.out | refine below_set ?_ GE227.out | refine below_set ?_ GE231.out | refine below_set ?_ GE245.out) | exact HB.out)⟩⟩
     ·rw [if_neg c46] at H
      have c46b0 : (t226 == 0) = false := beq_eq_false_iff_ne.mpr c46
      have c46b1 : (t226 != 0) = true := bne_iff_ne.mpr c46
      (first | rw [c46b0] | (simp only [i64_w, i32_w]; rw [c46b0]) | skip)
      have H' := Aside0.mk H
      clear H
      go_wp2
      go_meet
      case rel => exact ⟨_, (true), (by first | rfl | (simp; done) | (simp [*]; done) | (simp [Int.tdiv_eq_ediv_of_nonneg]; done)), H', ⟨by have := HJ7.out; first | omega | exact Nat.le_refl _⟩, ⟨by (try simp only [hl232001_7]); (with_reducible repeat (first | apply Kd.R_alloc | apply Kd.R_drewN | apply Kd.R_drew)); exact HO_228002.out⟩, ⟨by (try simp only [hl232001_7]); (with_reducible repeat (first | apply Kd.R_alloc | apply Kd.R_drewN | apply Kd.R_drew)); exact HO_228003.out⟩, ⟨by (try simp only [hl232001_7]); (with_reducible repeat (first | apply Kd.R_alloc | apply Kd.R_drewN | apply Kd.R_drew)); exact HO_232001.out⟩, ⟨by (try simp only [hl232001_7]); (with_reducible repeat (first | apply Kd.R_alloc | apply Kd.R_drewN | apply Kd.R_drew)); exact HO_246002.out⟩, ⟨by (try simp only [hl232001_7]); (with_reducible repeat (first | apply Kd.R_alloc | apply Kd.R_drewN | apply Kd.R_drew)); exact HO_246003.out⟩, ⟨by (try simp only [hl232001_7]); (with_reducible repeat first | apply blk_drewN | apply blk_drew | apply blk_alloc); exact BK214.out⟩, ⟨by (try simp only [hl232001_7]); (with_reducible repeat first | apply blk_drewN | apply blk_drew | apply blk_alloc); exact BK227.out⟩, ⟨by (try simp only [hl232001_7]); (with_reducible repeat first | apply blk_drewN | apply blk_drew | apply blk_alloc); exact BK231.out⟩, ⟨by (try simp only [hl232001_7]); (with_reducible repeat first | apply blk_drewN | apply blk_drew | apply blk_alloc); exact BK245.out⟩, ⟨by repeat (first | (with_reducible first | exact HB.out | apply below_alloc | apply pw_below_drewN | apply below_drew1 | refine below_set ?_ GE214.out | refine below_set ?_ GE227.out | refine below_set ?_ GE231.out | refine below_set ?_ GE245.out) | exact HB.out)⟩⟩
    case rest =>
     clear HC45
     try clear c1
     try clear c2
     try clear p2
     try clear c3
     try clear c4
     try clear c5
     try clear p6
     try clear c7
     try clear c10
     try clear c13
     try clear c14
     try clear c27
     try clear c28
     try clear c29
     try clear c30
     try clear c34
     try clear c35
     try clear c36
     try clear c41
     try clear c44
     try clear c46
     try clear c46b0
     try clear c46b1
     try clear c48
     try clear c49
     try clear c50
     try clear hcz10_0
     try clear hcz10_1
     try clear hcz14_0
     try clear hcz14_1
     try clear hcz14_2
     try clear hcz14_3
     try clear hcz14_4
     try clear hcz14_5
     try clear hcz14_6
     try clear hcz29_0
     try clear hcz29_1
     try clear hcz31_0
     try clear hcz31_1
     try clear hcz37_0
     try clear hcz37_1
     try clear hcz37_2
     try clear hcz37_3
     try clear hcz37_4
     try clear hcz37_5
     try clear hcz37_6
     try clear hcz51_0
     try clear hcz51_1
     try clear hfz10_0
     try clear hfz10_1
     try clear hfz14_0
     try clear hfz14_1
     try clear hfz14_2
     try clear hfz14_3
     try clear hfz14_4
     try clear hfz14_5
     try clear hfz14_6
     try clear hfz29_0
     try clear hfz29_1
     try clear hfz31_0
     try clear hfz31_1
     try clear hfz37_0
     try clear hfz37_1
     try clear hfz37_2
     try clear hfz37_3
     try clear hfz37_4
     try clear hfz37_5
     try clear hfz37_6
     try clear hfz51_0
     try clear hfz51_1
     try clear p2
     try clear p6
     obtain ⟨kq, x50_44, rfl, HA, HJ44, HO_228002, HO_228003, HO_232001, HO_246002, HO_246003, BK214, BK227, BK231, BK245, HB⟩ := hcut
     cases kq with
     | zero => exact absurd HA.out (by simp [atticlaw19_MarkRooms.j1])
     | succ kj44 =>
      have H := HA.out
      clear HA
      simp only [atticlaw19_MarkRooms.j1] at H
      by_cases c53 : x50_44 = true
      ·subst c53
       have H1 : (some true) = some r := by rw [if_pos rfl] at H; exact H
       clear H
       have H := H1
       clear H1
       obtain rfl := Option.some.inj H
       go_wp2
       go_ret
       exact ⟨by first | rfl | (simp [errW_none, errW_some] <;> rfl) | (simp [*, errW_none, errW_some] <;> rfl) | (simp [Int.tdiv_eq_ediv_of_nonneg]; done), by repeat (first | (with_reducible first | exact HB.out | apply below_alloc | apply pw_below_drewN | apply below_drew1 | refine below_set ?_ GE214.out | refine below_set ?_ GE227.out | refine below_set ?_ GE231.out | refine below_set ?_ GE245.out) | exact HB.out)⟩
      ·replace c53 := Bool.eq_false_iff.mpr c53
       subst c53
       have H1 : ((mark_Bound.f l0_0 l0_1).bind fun t248 => ((mark_Run.f kj44 l0_0 l0_1 (wrap64 (1 + (wrap64 (a1)))) t215 t216 t217 t220 t223 t224 t225 t248).bind fun bt249 => ((mark_Bound.f l0_0 t232).bind fun t261 => ((mark_Run.f kj44 l0_0 t232 (wrap64 (1 + (wrap64 (a2)))) t233 t234 t235 t238 t241 t242 t243 t261).bind fun bt262 => (if bt249.1 = 3 then (if bt262.1 = 3 then ((slices_Equal_bool_bool.f kj44 bt249.2.2.1 bt262.2.2.1).bind fun t274 => (some t274)) else (some false)) else (some false)))))) = some r := by rw [if_neg (show ¬ (false = true) by decide)] at H; exact H
       clear H
       have H := H1
       clear H1
       replace H := Option.bind_eq_some_iff.mp H
       obtain ⟨t248, A540, H⟩ := H
       replace H : ((mark_Run.f kj44 l0_0 l0_1 (wrap64 (1 + (wrap64 (a1)))) t215 t216 t217 t220 t223 t224 t225 t248).bind fun bt249 => ((mark_Bound.f l0_0 t232).bind fun t261 => ((mark_Run.f kj44 l0_0 t232 (wrap64 (1 + (wrap64 (a2)))) t233 t234 t235 t238 t241 t242 t243 t261).bind fun bt262 => (if bt249.1 = 3 then (if bt262.1 = 3 then ((slices_Equal_bool_bool.f kj44 bt249.2.2.1 bt262.2.2.1).bind fun t274 => (some t274)) else (some false)) else (some false))))) = some r := H
       have A54 := Aside0.mk A540
       clear A540
       replace H := Option.bind_eq_some_iff.mp H
       obtain ⟨⟨t249, t250, t251, t254, t257, t258, t259, t260⟩, A550, H⟩ := H
       replace H : ((mark_Bound.f l0_0 t232).bind fun t261 => ((mark_Run.f kj44 l0_0 t232 (wrap64 (1 + (wrap64 (a2)))) t233 t234 t235 t238 t241 t242 t243 t261).bind fun bt262 => (if t249 = 3 then (if bt262.1 = 3 then ((slices_Equal_bool_bool.f kj44 t251 bt262.2.2.1).bind fun t274 => (some t274)) else (some false)) else (some false)))) = some r := H
       have A55 := Aside0.mk A550
       clear A550
       replace H := Option.bind_eq_some_iff.mp H
       obtain ⟨t261, A560, H⟩ := H
       replace H : ((mark_Run.f kj44 l0_0 t232 (wrap64 (1 + (wrap64 (a2)))) t233 t234 t235 t238 t241 t242 t243 t261).bind fun bt262 => (if t249 = 3 then (if bt262.1 = 3 then ((slices_Equal_bool_bool.f kj44 t251 bt262.2.2.1).bind fun t274 => (some t274)) else (some false)) else (some false))) = some r := H
       have A56 := Aside0.mk A560
       clear A560
       replace H := Option.bind_eq_some_iff.mp H
       obtain ⟨⟨t262, t263, t264, t267, t270, t271, t272, t273⟩, A570, H⟩ := H
       replace H : (if t249 = 3 then (if t262 = 3 then ((slices_Equal_bool_bool.f kj44 t251 t264).bind fun t274 => (some t274)) else (some false)) else (some false)) = some r := H
       have A57 := Aside0.mk A570
       clear A570
       by_cases c58 : t249 = 3
       ·rw [if_pos c58] at H
        have c58b0 : (t249 == 3) = true := beq_iff_eq.mpr c58
        have c58b1 : (t249 != 3) = false := bne_eq_false_iff_eq.mpr c58
        clear c58
        by_cases c59 : t262 = 3
        ·rw [if_pos c59] at H
         have c59b0 : (t262 == 3) = true := beq_iff_eq.mpr c59
         have c59b1 : (t262 != 3) = false := bne_eq_false_iff_eq.mpr c59
         clear c59
         replace H := Option.bind_eq_some_iff.mp H
         obtain ⟨t274, A600, H⟩ := H
         replace H : (some t274) = some r := H
         have A60 := Aside0.mk A600
         clear A600
         obtain rfl := Option.some.inj H
         try go_wp2
         have n0_ := Aside0.mk (Kd.R_drew HO_228002.out)
         have n1_ := Aside0.mk (Kd.R_drew HO_228003.out)
         have n2_ := Aside0.mk (Kd.R_drew HO_232001.out)
         have n3_ := Aside0.mk (Kd.R_drew HO_246002.out)
         have n4_ := Aside0.mk (Kd.R_drew HO_246003.out)
         have n5_ := Aside0.mk (blk_drew BK214.out)
         have n6_ := Aside0.mk (blk_drew BK227.out)
         have n7_ := Aside0.mk (blk_drew BK231.out)
         have n8_ := Aside0.mk (blk_drew BK245.out)
         have n9_ := Aside0.mk (below_drew1 HB.out)
         clear HO_228002
         clear HO_228003
         clear HO_232001
         clear HO_246002
         clear HO_246003
         clear BK214
         clear BK227
         clear BK231
         clear BK245
         clear HB
         have HO_228002 := n0_
         have HO_228003 := n1_
         have HO_232001 := n2_
         have HO_246002 := n3_
         have HO_246003 := n4_
         have BK214 := n5_
         have BK227 := n6_
         have BK231 := n7_
         have BK245 := n8_
         have HB := n9_
         clear n0_ n1_ n2_ n3_ n4_ n5_ n6_ n7_ n8_ n9_
         refine start_ (n := 12) (S := fun w' => w'.cell? ⟨gb214, 0, none⟩ = some (.slice A0_0 l0_0.length c0_0) ∧ w'.cell? ⟨gb214, 1, none⟩ = some (.slice A0_1 l0_1.length c0_1) ∧ w'.cell? ⟨gb227, 0, none⟩ = some (.int .i64 t215) ∧ w'.cell? ⟨gb227, 1, none⟩ = some (.int .i64 t216) ∧ w'.cell? ⟨gb227, 2, none⟩ = some (.slice Ao15 t217.length co15) ∧ w'.cell? ⟨gb227, 3, none⟩ = some (.slice Ao16 t220.length co16) ∧ w'.cell? ⟨gb227, 4, none⟩ = some (.bool t223) ∧ w'.cell? ⟨gb227, 5, none⟩ = some (.bool t224) ∧ w'.cell? ⟨gb227, 6, none⟩ = some (.bool t225)) (ds := [11]) #[false, false, false, false, false, false, false, false, false, false, false, false] (by kernel_rfl) rfl rfl ⟨(blk_cell BK214.out 0).trans rfl, (blk_cell BK214.out 1).trans rfl, (blk_cell BK227.out 0).trans rfl, (blk_cell BK227.out 1).trans rfl, (blk_cell BK227.out 2).trans rfl, (blk_cell BK227.out 3).trans rfl, (blk_cell BK227.out 4).trans rfl, (blk_cell BK227.out 5).trans rfl, (blk_cell BK227.out 6).trans rfl⟩ (fun hHeld => ?_); refine with_tabW atticlaw19_MarkRooms.tab9 atticlaw19_MarkRooms.bits9 (fun HT_ HW_ => ?_)
         generalize wc.drew = w61 at HO_228002 HO_228003 HO_232001 HO_246002 HO_246003 BK214 BK227 BK231 BK245 HB hHeld ⊢
         refine pure_ (i := 1) (N := some 53) (v := ?_) (a' := ?_) #[false, true, false, false, false, false, false, false, false, false, false, false] rfl rfl (any_of HT_.out (by kernel_rfl)) (fun _ _ _ h => h) (Or.inl ⟨by rfl, ?_⟩) ?_ ?_
         rotate_left
         ·intro w'
          go_simp
          with_reducible rfl
         rotate_left
         ·simp only [Act.put, List.setIfInBounds_toArray, List.set_cons_zero, List.set_cons_succ, i64_w, i32_w]
          rfl
         refine pure_ (i := 2) (N := some 54) (v := ?_) (a' := ?_) #[false, true, true, false, false, false, false, false, false, false, false, false] rfl rfl (any_of HT_.out (by kernel_rfl)) (fun _ _ _ h => h) (Or.inl ⟨by rfl, ?_⟩) ?_ ?_
         rotate_left
         ·intro w'
          go_simp
          with_reducible rfl
         rotate_left
         ·simp only [Act.put, List.setIfInBounds_toArray, List.set_cons_zero, List.set_cons_succ, i64_w, i32_w]
          rfl
         refine pure_ (i := 3) (N := some 55) (v := ?_) (a' := ?_) #[false, true, true, true, false, false, false, false, false, false, false, false] rfl rfl (any_of HT_.out (by kernel_rfl)) (fun _ _ _ h => h) (Or.inl ⟨by rfl, ?_⟩) ?_ ?_
         rotate_left
         ·intro w'
          go_simp
          with_reducible rfl
         rotate_left
         ·simp only [Act.put, List.setIfInBounds_toArray, List.set_cons_zero, List.set_cons_succ, i64_w, i32_w]
          rfl
         refine take_ (i := 0) (N := some 52) (v := ?_) (a' := ?_) #[true, true, true, true, false, false, false, false, false, false, false, false] rfl rfl (take_ofW HT_.out HW_.out (by kernel_rfl)) (fun _ _ _ h => h) (Or.inl ⟨by rfl, ?_⟩) hHeld ?_ ?_
         rotate_left
         ·rintro w' ⟨s0, s1, s2, s3, s4, s5, s6, s7, s8⟩
          go_simp
          with_reducible rfl
         rotate_left
         ·simp only [Act.put, List.setIfInBounds_toArray, List.set_cons_zero, List.set_cons_succ, i64_w, i32_w]
          rfl
         refine take_ (i := 4) (N := some 56) (v := ?_) (a' := ?_) #[true, true, true, true, true, false, false, false, false, false, false, false] rfl rfl (take_ofW HT_.out HW_.out (by kernel_rfl)) (fun _ _ _ h => h) (Or.inl ⟨by rfl, ?_⟩) hHeld ?_ ?_
         rotate_left
         ·rintro w' ⟨s0, s1, s2, s3, s4, s5, s6, s7, s8⟩
          go_simp
          with_reducible rfl
         rotate_left
         ·simp only [Act.put, List.setIfInBounds_toArray, List.set_cons_zero, List.set_cons_succ, i64_w, i32_w]
          rfl
         refine take_ (i := 5) (N := some 57) (v := ?_) (a' := ?_) #[true, true, true, true, true, true, false, false, false, false, false, false] rfl rfl (take_ofW HT_.out HW_.out (by kernel_rfl)) (fun _ _ _ h => h) (Or.inl ⟨by rfl, ?_⟩) hHeld ?_ ?_
         rotate_left
         ·rintro w' ⟨s0, s1, s2, s3, s4, s5, s6, s7, s8⟩
          go_simp
          with_reducible rfl
         rotate_left
         ·simp only [Act.put, List.setIfInBounds_toArray, List.set_cons_zero, List.set_cons_succ, i64_w, i32_w]
          rfl
         refine one_ (i := 6) (N := some 58) #[true, true, true, true, true, true, true, false, false, false, false, false] rfl rfl (one_of HT_.out (by kernel_rfl)) (by decide) (fun K hK => ?_)
         refine goes_ Try.func21 (by kernel_rfl) rfl #[.agg #[.slice A0_0 l0_0.length c0_0, .slice A0_1 l0_1.length c0_1]] (by rfl) rfl rfl (by (try simp only [List.map_toArray, List.map_cons, List.map_nil]); first | done | rfl | (simp only [List.length_drop, List.length_take]; rfl)) ?_
         with_reducible refine (mark_Bound.calls _ _ l0_0 _ _ l0_1 t248 _ ?side1 ?side2 ?side3 ?side4 A54.out).mono ?_
         (case side1 => repeat (first | exact (Kd.C_below HR0_0.out HB.out) | (with_reducible refine Kd.C_alloc ?_ _) | (with_reducible refine Kd.C_drewN ?_ _) | (with_reducible refine Kd.C_drew ?_)))
         (case side2 => exact HC0_0.out)
         (case side3 => repeat (first | exact (Kd.C_below HR0_1.out HB.out) | (with_reducible refine Kd.C_alloc ?_ _) | (with_reducible refine Kd.C_drewN ?_ _) | (with_reducible refine Kd.C_drew ?_)))
         (case side4 => exact HC0_1.out)
         rintro e w62 ⟨rfl, hb⟩
         refine ⟨_, rfl, ?_⟩
         have n0_ := Aside0.mk (Kd.R_below (by (with_reducible repeat (first | apply Kd.R_alloc | apply Kd.R_drewN | apply Kd.R_drew)); exact HO_228002.out) hb)
         have n1_ := Aside0.mk (Kd.R_below (by (with_reducible repeat (first | apply Kd.R_alloc | apply Kd.R_drewN | apply Kd.R_drew)); exact HO_228003.out) hb)
         have n2_ := Aside0.mk (Kd.R_below (by (with_reducible repeat (first | apply Kd.R_alloc | apply Kd.R_drewN | apply Kd.R_drew)); exact HO_232001.out) hb)
         have n3_ := Aside0.mk (Kd.R_below (by (with_reducible repeat (first | apply Kd.R_alloc | apply Kd.R_drewN | apply Kd.R_drew)); exact HO_246002.out) hb)
         have n4_ := Aside0.mk (Kd.R_below (by (with_reducible repeat (first | apply Kd.R_alloc | apply Kd.R_drewN | apply Kd.R_drew)); exact HO_246003.out) hb)
         have n5_ := Aside0.mk (blk_below (g := gb214) (o := .cells #[.slice A0_0 l0_0.length c0_0, .slice A0_1 l0_1.length c0_1] 25 (0, 0)) (by (with_reducible repeat first | apply blk_drewN | apply blk_drew | apply blk_alloc); exact BK214.out) hb)
         have n6_ := Aside0.mk (blk_below (g := gb227) (o := .cells #[.int .i64 t215, .int .i64 t216, .slice Ao15 t217.length co15, .slice Ao16 t220.length co16, .bool t223, .bool t224, .bool t225] 28 (0, 0)) (by (with_reducible repeat first | apply blk_drewN | apply blk_drew | apply blk_alloc); exact BK227.out) hb)
         have n7_ := Aside0.mk (blk_below (g := gb231) (o := .cells #[.slice A0_0 l0_0.length c0_0, .slice Ao23 t232.length co23] 25 (0, 0)) (by (with_reducible repeat first | apply blk_drewN | apply blk_drew | apply blk_alloc); exact BK231.out) hb)
         have n8_ := Aside0.mk (blk_below (g := gb245) (o := .cells #[.int .i64 t233, .int .i64 t234, .slice Ao38 t235.length co38, .slice Ao39 t238.length co39, .bool t241, .bool t242, .bool t243] 28 (0, 0)) (by (with_reducible repeat first | apply blk_drewN | apply blk_drew | apply blk_alloc); exact BK245.out) hb)
         have n9_ := Aside0.mk (below_step (by repeat (first | (with_reducible first | exact HB.out | apply below_alloc | apply pw_below_drewN | apply below_drew1 | refine below_set ?_ GE214.out | refine below_set ?_ GE227.out | refine below_set ?_ GE231.out | refine below_set ?_ GE245.out) | exact HB.out)) hb)
         clear HO_228002
         clear HO_228003
         clear HO_232001
         clear HO_246002
         clear HO_246003
         clear BK214
         clear BK227
         clear BK231
         clear BK245
         clear HB
         have HO_228002 := n0_
         have HO_228003 := n1_
         have HO_232001 := n2_
         have HO_246002 := n3_
         have HO_246003 := n4_
         have BK214 := n5_
         have BK227 := n6_
         have BK231 := n7_
         have BK245 := n8_
         have HB := n9_
         clear n0_ n1_ n2_ n3_ n4_ n5_ n6_ n7_ n8_ n9_
         (try clear hb)
         (try clear hb2)
         (try clear hk)
         (try clear hi)
         refine hK.out _ _ ⟨(blk_cell BK214.out 0).trans rfl, (blk_cell BK214.out 1).trans rfl, (blk_cell BK227.out 0).trans rfl, (blk_cell BK227.out 1).trans rfl, (blk_cell BK227.out 2).trans rfl, (blk_cell BK227.out 3).trans rfl, (blk_cell BK227.out 4).trans rfl, (blk_cell BK227.out 5).trans rfl, (blk_cell BK227.out 6).trans rfl⟩ (fun hHeld => ?_)
         clear hK K
         refine norm_ (a' := ?_) ?_ ?_
         rotate_left
         ·show Act.put _ (some 58) _ = _
          simp only [Act.put, List.setIfInBounds_toArray, List.set_cons_zero, List.set_cons_succ, i64_w, i32_w]
          rfl
         refine one_ (i := 7) (N := some 59) #[true, true, true, true, true, true, true, true, false, false, false, false] rfl rfl (one_of HT_.out (by kernel_rfl)) (by decide) (fun K hK => ?_)
         refine goes_ Try.func12 (by kernel_rfl) rfl #[.agg #[.slice A0_0 l0_0.length c0_0, .slice A0_1 l0_1.length c0_1], .int .i64 (wrap64 (1 + (wrap64 (a1)))), .agg #[.int .i64 t215, .int .i64 t216, .slice Ao15 t217.length co15, .slice Ao16 t220.length co16, .bool t223, .bool t224, .bool t225], .int .i64 t248] (by rfl) rfl rfl (by (try simp only [List.map_toArray, List.map_cons, List.map_nil]); first | done | rfl | (simp only [List.length_drop, List.length_take]; rfl)) ?_
         with_reducible refine (mark_Run.calls kj44 _ _ l0_0 _ _ l0_1 (wrap64 (1 + (wrap64 (a1)))) t215 t216 _ _ t217 _ _ t220 t223 t224 t225 t248 t249 t250 t251 t254 t257 t258 t259 t260 _ ?side1 ?side2 ?side3 ?side4 ?side5 ?side6 ?side7 ?side8 A55.out).mono ?_
         (case side1 => repeat (first | exact (Kd.C_below HR0_0.out HB.out) | (with_reducible refine Kd.C_alloc ?_ _) | (with_reducible refine Kd.C_drewN ?_ _) | (with_reducible refine Kd.C_drew ?_)))
         (case side2 => exact HC0_0.out)
         (case side3 => repeat (first | exact (Kd.C_below HR0_1.out HB.out) | (with_reducible refine Kd.C_alloc ?_ _) | (with_reducible refine Kd.C_drewN ?_ _) | (with_reducible refine Kd.C_drew ?_)))
         (case side4 => exact HC0_1.out)
         (case side5 => repeat (first | exact (Kd.R_reads' HO_228002.out).2.2 | (with_reducible refine Kd.C_alloc ?_ _) | (with_reducible refine Kd.C_drewN ?_ _) | (with_reducible refine Kd.C_drew ?_)))
         (case side6 => exact (Kd.R_reads' HO_228002.out).2.1)
         (case side7 => repeat (first | exact (Kd.R_reads' HO_228003.out).2.2 | (with_reducible refine Kd.C_alloc ?_ _) | (with_reducible refine Kd.C_drewN ?_ _) | (with_reducible refine Kd.C_drew ?_)))
         (case side8 => exact (Kd.R_reads' HO_228003.out).2.1)
         rintro e w63 ⟨v252, v255, rfl, ho0, ho1, hb⟩
         refine ⟨_, rfl, ?_⟩
         have n0_ := Aside0.mk (Kd.R_elder' (by (with_reducible repeat (first | apply Kd.R_alloc | apply Kd.R_drewN | apply Kd.R_drew)); exact HO_228002.out) (Kd.R_base ho0) hb)
         have n1_ := Aside0.mk (Kd.R_elder' (by (with_reducible repeat (first | apply Kd.R_alloc | apply Kd.R_drewN | apply Kd.R_drew)); exact HO_228003.out) (Kd.R_base ho1) hb)
         have n2_ := Aside0.mk (Kd.R_elder' (by (with_reducible repeat (first | apply Kd.R_alloc | apply Kd.R_drewN | apply Kd.R_drew)); exact HO_232001.out) (Kd.R_base ho1) hb)
         have n3_ := Aside0.mk (Kd.R_elder' (by (with_reducible repeat (first | apply Kd.R_alloc | apply Kd.R_drewN | apply Kd.R_drew)); exact HO_246002.out) (Kd.R_base ho0) hb)
         have n4_ := Aside0.mk (Kd.R_elder' (by (with_reducible repeat (first | apply Kd.R_alloc | apply Kd.R_drewN | apply Kd.R_drew)); exact HO_246003.out) (Kd.R_base ho1) hb)
         have n5_ := Aside0.mk (Kd.R_lower (Kd.R_new' (Kd.R_new' ho0 (Kd.R_lt (by (with_reducible repeat (first | apply Kd.R_alloc | apply Kd.R_drewN | apply Kd.R_drew)); exact HO_228002.out))) (Kd.R_lt (by (with_reducible repeat (first | apply Kd.R_alloc | apply Kd.R_drewN | apply Kd.R_drew)); exact HO_246002.out))) (below_size (by repeat (first | (with_reducible first | exact HB.out | apply below_alloc | apply pw_below_drewN | apply below_drew1 | refine below_set ?_ GE214.out | refine below_set ?_ GE227.out | refine below_set ?_ GE231.out | refine below_set ?_ GE245.out) | exact HB.out))))
         have n6_ := Aside0.mk (Kd.R_lower (Kd.R_new' (Kd.R_new' (Kd.R_new' ho1 (Kd.R_lt (by (with_reducible repeat (first | apply Kd.R_alloc | apply Kd.R_drewN | apply Kd.R_drew)); exact HO_228003.out))) (Kd.R_lt (by (with_reducible repeat (first | apply Kd.R_alloc | apply Kd.R_drewN | apply Kd.R_drew)); exact HO_232001.out))) (Kd.R_lt (by (with_reducible repeat (first | apply Kd.R_alloc | apply Kd.R_drewN | apply Kd.R_drew)); exact HO_246003.out))) (below_size (by repeat (first | (with_reducible first | exact HB.out | apply below_alloc | apply pw_below_drewN | apply below_drew1 | refine below_set ?_ GE214.out | refine below_set ?_ GE227.out | refine below_set ?_ GE231.out | refine below_set ?_ GE245.out) | exact HB.out))))
         have n7_ := Aside0.mk (blk_below (g := gb214) (o := .cells #[.slice A0_0 l0_0.length c0_0, .slice A0_1 l0_1.length c0_1] 25 (0, 0)) (by (with_reducible repeat first | apply blk_drewN | apply blk_drew | apply blk_alloc); exact BK214.out) hb)
         have n8_ := Aside0.mk (blk_below (g := gb227) (o := .cells #[.int .i64 t215, .int .i64 t216, .slice Ao15 t217.length co15, .slice Ao16 t220.length co16, .bool t223, .bool t224, .bool t225] 28 (0, 0)) (by (with_reducible repeat first | apply blk_drewN | apply blk_drew | apply blk_alloc); exact BK227.out) hb)
         have n9_ := Aside0.mk (blk_below (g := gb231) (o := .cells #[.slice A0_0 l0_0.length c0_0, .slice Ao23 t232.length co23] 25 (0, 0)) (by (with_reducible repeat first | apply blk_drewN | apply blk_drew | apply blk_alloc); exact BK231.out) hb)
         have n10_ := Aside0.mk (blk_below (g := gb245) (o := .cells #[.int .i64 t233, .int .i64 t234, .slice Ao38 t235.length co38, .slice Ao39 t238.length co39, .bool t241, .bool t242, .bool t243] 28 (0, 0)) (by (with_reducible repeat first | apply blk_drewN | apply blk_drew | apply blk_alloc); exact BK245.out) hb)
         have n11_ := Aside0.mk (below_step (by repeat (first | (with_reducible first | exact HB.out | apply below_alloc | apply pw_below_drewN | apply below_drew1 | refine below_set ?_ GE214.out | refine below_set ?_ GE227.out | refine below_set ?_ GE231.out | refine below_set ?_ GE245.out) | exact HB.out)) hb)
         clear HO_228002
         clear HO_228003
         clear HO_232001
         clear HO_246002
         clear HO_246003
         clear BK214
         clear BK227
         clear BK231
         clear BK245
         clear HB
         have HO_228002 := n0_
         have HO_228003 := n1_
         have HO_232001 := n2_
         have HO_246002 := n3_
         have HO_246003 := n4_
         have HO253 := n5_
         have HO256 := n6_
         have BK214 := n7_
         have BK227 := n8_
         have BK231 := n9_
         have BK245 := n10_
         have HB := n11_
         clear n0_ n1_ n2_ n3_ n4_ n5_ n6_ n7_ n8_ n9_ n10_ n11_
         (try clear hb)
         (try clear hb2)
         (try clear hk)
         (try clear hi)
         (try clear ho0)
         (try clear ho1)
         obtain ⟨Ao66, co66, eo66⟩ := Kd.R_slice HO253.out
         (first | subst eo66 | (injection eo66 with f1_ f2_ f3_; have f4_ := f1_.symm; have f5_ := f3_.symm; clear f1_ f2_ f3_; subst f4_; subst f5_))
         obtain ⟨Ao68, co68, eo68⟩ := Kd.R_slice HO256.out
         (first | subst eo68 | (injection eo68 with f1_ f2_ f3_; have f4_ := f1_.symm; have f5_ := f3_.symm; clear f1_ f2_ f3_; subst f4_; subst f5_))
         refine hK.out _ _ ⟨(blk_cell BK214.out 0).trans rfl, (blk_cell BK214.out 1).trans rfl, (blk_cell BK227.out 0).trans rfl, (blk_cell BK227.out 1).trans rfl, (blk_cell BK227.out 2).trans rfl, (blk_cell BK227.out 3).trans rfl, (blk_cell BK227.out 4).trans rfl, (blk_cell BK227.out 5).trans rfl, (blk_cell BK227.out 6).trans rfl⟩ (fun hHeld => ?_)
         clear hK K
         refine norm_ (a' := ?_) ?_ ?_
         rotate_left
         ·show Act.put _ (some 59) _ = _
          simp only [Act.put, List.setIfInBounds_toArray, List.set_cons_zero, List.set_cons_succ, i64_w, i32_w]
          rfl
         refine pure_ (i := 8) (N := some 51) (v := ?_) (a' := ?_) #[true, true, true, true, true, true, true, true, true, false, false, false] rfl rfl (any_of HT_.out (by kernel_rfl)) (fun _ _ _ h => h) (Or.inl ⟨by rfl, ?_⟩) ?_ ?_
         rotate_left
         ·intro w'
          go_simp
          with_reducible rfl
         rotate_left
         ·simp only [Act.put, List.setIfInBounds_toArray, List.set_cons_zero, List.set_cons_succ, i64_w, i32_w]
          rfl
         refine pure_ (i := 9) (N := some 60) (v := ?_) (a' := ?_) #[true, true, true, true, true, true, true, true, true, true, false, false] rfl rfl (any_of HT_.out (by kernel_rfl)) (fun _ _ _ h => h) (Or.inl ⟨by rfl, ?_⟩) ?_ ?_
         rotate_left
         ·intro w'
          go_simp
          with_reducible rfl
         rotate_left
         ·simp only [Act.put, List.setIfInBounds_toArray, List.set_cons_zero, List.set_cons_succ, i64_w, i32_w]
          rfl
         refine pure_ (i := 10) (N := some 61) (v := ?_) (a' := ?_) #[true, true, true, true, true, true, true, true, true, true, true, false] rfl rfl (any_of HT_.out (by kernel_rfl)) (fun _ _ _ h => h) (Or.inl ⟨by rfl, ?_⟩) ?_ ?_
         rotate_left
         ·intro w'
          go_simp
          with_reducible rfl
         rotate_left
         ·simp only [Act.put, List.setIfInBounds_toArray, List.set_cons_zero, List.set_cons_succ, i64_w, i32_w]
          rfl
         refine last_ (i := 11) (N := none) #[true, true, true, true, true, true, true, true, true, true, true, true] rfl rfl (one_of HT_.out (by kernel_rfl)) (by decide) (fun K hK => ?_)
         have hs64 : w63.cell? ⟨gb227, 0, none⟩ = some (.int .i64 t215) := (blk_cell BK227.out 0).trans rfl
         have hfs64 := blk_frozen BK227.out 0
         have hns64_0 := NB214_227.out
         have hns64_2 := NB231_227.out
         have hns64_3 := NB245_227.out
         have hms64_0 := NB227_214.out
         have hms64_2 := NB227_231.out
         have hms64_3 := NB227_245.out
         have hs65 : w63.cell? ⟨gb227, 1, none⟩ = some (.int .i64 t216) := (blk_cell BK227.out 1).trans rfl
         have hfs65 := blk_frozen BK227.out 1
         have hns65_0 := NB214_227.out
         have hns65_2 := NB231_227.out
         have hns65_3 := NB245_227.out
         have hms65_0 := NB227_214.out
         have hms65_2 := NB227_231.out
         have hms65_3 := NB227_245.out
         have hs67 : w63.cell? ⟨gb227, 2, none⟩ = some (.slice Ao15 t217.length co15) := (blk_cell BK227.out 2).trans rfl
         have hfs67 := blk_frozen BK227.out 2
         have hns67_0 := NB214_227.out
         have hns67_2 := NB231_227.out
         have hns67_3 := NB245_227.out
         have hms67_0 := NB227_214.out
         have hms67_2 := NB227_231.out
         have hms67_3 := NB227_245.out
         have hs69 : w63.cell? ⟨gb227, 3, none⟩ = some (.slice Ao16 t220.length co16) := (blk_cell BK227.out 3).trans rfl
         have hfs69 := blk_frozen BK227.out 3
         have hns69_0 := NB214_227.out
         have hns69_2 := NB231_227.out
         have hns69_3 := NB245_227.out
         have hms69_0 := NB227_214.out
         have hms69_2 := NB227_231.out
         have hms69_3 := NB227_245.out
         have hs70 : w63.cell? ⟨gb227, 4, none⟩ = some (.bool t223) := (blk_cell BK227.out 4).trans rfl
         have hfs70 := blk_frozen BK227.out 4
         have hns70_0 := NB214_227.out
         have hns70_2 := NB231_227.out
         have hns70_3 := NB245_227.out
         have hms70_0 := NB227_214.out
         have hms70_2 := NB227_231.out
         have hms70_3 := NB227_245.out
         have hs71 : w63.cell? ⟨gb227, 5, none⟩ = some (.bool t224) := (blk_cell BK227.out 5).trans rfl
         have hfs71 := blk_frozen BK227.out 5
         have hns71_0 := NB214_227.out
         have hns71_2 := NB231_227.out
         have hns71_3 := NB245_227.out
         have hms71_0 := NB227_214.out
         have hms71_2 := NB227_231.out
         have hms71_3 := NB227_245.out
         have hs72 : w63.cell? ⟨gb227, 6, none⟩ = some (.bool t225) := (blk_cell BK227.out 6).trans rfl
         have hfs72 := blk_frozen BK227.out 6
         have hns72_0 := NB214_227.out
         have hns72_2 := NB231_227.out
         have hns72_3 := NB245_227.out
         have hms72_0 := NB227_214.out
         have hms72_2 := NB227_231.out
         have hms72_3 := NB227_245.out
         refine skip_ (w1 := ?_) (by rfl) rfl ?_ ?_
         rotate_left
         ·go_simp
          rfl
         refine hK.out _ _ ?_
         clear hK K
         refine done_ (done_of HT_.out (by kernel_rfl)) ?_
         try go_wp2
         have n0_ : Aside0 (Kd.R Kd.bool 4 (((((((w63.setCell ⟨gb227, 0, none⟩ (.int .i64 t249)).setCell ⟨gb227, 1, none⟩ (.int .i64 t250)).setCell ⟨gb227, 2, none⟩ (.slice Ao66 t251.length co66)).setCell ⟨gb227, 3, none⟩ (.slice Ao68 t254.length co68)).setCell ⟨gb227, 4, none⟩ (.bool t257)).setCell ⟨gb227, 5, none⟩ (.bool t258)).setCell ⟨gb227, 6, none⟩ (.bool t259)) w.heap.size (fun k_ => some k_ ≠ (.slice Ao38 t235.length co38 : Value).ownBlock ∧ some k_ ≠ (.slice Ao66 t251.length co66 : Value).ownBlock) (.slice Ao15 t217.length co15) t217) := ⟨by (with_reducible repeat (first | apply Kd.R_alloc | apply Kd.R_drewN | apply Kd.R_drew)); exact Kd.R_mono (Kd.R_far (p := ⟨gb227, 6, none⟩) (Kd.R_far (p := ⟨gb227, 5, none⟩) (Kd.R_far (p := ⟨gb227, 4, none⟩) (Kd.R_far (p := ⟨gb227, 3, none⟩) (Kd.R_far (p := ⟨gb227, 2, none⟩) (Kd.R_far (p := ⟨gb227, 1, none⟩) (Kd.R_far (p := ⟨gb227, 0, none⟩) (Kd.R_types HO_228002.out BK227.out (by decide)) (fun _ hk => hk.2) (.int .i64 t249)) (fun _ hk => hk.2) (.int .i64 t250)) (fun _ hk => hk.2) (.slice Ao66 t251.length co66)) (fun _ hk => hk.2) (.slice Ao68 t254.length co68)) (fun _ hk => hk.2) (.bool t257)) (fun _ hk => hk.2) (.bool t258)) (fun _ hk => hk.2) (.bool t259)) (fun _ hk => ⟨hk.1.1, hk.1.2⟩)⟩
         have n1_ : Aside0 (Kd.R (Kd.int .i64) 3 (((((((w63.setCell ⟨gb227, 0, none⟩ (.int .i64 t249)).setCell ⟨gb227, 1, none⟩ (.int .i64 t250)).setCell ⟨gb227, 2, none⟩ (.slice Ao66 t251.length co66)).setCell ⟨gb227, 3, none⟩ (.slice Ao68 t254.length co68)).setCell ⟨gb227, 4, none⟩ (.bool t257)).setCell ⟨gb227, 5, none⟩ (.bool t258)).setCell ⟨gb227, 6, none⟩ (.bool t259)) w.heap.size (fun k_ => some k_ ≠ (.slice Ao23 t232.length co23 : Value).ownBlock ∧ some k_ ≠ (.slice Ao39 t238.length co39 : Value).ownBlock ∧ some k_ ≠ (.slice Ao68 t254.length co68 : Value).ownBlock) (.slice Ao16 t220.length co16) t220) := ⟨by (with_reducible repeat (first | apply Kd.R_alloc | apply Kd.R_drewN | apply Kd.R_drew)); exact Kd.R_mono (Kd.R_far (p := ⟨gb227, 6, none⟩) (Kd.R_far (p := ⟨gb227, 5, none⟩) (Kd.R_far (p := ⟨gb227, 4, none⟩) (Kd.R_far (p := ⟨gb227, 3, none⟩) (Kd.R_far (p := ⟨gb227, 2, none⟩) (Kd.R_far (p := ⟨gb227, 1, none⟩) (Kd.R_far (p := ⟨gb227, 0, none⟩) (Kd.R_types HO_228003.out BK227.out (by decide)) (fun _ hk => hk.2) (.int .i64 t249)) (fun _ hk => hk.2) (.int .i64 t250)) (fun _ hk => hk.2) (.slice Ao66 t251.length co66)) (fun _ hk => hk.2) (.slice Ao68 t254.length co68)) (fun _ hk => hk.2) (.bool t257)) (fun _ hk => hk.2) (.bool t258)) (fun _ hk => hk.2) (.bool t259)) (fun _ hk => ⟨hk.1.1.1, ⟨hk.1.1.2, hk.1.2⟩⟩)⟩
         have n2_ : Aside0 (Kd.R (Kd.int .i64) 3 (((((((w63.setCell ⟨gb227, 0, none⟩ (.int .i64 t249)).setCell ⟨gb227, 1, none⟩ (.int .i64 t250)).setCell ⟨gb227, 2, none⟩ (.slice Ao66 t251.length co66)).setCell ⟨gb227, 3, none⟩ (.slice Ao68 t254.length co68)).setCell ⟨gb227, 4, none⟩ (.bool t257)).setCell ⟨gb227, 5, none⟩ (.bool t258)).setCell ⟨gb227, 6, none⟩ (.bool t259)) w.heap.size (fun k_ => some k_ ≠ (.slice Ao16 t220.length co16 : Value).ownBlock ∧ some k_ ≠ (.slice Ao39 t238.length co39 : Value).ownBlock ∧ some k_ ≠ (.slice Ao68 t254.length co68 : Value).ownBlock) (.slice Ao23 t232.length co23) t232) := ⟨by (with_reducible repeat (first | apply Kd.R_alloc | apply Kd.R_drewN | apply Kd.R_drew)); exact Kd.R_mono (Kd.R_far (p := ⟨gb227, 6, none⟩) (Kd.R_far (p := ⟨gb227, 5, none⟩) (Kd.R_far (p := ⟨gb227, 4, none⟩) (Kd.R_far (p := ⟨gb227, 3, none⟩) (Kd.R_far (p := ⟨gb227, 2, none⟩) (Kd.R_far (p := ⟨gb227, 1, none⟩) (Kd.R_far (p := ⟨gb227, 0, none⟩) (Kd.R_types HO_232001.out BK227.out (by decide)) (fun _ hk => hk.2) (.int .i64 t249)) (fun _ hk => hk.2) (.int .i64 t250)) (fun _ hk => hk.2) (.slice Ao66 t251.length co66)) (fun _ hk => hk.2) (.slice Ao68 t254.length co68)) (fun _ hk => hk.2) (.bool t257)) (fun _ hk => hk.2) (.bool t258)) (fun _ hk => hk.2) (.bool t259)) (fun _ hk => ⟨hk.1.1.1, ⟨hk.1.1.2, hk.1.2⟩⟩)⟩
         have n3_ : Aside0 (Kd.R Kd.bool 4 (((((((w63.setCell ⟨gb227, 0, none⟩ (.int .i64 t249)).setCell ⟨gb227, 1, none⟩ (.int .i64 t250)).setCell ⟨gb227, 2, none⟩ (.slice Ao66 t251.length co66)).setCell ⟨gb227, 3, none⟩ (.slice Ao68 t254.length co68)).setCell ⟨gb227, 4, none⟩ (.bool t257)).setCell ⟨gb227, 5, none⟩ (.bool t258)).setCell ⟨gb227, 6, none⟩ (.bool t259)) w.heap.size (fun k_ => some k_ ≠ (.slice Ao15 t217.length co15 : Value).ownBlock ∧ some k_ ≠ (.slice Ao66 t251.length co66 : Value).ownBlock) (.slice Ao38 t235.length co38) t235) := ⟨by (with_reducible repeat (first | apply Kd.R_alloc | apply Kd.R_drewN | apply Kd.R_drew)); exact Kd.R_mono (Kd.R_far (p := ⟨gb227, 6, none⟩) (Kd.R_far (p := ⟨gb227, 5, none⟩) (Kd.R_far (p := ⟨gb227, 4, none⟩) (Kd.R_far (p := ⟨gb227, 3, none⟩) (Kd.R_far (p := ⟨gb227, 2, none⟩) (Kd.R_far (p := ⟨gb227, 1, none⟩) (Kd.R_far (p := ⟨gb227, 0, none⟩) (Kd.R_types HO_246002.out BK227.out (by decide)) (fun _ hk => hk.2) (.int .i64 t249)) (fun _ hk => hk.2) (.int .i64 t250)) (fun _ hk => hk.2) (.slice Ao66 t251.length co66)) (fun _ hk => hk.2) (.slice Ao68 t254.length co68)) (fun _ hk => hk.2) (.bool t257)) (fun _ hk => hk.2) (.bool t258)) (fun _ hk => hk.2) (.bool t259)) (fun _ hk => ⟨hk.1.1, hk.1.2⟩)⟩
         have n4_ : Aside0 (Kd.R (Kd.int .i64) 3 (((((((w63.setCell ⟨gb227, 0, none⟩ (.int .i64 t249)).setCell ⟨gb227, 1, none⟩ (.int .i64 t250)).setCell ⟨gb227, 2, none⟩ (.slice Ao66 t251.length co66)).setCell ⟨gb227, 3, none⟩ (.slice Ao68 t254.length co68)).setCell ⟨gb227, 4, none⟩ (.bool t257)).setCell ⟨gb227, 5, none⟩ (.bool t258)).setCell ⟨gb227, 6, none⟩ (.bool t259)) w.heap.size (fun k_ => some k_ ≠ (.slice Ao16 t220.length co16 : Value).ownBlock ∧ some k_ ≠ (.slice Ao23 t232.length co23 : Value).ownBlock ∧ some k_ ≠ (.slice Ao68 t254.length co68 : Value).ownBlock) (.slice Ao39 t238.length co39) t238) := ⟨by (with_reducible repeat (first | apply Kd.R_alloc | apply Kd.R_drewN | apply Kd.R_drew)); exact Kd.R_mono (Kd.R_far (p := ⟨gb227, 6, none⟩) (Kd.R_far (p := ⟨gb227, 5, none⟩) (Kd.R_far (p := ⟨gb227, 4, none⟩) (Kd.R_far (p := ⟨gb227, 3, none⟩) (Kd.R_far (p := ⟨gb227, 2, none⟩) (Kd.R_far (p := ⟨gb227, 1, none⟩) (Kd.R_far (p := ⟨gb227, 0, none⟩) (Kd.R_types HO_246003.out BK227.out (by decide)) (fun _ hk => hk.2) (.int .i64 t249)) (fun _ hk => hk.2) (.int .i64 t250)) (fun _ hk => hk.2) (.slice Ao66 t251.length co66)) (fun _ hk => hk.2) (.slice Ao68 t254.length co68)) (fun _ hk => hk.2) (.bool t257)) (fun _ hk => hk.2) (.bool t258)) (fun _ hk => hk.2) (.bool t259)) (fun _ hk => ⟨hk.1.1.1, ⟨hk.1.1.2, hk.1.2⟩⟩)⟩
         have n5_ : Aside0 (Kd.R Kd.bool 4 (((((((w63.setCell ⟨gb227, 0, none⟩ (.int .i64 t249)).setCell ⟨gb227, 1, none⟩ (.int .i64 t250)).setCell ⟨gb227, 2, none⟩ (.slice Ao66 t251.length co66)).setCell ⟨gb227, 3, none⟩ (.slice Ao68 t254.length co68)).setCell ⟨gb227, 4, none⟩ (.bool t257)).setCell ⟨gb227, 5, none⟩ (.bool t258)).setCell ⟨gb227, 6, none⟩ (.bool t259)) w.heap.size (fun k_ => some k_ ≠ (.slice Ao15 t217.length co15 : Value).ownBlock ∧ some k_ ≠ (.slice Ao38 t235.length co38 : Value).ownBlock) (.slice Ao66 t251.length co66) t251) := ⟨by (with_reducible repeat (first | apply Kd.R_alloc | apply Kd.R_drewN | apply Kd.R_drew)); exact Kd.R_mono (Kd.R_far (p := ⟨gb227, 6, none⟩) (Kd.R_far (p := ⟨gb227, 5, none⟩) (Kd.R_far (p := ⟨gb227, 4, none⟩) (Kd.R_far (p := ⟨gb227, 3, none⟩) (Kd.R_far (p := ⟨gb227, 2, none⟩) (Kd.R_far (p := ⟨gb227, 1, none⟩) (Kd.R_far (p := ⟨gb227, 0, none⟩) (Kd.R_types HO253.out BK227.out (by decide)) (fun _ hk => hk.2) (.int .i64 t249)) (fun _ hk => hk.2) (.int .i64 t250)) (fun _ hk => hk.2) (.slice Ao66 t251.length co66)) (fun _ hk => hk.2) (.slice Ao68 t254.length co68)) (fun _ hk => hk.2) (.bool t257)) (fun _ hk => hk.2) (.bool t258)) (fun _ hk => hk.2) (.bool t259)) (fun _ hk => ⟨hk.1.1.2, hk.1.2⟩)⟩
         have n6_ : Aside0 (Kd.R (Kd.int .i64) 3 (((((((w63.setCell ⟨gb227, 0, none⟩ (.int .i64 t249)).setCell ⟨gb227, 1, none⟩ (.int .i64 t250)).setCell ⟨gb227, 2, none⟩ (.slice Ao66 t251.length co66)).setCell ⟨gb227, 3, none⟩ (.slice Ao68 t254.length co68)).setCell ⟨gb227, 4, none⟩ (.bool t257)).setCell ⟨gb227, 5, none⟩ (.bool t258)).setCell ⟨gb227, 6, none⟩ (.bool t259)) w.heap.size (fun k_ => some k_ ≠ (.slice Ao16 t220.length co16 : Value).ownBlock ∧ some k_ ≠ (.slice Ao23 t232.length co23 : Value).ownBlock ∧ some k_ ≠ (.slice Ao39 t238.length co39 : Value).ownBlock) (.slice Ao68 t254.length co68) t254) := ⟨by (with_reducible repeat (first | apply Kd.R_alloc | apply Kd.R_drewN | apply Kd.R_drew)); exact Kd.R_mono (Kd.R_far (p := ⟨gb227, 6, none⟩) (Kd.R_far (p := ⟨gb227, 5, none⟩) (Kd.R_far (p := ⟨gb227, 4, none⟩) (Kd.R_far (p := ⟨gb227, 3, none⟩) (Kd.R_far (p := ⟨gb227, 2, none⟩) (Kd.R_far (p := ⟨gb227, 1, none⟩) (Kd.R_far (p := ⟨gb227, 0, none⟩) (Kd.R_types HO256.out BK227.out (by decide)) (fun _ hk => hk.2) (.int .i64 t249)) (fun _ hk => hk.2) (.int .i64 t250)) (fun _ hk => hk.2) (.slice Ao66 t251.length co66)) (fun _ hk => hk.2) (.slice Ao68 t254.length co68)) (fun _ hk => hk.2) (.bool t257)) (fun _ hk => hk.2) (.bool t258)) (fun _ hk => hk.2) (.bool t259)) (fun _ hk => ⟨hk.1.1.1.2, ⟨hk.1.1.2, hk.1.2⟩⟩)⟩
         have n7_ : Aside0 ((((((((w63.setCell ⟨gb227, 0, none⟩ (.int .i64 t249)).setCell ⟨gb227, 1, none⟩ (.int .i64 t250)).setCell ⟨gb227, 2, none⟩ (.slice Ao66 t251.length co66)).setCell ⟨gb227, 3, none⟩ (.slice Ao68 t254.length co68)).setCell ⟨gb227, 4, none⟩ (.bool t257)).setCell ⟨gb227, 5, none⟩ (.bool t258)).setCell ⟨gb227, 6, none⟩ (.bool t259)).heap[gb214]? = some (.cells #[.slice A0_0 l0_0.length c0_0, .slice A0_1 l0_1.length c0_1] 25 (0, 0))) := ⟨by (with_reducible repeat first | apply blk_drewN | apply blk_drew | apply blk_alloc); refine blk_far ?_ NB214_227.out _; (with_reducible repeat first | apply blk_drewN | apply blk_drew | apply blk_alloc); refine blk_far ?_ NB214_227.out _; (with_reducible repeat first | apply blk_drewN | apply blk_drew | apply blk_alloc); refine blk_far ?_ NB214_227.out _; (with_reducible repeat first | apply blk_drewN | apply blk_drew | apply blk_alloc); refine blk_far ?_ NB214_227.out _; (with_reducible repeat first | apply blk_drewN | apply blk_drew | apply blk_alloc); refine blk_far ?_ NB214_227.out _; (with_reducible repeat first | apply blk_drewN | apply blk_drew | apply blk_alloc); refine blk_far ?_ NB214_227.out _; (with_reducible repeat first | apply blk_drewN | apply blk_drew | apply blk_alloc); refine blk_far ?_ NB214_227.out _; (with_reducible repeat first | apply blk_drewN | apply blk_drew | apply blk_alloc); exact BK214.out⟩
         have n8_ : Aside0 ((((((((w63.setCell ⟨gb227, 0, none⟩ (.int .i64 t249)).setCell ⟨gb227, 1, none⟩ (.int .i64 t250)).setCell ⟨gb227, 2, none⟩ (.slice Ao66 t251.length co66)).setCell ⟨gb227, 3, none⟩ (.slice Ao68 t254.length co68)).setCell ⟨gb227, 4, none⟩ (.bool t257)).setCell ⟨gb227, 5, none⟩ (.bool t258)).setCell ⟨gb227, 6, none⟩ (.bool t259)).heap[gb227]? = some (.cells #[.int .i64 t249, .int .i64 t250, .slice Ao66 t251.length co66, .slice Ao68 t254.length co68, .bool t257, .bool t258, .bool t259] 28 (0, 0))) := ⟨by (with_reducible repeat first | apply blk_drewN | apply blk_drew | apply blk_alloc); refine blk_put (cs := #[.int .i64 t249, .int .i64 t250, .slice Ao66 t251.length co66, .slice Ao68 t254.length co68, .bool t257, .bool t258, .bool t225]) ?_ 6 _ rfl; (with_reducible repeat first | apply blk_drewN | apply blk_drew | apply blk_alloc); refine blk_put (cs := #[.int .i64 t249, .int .i64 t250, .slice Ao66 t251.length co66, .slice Ao68 t254.length co68, .bool t257, .bool t224, .bool t225]) ?_ 5 _ rfl; (with_reducible repeat first | apply blk_drewN | apply blk_drew | apply blk_alloc); refine blk_put (cs := #[.int .i64 t249, .int .i64 t250, .slice Ao66 t251.length co66, .slice Ao68 t254.length co68, .bool t223, .bool t224, .bool t225]) ?_ 4 _ rfl; (with_reducible repeat first | apply blk_drewN | apply blk_drew | apply blk_alloc); refine blk_put (cs := #[.int .i64 t249, .int .i64 t250, .slice Ao66 t251.length co66, .slice Ao16 t220.length co16, .bool t223, .bool t224, .bool t225]) ?_ 3 _ rfl; (with_reducible repeat first | apply blk_drewN | apply blk_drew | apply blk_alloc); refine blk_put (cs := #[.int .i64 t249, .int .i64 t250, .slice Ao15 t217.length co15, .slice Ao16 t220.length co16, .bool t223, .bool t224, .bool t225]) ?_ 2 _ rfl; (with_reducible repeat first | apply blk_drewN | apply blk_drew | apply blk_alloc); refine blk_put (cs := #[.int .i64 t249, .int .i64 t216, .slice Ao15 t217.length co15, .slice Ao16 t220.length co16, .bool t223, .bool t224, .bool t225]) ?_ 1 _ rfl; (with_reducible repeat first | apply blk_drewN | apply blk_drew | apply blk_alloc); refine blk_put (cs := #[.int .i64 t215, .int .i64 t216, .slice Ao15 t217.length co15, .slice Ao16 t220.length co16, .bool t223, .bool t224, .bool t225]) ?_ 0 _ rfl; (with_reducible repeat first | apply blk_drewN | apply blk_drew | apply blk_alloc); exact BK227.out⟩
         have n9_ : Aside0 ((((((((w63.setCell ⟨gb227, 0, none⟩ (.int .i64 t249)).setCell ⟨gb227, 1, none⟩ (.int .i64 t250)).setCell ⟨gb227, 2, none⟩ (.slice Ao66 t251.length co66)).setCell ⟨gb227, 3, none⟩ (.slice Ao68 t254.length co68)).setCell ⟨gb227, 4, none⟩ (.bool t257)).setCell ⟨gb227, 5, none⟩ (.bool t258)).setCell ⟨gb227, 6, none⟩ (.bool t259)).heap[gb231]? = some (.cells #[.slice A0_0 l0_0.length c0_0, .slice Ao23 t232.length co23] 25 (0, 0))) := ⟨by (with_reducible repeat first | apply blk_drewN | apply blk_drew | apply blk_alloc); refine blk_far ?_ NB231_227.out _; (with_reducible repeat first | apply blk_drewN | apply blk_drew | apply blk_alloc); refine blk_far ?_ NB231_227.out _; (with_reducible repeat first | apply blk_drewN | apply blk_drew | apply blk_alloc); refine blk_far ?_ NB231_227.out _; (with_reducible repeat first | apply blk_drewN | apply blk_drew | apply blk_alloc); refine blk_far ?_ NB231_227.out _; (with_reducible repeat first | apply blk_drewN | apply blk_drew | apply blk_alloc); refine blk_far ?_ NB231_227.out _; (with_reducible repeat first | apply blk_drewN | apply blk_drew | apply blk_alloc); refine blk_far ?_ NB231_227.out _; (with_reducible repeat first | apply blk_drewN | apply blk_drew | apply blk_alloc); refine blk_far ?_ NB231_227.out _; (with_reducible repeat first | apply blk_drewN | apply blk_drew | apply blk_alloc); exact BK231.out⟩
         have n10_ : Aside0 ((((((((w63.setCell ⟨gb227, 0, none⟩ (.int .i64 t249)).setCell ⟨gb227, 1, none⟩ (.int .i64 t250)).setCell ⟨gb227, 2, none⟩ (.slice Ao66 t251.length co66)).setCell ⟨gb227, 3, none⟩ (.slice Ao68 t254.length co68)).setCell ⟨gb227, 4, none⟩ (.bool t257)).setCell ⟨gb227, 5, none⟩ (.bool t258)).setCell ⟨gb227, 6, none⟩ (.bool t259)).heap[gb245]? = some (.cells #[.int .i64 t233, .int .i64 t234, .slice Ao38 t235.length co38, .slice Ao39 t238.length co39, .bool t241, .bool t242, .bool t243] 28 (0, 0))) := ⟨by (with_reducible repeat first | apply blk_drewN | apply blk_drew | apply blk_alloc); refine blk_far ?_ NB245_227.out _; (with_reducible repeat first | apply blk_drewN | apply blk_drew | apply blk_alloc); refine blk_far ?_ NB245_227.out _; (with_reducible repeat first | apply blk_drewN | apply blk_drew | apply blk_alloc); refine blk_far ?_ NB245_227.out _; (with_reducible repeat first | apply blk_drewN | apply blk_drew | apply blk_alloc); refine blk_far ?_ NB245_227.out _; (with_reducible repeat first | apply blk_drewN | apply blk_drew | apply blk_alloc); refine blk_far ?_ NB245_227.out _; (with_reducible repeat first | apply blk_drewN | apply blk_drew | apply blk_alloc); refine blk_far ?_ NB245_227.out _; (with_reducible repeat first | apply blk_drewN | apply blk_drew | apply blk_alloc); refine blk_far ?_ NB245_227.out _; (with_reducible repeat first | apply blk_drewN | apply blk_drew | apply blk_alloc); exact BK245.out⟩
         have n11_ : Aside0 (Below w.heap.size w (((((((w63.setCell ⟨gb227, 0, none⟩ (.int .i64 t249)).setCell ⟨gb227, 1, none⟩ (.int .i64 t250)).setCell ⟨gb227, 2, none⟩ (.slice Ao66 t251.length co66)).setCell ⟨gb227, 3, none⟩ (.slice Ao68 t254.length co68)).setCell ⟨gb227, 4, none⟩ (.bool t257)).setCell ⟨gb227, 5, none⟩ (.bool t258)).setCell ⟨gb227, 6, none⟩ (.bool t259))) := ⟨by repeat (first | (with_reducible first | exact HB.out | apply below_alloc | apply pw_below_drewN | apply below_drew1 | refine below_set ?_ GE214.out | refine below_set ?_ GE227.out | refine below_set ?_ GE231.out | refine below_set ?_ GE245.out) | exact HB.out)⟩
         (try clear HO_228002)
         (try clear HO_228003)
         (try clear HO_232001)
         (try clear HO_246002)
         (try clear HO_246003)
         (try clear HO253)
         (try clear HO256)
         (try clear BK214)
         (try clear BK227)
         (try clear BK231)
         (try clear BK245)
         (try clear HB)
         generalize (((((((w63.setCell ⟨gb227, 0, none⟩ (.int .i64 t249)).setCell ⟨gb227, 1, none⟩ (.int .i64 t250)).setCell ⟨gb227, 2, none⟩ (.slice Ao66 t251.length co66)).setCell ⟨gb227, 3, none⟩ (.slice Ao68 t254.length co68)).setCell ⟨gb227, 4, none⟩ (.bool t257)).setCell ⟨gb227, 5, none⟩ (.bool t258)).setCell ⟨gb227, 6, none⟩ (.bool t259)) = w73 at n0_ n1_ n2_ n3_ n4_ n5_ n6_ n7_ n8_ n9_ n10_ n11_ ⊢
         have HO_228002 := n0_
         have HO_228003 := n1_
         have HO_232001 := n2_
         have HO_246002 := n3_
         have HO_246003 := n4_
         have HO253 := n5_
         have HO256 := n6_
         have BK214 := n7_
         have BK227 := n8_
         have BK231 := n9_
         have BK245 := n10_
         have HB := n11_
         clear n0_ n1_ n2_ n3_ n4_ n5_ n6_ n7_ n8_ n9_ n10_ n11_
         have n0_ := Aside0.mk (Kd.R_drew HO_228002.out)
         have n1_ := Aside0.mk (Kd.R_drew HO_228003.out)
         have n2_ := Aside0.mk (Kd.R_drew HO_232001.out)
         have n3_ := Aside0.mk (Kd.R_drew HO_246002.out)
         have n4_ := Aside0.mk (Kd.R_drew HO_246003.out)
         have n5_ := Aside0.mk (Kd.R_drew HO253.out)
         have n6_ := Aside0.mk (Kd.R_drew HO256.out)
         have n7_ := Aside0.mk (blk_drew BK214.out)
         have n8_ := Aside0.mk (blk_drew BK227.out)
         have n9_ := Aside0.mk (blk_drew BK231.out)
         have n10_ := Aside0.mk (blk_drew BK245.out)
         have n11_ := Aside0.mk (below_drew1 HB.out)
         clear HO_228002
         clear HO_228003
         clear HO_232001
         clear HO_246002
         clear HO_246003
         clear HO253
         clear HO256
         clear BK214
         clear BK227
         clear BK231
         clear BK245
         clear HB
         have HO_228002 := n0_
         have HO_228003 := n1_
         have HO_232001 := n2_
         have HO_246002 := n3_
         have HO_246003 := n4_
         have HO253 := n5_
         have HO256 := n6_
         have BK214 := n7_
         have BK227 := n8_
         have BK231 := n9_
         have BK245 := n10_
         have HB := n11_
         clear n0_ n1_ n2_ n3_ n4_ n5_ n6_ n7_ n8_ n9_ n10_ n11_
         refine start_ (n := 12) (S := fun w' => w'.cell? ⟨gb231, 0, none⟩ = some (.slice A0_0 l0_0.length c0_0) ∧ w'.cell? ⟨gb231, 1, none⟩ = some (.slice Ao23 t232.length co23) ∧ w'.cell? ⟨gb245, 0, none⟩ = some (.int .i64 t233) ∧ w'.cell? ⟨gb245, 1, none⟩ = some (.int .i64 t234) ∧ w'.cell? ⟨gb245, 2, none⟩ = some (.slice Ao38 t235.length co38) ∧ w'.cell? ⟨gb245, 3, none⟩ = some (.slice Ao39 t238.length co39) ∧ w'.cell? ⟨gb245, 4, none⟩ = some (.bool t241) ∧ w'.cell? ⟨gb245, 5, none⟩ = some (.bool t242) ∧ w'.cell? ⟨gb245, 6, none⟩ = some (.bool t243)) (ds := [11]) #[false, false, false, false, false, false, false, false, false, false, false, false] (by kernel_rfl) rfl rfl ⟨(blk_cell BK231.out 0).trans rfl, (blk_cell BK231.out 1).trans rfl, (blk_cell BK245.out 0).trans rfl, (blk_cell BK245.out 1).trans rfl, (blk_cell BK245.out 2).trans rfl, (blk_cell BK245.out 3).trans rfl, (blk_cell BK245.out 4).trans rfl, (blk_cell BK245.out 5).trans rfl, (blk_cell BK245.out 6).trans rfl⟩ (fun hHeld => ?_); refine with_tabW atticlaw19_MarkRooms.tab10 atticlaw19_MarkRooms.bits10 (fun HT_ HW_ => ?_)
         generalize w73.drew = w74 at HO_228002 HO_228003 HO_232001 HO_246002 HO_246003 HO253 HO256 BK214 BK227 BK231 BK245 HB hHeld ⊢
         refine pure_ (i := 1) (N := some 64) (v := ?_) (a' := ?_) #[false, true, false, false, false, false, false, false, false, false, false, false] rfl rfl (any_of HT_.out (by kernel_rfl)) (fun _ _ _ h => h) (Or.inl ⟨by rfl, ?_⟩) ?_ ?_
         rotate_left
         ·intro w'
          go_simp
          with_reducible rfl
         rotate_left
         ·simp only [Act.put, List.setIfInBounds_toArray, List.set_cons_zero, List.set_cons_succ, i64_w, i32_w]
          rfl
         refine pure_ (i := 2) (N := some 65) (v := ?_) (a' := ?_) #[false, true, true, false, false, false, false, false, false, false, false, false] rfl rfl (any_of HT_.out (by kernel_rfl)) (fun _ _ _ h => h) (Or.inl ⟨by rfl, ?_⟩) ?_ ?_
         rotate_left
         ·intro w'
          go_simp
          with_reducible rfl
         rotate_left
         ·simp only [Act.put, List.setIfInBounds_toArray, List.set_cons_zero, List.set_cons_succ, i64_w, i32_w]
          rfl
         refine pure_ (i := 3) (N := some 66) (v := ?_) (a' := ?_) #[false, true, true, true, false, false, false, false, false, false, false, false] rfl rfl (any_of HT_.out (by kernel_rfl)) (fun _ _ _ h => h) (Or.inl ⟨by rfl, ?_⟩) ?_ ?_
         rotate_left
         ·intro w'
          go_simp
          with_reducible rfl
         rotate_left
         ·simp only [Act.put, List.setIfInBounds_toArray, List.set_cons_zero, List.set_cons_succ, i64_w, i32_w]
          rfl
         refine take_ (i := 0) (N := some 63) (v := ?_) (a' := ?_) #[true, true, true, true, false, false, false, false, false, false, false, false] rfl rfl (take_ofW HT_.out HW_.out (by kernel_rfl)) (fun _ _ _ h => h) (Or.inl ⟨by rfl, ?_⟩) hHeld ?_ ?_
         rotate_left
         ·rintro w' ⟨s0, s1, s2, s3, s4, s5, s6, s7, s8⟩
          go_simp
          with_reducible rfl
         rotate_left
         ·simp only [Act.put, List.setIfInBounds_toArray, List.set_cons_zero, List.set_cons_succ, i64_w, i32_w]
          rfl
         refine take_ (i := 4) (N := some 67) (v := ?_) (a' := ?_) #[true, true, true, true, true, false, false, false, false, false, false, false] rfl rfl (take_ofW HT_.out HW_.out (by kernel_rfl)) (fun _ _ _ h => h) (Or.inl ⟨by rfl, ?_⟩) hHeld ?_ ?_
         rotate_left
         ·rintro w' ⟨s0, s1, s2, s3, s4, s5, s6, s7, s8⟩
          go_simp
          with_reducible rfl
         rotate_left
         ·simp only [Act.put, List.setIfInBounds_toArray, List.set_cons_zero, List.set_cons_succ, i64_w, i32_w]
          rfl
         refine take_ (i := 5) (N := some 68) (v := ?_) (a' := ?_) #[true, true, true, true, true, true, false, false, false, false, false, false] rfl rfl (take_ofW HT_.out HW_.out (by kernel_rfl)) (fun _ _ _ h => h) (Or.inl ⟨by rfl, ?_⟩) hHeld ?_ ?_
         rotate_left
         ·rintro w' ⟨s0, s1, s2, s3, s4, s5, s6, s7, s8⟩
          go_simp
          with_reducible rfl
         rotate_left
         ·simp only [Act.put, List.setIfInBounds_toArray, List.set_cons_zero, List.set_cons_succ, i64_w, i32_w]
          rfl
         refine one_ (i := 6) (N := some 69) #[true, true, true, true, true, true, true, false, false, false, false, false] rfl rfl (one_of HT_.out (by kernel_rfl)) (by decide) (fun K hK => ?_)
         refine goes_ Try.func21 (by kernel_rfl) rfl #[.agg #[.slice A0_0 l0_0.length c0_0, .slice Ao23 t232.length co23]] (by rfl) rfl rfl (by (try simp only [List.map_toArray, List.map_cons, List.map_nil]); first | done | rfl | (simp only [List.length_drop, List.length_take]; rfl)) ?_
         with_reducible refine (mark_Bound.calls _ _ l0_0 _ _ t232 t261 _ ?side1 ?side2 ?side3 ?side4 A56.out).mono ?_
         (case side1 => repeat (first | exact (Kd.C_below HR0_0.out HB.out) | (with_reducible refine Kd.C_alloc ?_ _) | (with_reducible refine Kd.C_drewN ?_ _) | (with_reducible refine Kd.C_drew ?_)))
         (case side2 => exact HC0_0.out)
         (case side3 => repeat (first | exact (Kd.R_reads' HO_232001.out).2.2 | (with_reducible refine Kd.C_alloc ?_ _) | (with_reducible refine Kd.C_drewN ?_ _) | (with_reducible refine Kd.C_drew ?_)))
         (case side4 => exact (Kd.R_reads' HO_232001.out).2.1)
         rintro e w75 ⟨rfl, hb⟩
         refine ⟨_, rfl, ?_⟩
         have n0_ := Aside0.mk (Kd.R_below (by (with_reducible repeat (first | apply Kd.R_alloc | apply Kd.R_drewN | apply Kd.R_drew)); exact HO_228002.out) hb)
         have n1_ := Aside0.mk (Kd.R_below (by (with_reducible repeat (first | apply Kd.R_alloc | apply Kd.R_drewN | apply Kd.R_drew)); exact HO_228003.out) hb)
         have n2_ := Aside0.mk (Kd.R_below (by (with_reducible repeat (first | apply Kd.R_alloc | apply Kd.R_drewN | apply Kd.R_drew)); exact HO_232001.out) hb)
         have n3_ := Aside0.mk (Kd.R_below (by (with_reducible repeat (first | apply Kd.R_alloc | apply Kd.R_drewN | apply Kd.R_drew)); exact HO_246002.out) hb)
         have n4_ := Aside0.mk (Kd.R_below (by (with_reducible repeat (first | apply Kd.R_alloc | apply Kd.R_drewN | apply Kd.R_drew)); exact HO_246003.out) hb)
         have n5_ := Aside0.mk (Kd.R_below (by (with_reducible repeat (first | apply Kd.R_alloc | apply Kd.R_drewN | apply Kd.R_drew)); exact HO253.out) hb)
         have n6_ := Aside0.mk (Kd.R_below (by (with_reducible repeat (first | apply Kd.R_alloc | apply Kd.R_drewN | apply Kd.R_drew)); exact HO256.out) hb)
         have n7_ := Aside0.mk (blk_below (g := gb214) (o := .cells #[.slice A0_0 l0_0.length c0_0, .slice A0_1 l0_1.length c0_1] 25 (0, 0)) (by (with_reducible repeat first | apply blk_drewN | apply blk_drew | apply blk_alloc); exact BK214.out) hb)
         have n8_ := Aside0.mk (blk_below (g := gb227) (o := .cells #[.int .i64 t249, .int .i64 t250, .slice Ao66 t251.length co66, .slice Ao68 t254.length co68, .bool t257, .bool t258, .bool t259] 28 (0, 0)) (by (with_reducible repeat first | apply blk_drewN | apply blk_drew | apply blk_alloc); exact BK227.out) hb)
         have n9_ := Aside0.mk (blk_below (g := gb231) (o := .cells #[.slice A0_0 l0_0.length c0_0, .slice Ao23 t232.length co23] 25 (0, 0)) (by (with_reducible repeat first | apply blk_drewN | apply blk_drew | apply blk_alloc); exact BK231.out) hb)
         have n10_ := Aside0.mk (blk_below (g := gb245) (o := .cells #[.int .i64 t233, .int .i64 t234, .slice Ao38 t235.length co38, .slice Ao39 t238.length co39, .bool t241, .bool t242, .bool t243] 28 (0, 0)) (by (with_reducible repeat first | apply blk_drewN | apply blk_drew | apply blk_alloc); exact BK245.out) hb)
         have n11_ := Aside0.mk (below_step (by repeat (first | (with_reducible first | exact HB.out | apply below_alloc | apply pw_below_drewN | apply below_drew1 | refine below_set ?_ GE214.out | refine below_set ?_ GE227.out | refine below_set ?_ GE231.out | refine below_set ?_ GE245.out) | exact HB.out)) hb)
         clear HO_228002
         clear HO_228003
         clear HO_232001
         clear HO_246002
         clear HO_246003
         clear HO253
         clear HO256
         clear BK214
         clear BK227
         clear BK231
         clear BK245
         clear HB
         have HO_228002 := n0_
         have HO_228003 := n1_
         have HO_232001 := n2_
         have HO_246002 := n3_
         have HO_246003 := n4_
         have HO253 := n5_
         have HO256 := n6_
         have BK214 := n7_
         have BK227 := n8_
         have BK231 := n9_
         have BK245 := n10_
         have HB := n11_
         clear n0_ n1_ n2_ n3_ n4_ n5_ n6_ n7_ n8_ n9_ n10_ n11_
         (try clear hb)
         (try clear hb2)
         (try clear hk)
         (try clear hi)
         refine hK.out _ _ ⟨(blk_cell BK231.out 0).trans rfl, (blk_cell BK231.out 1).trans rfl, (blk_cell BK245.out 0).trans rfl, (blk_cell BK245.out 1).trans rfl, (blk_cell BK245.out 2).trans rfl, (blk_cell BK245.out 3).trans rfl, (blk_cell BK245.out 4).trans rfl, (blk_cell BK245.out 5).trans rfl, (blk_cell BK245.out 6).trans rfl⟩ (fun hHeld => ?_)
         clear hK K
         refine norm_ (a' := ?_) ?_ ?_
         rotate_left
         ·show Act.put _ (some 69) _ = _
          simp only [Act.put, List.setIfInBounds_toArray, List.set_cons_zero, List.set_cons_succ, i64_w, i32_w]
          rfl
         refine one_ (i := 7) (N := some 70) #[true, true, true, true, true, true, true, true, false, false, false, false] rfl rfl (one_of HT_.out (by kernel_rfl)) (by decide) (fun K hK => ?_)
         refine goes_ Try.func12 (by kernel_rfl) rfl #[.agg #[.slice A0_0 l0_0.length c0_0, .slice Ao23 t232.length co23], .int .i64 (wrap64 (1 + (wrap64 (a2)))), .agg #[.int .i64 t233, .int .i64 t234, .slice Ao38 t235.length co38, .slice Ao39 t238.length co39, .bool t241, .bool t242, .bool t243], .int .i64 t261] (by rfl) rfl rfl (by (try simp only [List.map_toArray, List.map_cons, List.map_nil]); first | done | rfl | (simp only [List.length_drop, List.length_take]; rfl)) ?_
         with_reducible refine (mark_Run.calls kj44 _ _ l0_0 _ _ t232 (wrap64 (1 + (wrap64 (a2)))) t233 t234 _ _ t235 _ _ t238 t241 t242 t243 t261 t262 t263 t264 t267 t270 t271 t272 t273 _ ?side1 ?side2 ?side3 ?side4 ?side5 ?side6 ?side7 ?side8 A57.out).mono ?_
         (case side1 => repeat (first | exact (Kd.C_below HR0_0.out HB.out) | (with_reducible refine Kd.C_alloc ?_ _) | (with_reducible refine Kd.C_drewN ?_ _) | (with_reducible refine Kd.C_drew ?_)))
         (case side2 => exact HC0_0.out)
         (case side3 => repeat (first | exact (Kd.R_reads' HO_232001.out).2.2 | (with_reducible refine Kd.C_alloc ?_ _) | (with_reducible refine Kd.C_drewN ?_ _) | (with_reducible refine Kd.C_drew ?_)))
         (case side4 => exact (Kd.R_reads' HO_232001.out).2.1)
         (case side5 => repeat (first | exact (Kd.R_reads' HO_246002.out).2.2 | (with_reducible refine Kd.C_alloc ?_ _) | (with_reducible refine Kd.C_drewN ?_ _) | (with_reducible refine Kd.C_drew ?_)))
         (case side6 => exact (Kd.R_reads' HO_246002.out).2.1)
         (case side7 => repeat (first | exact (Kd.R_reads' HO_246003.out).2.2 | (with_reducible refine Kd.C_alloc ?_ _) | (with_reducible refine Kd.C_drewN ?_ _) | (with_reducible refine Kd.C_drew ?_)))
         (case side8 => exact (Kd.R_reads' HO_246003.out).2.1)
         rintro e w76 ⟨v265, v268, rfl, ho0, ho1, hb⟩
         refine ⟨_, rfl, ?_⟩
         have n0_ := Aside0.mk (Kd.R_elder' (by (with_reducible repeat (first | apply Kd.R_alloc | apply Kd.R_drewN | apply Kd.R_drew)); exact HO_228002.out) (Kd.R_base ho0) hb)
         have n1_ := Aside0.mk (Kd.R_elder' (by (with_reducible repeat (first | apply Kd.R_alloc | apply Kd.R_drewN | apply Kd.R_drew)); exact HO_228003.out) (Kd.R_base ho1) hb)
         have n2_ := Aside0.mk (Kd.R_elder' (by (with_reducible repeat (first | apply Kd.R_alloc | apply Kd.R_drewN | apply Kd.R_drew)); exact HO_232001.out) (Kd.R_base ho1) hb)
         have n3_ := Aside0.mk (Kd.R_elder' (by (with_reducible repeat (first | apply Kd.R_alloc | apply Kd.R_drewN | apply Kd.R_drew)); exact HO_246002.out) (Kd.R_base ho0) hb)
         have n4_ := Aside0.mk (Kd.R_elder' (by (with_reducible repeat (first | apply Kd.R_alloc | apply Kd.R_drewN | apply Kd.R_drew)); exact HO_246003.out) (Kd.R_base ho1) hb)
         have n5_ := Aside0.mk (Kd.R_elder' (by (with_reducible repeat (first | apply Kd.R_alloc | apply Kd.R_drewN | apply Kd.R_drew)); exact HO253.out) (Kd.R_base ho0) hb)
         have n6_ := Aside0.mk (Kd.R_elder' (by (with_reducible repeat (first | apply Kd.R_alloc | apply Kd.R_drewN | apply Kd.R_drew)); exact HO256.out) (Kd.R_base ho1) hb)
         have n7_ := Aside0.mk (Kd.R_lower (Kd.R_new' (Kd.R_new' (Kd.R_new' ho0 (Kd.R_lt (by (with_reducible repeat (first | apply Kd.R_alloc | apply Kd.R_drewN | apply Kd.R_drew)); exact HO_228002.out))) (Kd.R_lt (by (with_reducible repeat (first | apply Kd.R_alloc | apply Kd.R_drewN | apply Kd.R_drew)); exact HO_246002.out))) (Kd.R_lt (by (with_reducible repeat (first | apply Kd.R_alloc | apply Kd.R_drewN | apply Kd.R_drew)); exact HO253.out))) (below_size (by repeat (first | (with_reducible first | exact HB.out | apply below_alloc | apply pw_below_drewN | apply below_drew1 | refine below_set ?_ GE214.out | refine below_set ?_ GE227.out | refine below_set ?_ GE231.out | refine below_set ?_ GE245.out) | exact HB.out))))
         have n8_ := Aside0.mk (Kd.R_lower (Kd.R_new' (Kd.R_new' (Kd.R_new' (Kd.R_new' ho1 (Kd.R_lt (by (with_reducible repeat (first | apply Kd.R_alloc | apply Kd.R_drewN | apply Kd.R_drew)); exact HO_228003.out))) (Kd.R_lt (by (with_reducible repeat (first | apply Kd.R_alloc | apply Kd.R_drewN | apply Kd.R_drew)); exact HO_232001.out))) (Kd.R_lt (by (with_reducible repeat (first | apply Kd.R_alloc | apply Kd.R_drewN | apply Kd.R_drew)); exact HO_246003.out))) (Kd.R_lt (by (with_reducible repeat (first | apply Kd.R_alloc | apply Kd.R_drewN | apply Kd.R_drew)); exact HO256.out))) (below_size (by repeat (first | (with_reducible first | exact HB.out | apply below_alloc | apply pw_below_drewN | apply below_drew1 | refine below_set ?_ GE214.out | refine below_set ?_ GE227.out | refine below_set ?_ GE231.out | refine below_set ?_ GE245.out) | exact HB.out))))
         have n9_ := Aside0.mk (blk_below (g := gb214) (o := .cells #[.slice A0_0 l0_0.length c0_0, .slice A0_1 l0_1.length c0_1] 25 (0, 0)) (by (with_reducible repeat first | apply blk_drewN | apply blk_drew | apply blk_alloc); exact BK214.out) hb)
         have n10_ := Aside0.mk (blk_below (g := gb227) (o := .cells #[.int .i64 t249, .int .i64 t250, .slice Ao66 t251.length co66, .slice Ao68 t254.length co68, .bool t257, .bool t258, .bool t259] 28 (0, 0)) (by (with_reducible repeat first | apply blk_drewN | apply blk_drew | apply blk_alloc); exact BK227.out) hb)
         have n11_ := Aside0.mk (blk_below (g := gb231) (o := .cells #[.slice A0_0 l0_0.length c0_0, .slice Ao23 t232.length co23] 25 (0, 0)) (by (with_reducible repeat first | apply blk_drewN | apply blk_drew | apply blk_alloc); exact BK231.out) hb)
         have n12_ := Aside0.mk (blk_below (g := gb245) (o := .cells #[.int .i64 t233, .int .i64 t234, .slice Ao38 t235.length co38, .slice Ao39 t238.length co39, .bool t241, .bool t242, .bool t243] 28 (0, 0)) (by (with_reducible repeat first | apply blk_drewN | apply blk_drew | apply blk_alloc); exact BK245.out) hb)
         have n13_ := Aside0.mk (below_step (by repeat (first | (with_reducible first | exact HB.out | apply below_alloc | apply pw_below_drewN | apply below_drew1 | refine below_set ?_ GE214.out | refine below_set ?_ GE227.out | refine below_set ?_ GE231.out | refine below_set ?_ GE245.out) | exact HB.out)) hb)
         clear HO_228002
         clear HO_228003
         clear HO_232001
         clear HO_246002
         clear HO_246003
         clear HO253
         clear HO256
         clear BK214
         clear BK227
         clear BK231
         clear BK245
         clear HB
         have HO_228002 := n0_
         have HO_228003 := n1_
         have HO_232001 := n2_
         have HO_246002 := n3_
         have HO_246003 := n4_
         have HO253 := n5_
         have HO256 := n6_
         have HO266 := n7_
         have HO269 := n8_
         have BK214 := n9_
         have BK227 := n10_
         have BK231 := n11_
         have BK245 := n12_
         have HB := n13_
         clear n0_ n1_ n2_ n3_ n4_ n5_ n6_ n7_ n8_ n9_ n10_ n11_ n12_ n13_
         (try clear hb)
         (try clear hb2)
         (try clear hk)
         (try clear hi)
         (try clear ho0)
         (try clear ho1)
         obtain ⟨Ao79, co79, eo79⟩ := Kd.R_slice HO266.out
         (first | subst eo79 | (injection eo79 with f1_ f2_ f3_; have f4_ := f1_.symm; have f5_ := f3_.symm; clear f1_ f2_ f3_; subst f4_; subst f5_))
         obtain ⟨Ao81, co81, eo81⟩ := Kd.R_slice HO269.out
         (first | subst eo81 | (injection eo81 with f1_ f2_ f3_; have f4_ := f1_.symm; have f5_ := f3_.symm; clear f1_ f2_ f3_; subst f4_; subst f5_))
         refine hK.out _ _ ⟨(blk_cell BK231.out 0).trans rfl, (blk_cell BK231.out 1).trans rfl, (blk_cell BK245.out 0).trans rfl, (blk_cell BK245.out 1).trans rfl, (blk_cell BK245.out 2).trans rfl, (blk_cell BK245.out 3).trans rfl, (blk_cell BK245.out 4).trans rfl, (blk_cell BK245.out 5).trans rfl, (blk_cell BK245.out 6).trans rfl⟩ (fun hHeld => ?_)
         clear hK K
         refine norm_ (a' := ?_) ?_ ?_
         rotate_left
         ·show Act.put _ (some 70) _ = _
          simp only [Act.put, List.setIfInBounds_toArray, List.set_cons_zero, List.set_cons_succ, i64_w, i32_w]
          rfl
         refine pure_ (i := 8) (N := some 62) (v := ?_) (a' := ?_) #[true, true, true, true, true, true, true, true, true, false, false, false] rfl rfl (any_of HT_.out (by kernel_rfl)) (fun _ _ _ h => h) (Or.inl ⟨by rfl, ?_⟩) ?_ ?_
         rotate_left
         ·intro w'
          go_simp
          with_reducible rfl
         rotate_left
         ·simp only [Act.put, List.setIfInBounds_toArray, List.set_cons_zero, List.set_cons_succ, i64_w, i32_w]
          rfl
         refine pure_ (i := 9) (N := some 71) (v := ?_) (a' := ?_) #[true, true, true, true, true, true, true, true, true, true, false, false] rfl rfl (any_of HT_.out (by kernel_rfl)) (fun _ _ _ h => h) (Or.inl ⟨by rfl, ?_⟩) ?_ ?_
         rotate_left
         ·intro w'
          go_simp
          with_reducible rfl
         rotate_left
         ·simp only [Act.put, List.setIfInBounds_toArray, List.set_cons_zero, List.set_cons_succ, i64_w, i32_w]
          rfl
         refine pure_ (i := 10) (N := some 72) (v := ?_) (a' := ?_) #[true, true, true, true, true, true, true, true, true, true, true, false] rfl rfl (any_of HT_.out (by kernel_rfl)) (fun _ _ _ h => h) (Or.inl ⟨by rfl, ?_⟩) ?_ ?_
         rotate_left
         ·intro w'
          go_simp
          with_reducible rfl
         rotate_left
         ·simp only [Act.put, List.setIfInBounds_toArray, List.set_cons_zero, List.set_cons_succ, i64_w, i32_w]
          rfl
         refine last_ (i := 11) (N := none) #[true, true, true, true, true, true, true, true, true, true, true, true] rfl rfl (one_of HT_.out (by kernel_rfl)) (by decide) (fun K hK => ?_)
         have hs77 : w76.cell? ⟨gb245, 0, none⟩ = some (.int .i64 t233) := (blk_cell BK245.out 0).trans rfl
         have hfs77 := blk_frozen BK245.out 0
         have hns77_0 := NB214_245.out
         have hns77_1 := NB227_245.out
         have hns77_2 := NB231_245.out
         have hms77_0 := NB245_214.out
         have hms77_1 := NB245_227.out
         have hms77_2 := NB245_231.out
         have hs78 : w76.cell? ⟨gb245, 1, none⟩ = some (.int .i64 t234) := (blk_cell BK245.out 1).trans rfl
         have hfs78 := blk_frozen BK245.out 1
         have hns78_0 := NB214_245.out
         have hns78_1 := NB227_245.out
         have hns78_2 := NB231_245.out
         have hms78_0 := NB245_214.out
         have hms78_1 := NB245_227.out
         have hms78_2 := NB245_231.out
         have hs80 : w76.cell? ⟨gb245, 2, none⟩ = some (.slice Ao38 t235.length co38) := (blk_cell BK245.out 2).trans rfl
         have hfs80 := blk_frozen BK245.out 2
         have hns80_0 := NB214_245.out
         have hns80_1 := NB227_245.out
         have hns80_2 := NB231_245.out
         have hms80_0 := NB245_214.out
         have hms80_1 := NB245_227.out
         have hms80_2 := NB245_231.out
         have hs82 : w76.cell? ⟨gb245, 3, none⟩ = some (.slice Ao39 t238.length co39) := (blk_cell BK245.out 3).trans rfl
         have hfs82 := blk_frozen BK245.out 3
         have hns82_0 := NB214_245.out
         have hns82_1 := NB227_245.out
         have hns82_2 := NB231_245.out
         have hms82_0 := NB245_214.out
         have hms82_1 := NB245_227.out
         have hms82_2 := NB245_231.out
         have hs83 : w76.cell? ⟨gb245, 4, none⟩ = some (.bool t241) := (blk_cell BK245.out 4).trans rfl
         have hfs83 := blk_frozen BK245.out 4
         have hns83_0 := NB214_245.out
         have hns83_1 := NB227_245.out
         have hns83_2 := NB231_245.out
         have hms83_0 := NB245_214.out
         have hms83_1 := NB245_227.out
         have hms83_2 := NB245_231.out
         have hs84 : w76.cell? ⟨gb245, 5, none⟩ = some (.bool t242) := (blk_cell BK245.out 5).trans rfl
         have hfs84 := blk_frozen BK245.out 5
         have hns84_0 := NB214_245.out
         have hns84_1 := NB227_245.out
         have hns84_2 := NB231_245.out
         have hms84_0 := NB245_214.out
         have hms84_1 := NB245_227.out
         have hms84_2 := NB245_231.out
         have hs85 : w76.cell? ⟨gb245, 6, none⟩ = some (.bool t243) := (blk_cell BK245.out 6).trans rfl
         have hfs85 := blk_frozen BK245.out 6
         have hns85_0 := NB214_245.out
         have hns85_1 := NB227_245.out
         have hns85_2 := NB231_245.out
         have hms85_0 := NB245_214.out
         have hms85_1 := NB245_227.out
         have hms85_2 := NB245_231.out
         refine skip_ (w1 := ?_) (by rfl) rfl ?_ ?_
         rotate_left
         ·go_simp
          rfl
         refine hK.out _ _ ?_
         clear hK K
         refine done_ (done_of HT_.out (by kernel_rfl)) ?_
         have hnb86 := NB227_214.out
         have hnc86 := NB214_227.out
         have hnb87 := NB227_231.out
         have hnc87 := NB231_227.out
         have hnb88 := NB227_245.out
         have hnc88 := NB245_227.out
         have hcz89_0 : w76.cell? ⟨gb227, 0, none⟩ = some (.int .i64 t249) := (blk_cell BK227.out 0).trans rfl
         have hcz89_1 : w76.cell? ⟨gb227, 1, none⟩ = some (.int .i64 t250) := (blk_cell BK227.out 1).trans rfl
         have hcz89_2 : w76.cell? ⟨gb227, 2, none⟩ = some (.slice Ao66 t251.length co66) := (blk_cell BK227.out 2).trans rfl
         have hcz89_3 : w76.cell? ⟨gb227, 3, none⟩ = some (.slice Ao68 t254.length co68) := (blk_cell BK227.out 3).trans rfl
         have hcz89_4 : w76.cell? ⟨gb227, 4, none⟩ = some (.bool t257) := (blk_cell BK227.out 4).trans rfl
         have hcz89_5 : w76.cell? ⟨gb227, 5, none⟩ = some (.bool t258) := (blk_cell BK227.out 5).trans rfl
         have hcz89_6 : w76.cell? ⟨gb227, 6, none⟩ = some (.bool t259) := (blk_cell BK227.out 6).trans rfl
         have hfz89_0 := blk_frozen BK227.out 0
         have hfz89_1 := blk_frozen BK227.out 1
         have hfz89_2 := blk_frozen BK227.out 2
         have hfz89_3 := blk_frozen BK227.out 3
         have hfz89_4 := blk_frozen BK227.out 4
         have hfz89_5 := blk_frozen BK227.out 5
         have hfz89_6 := blk_frozen BK227.out 6
         have hnb90 := NB245_214.out
         have hnc90 := NB214_245.out
         have hnb91 := NB245_231.out
         have hnc91 := NB231_245.out
         have hcz92_0 : w76.cell? ⟨gb245, 0, none⟩ = some (.int .i64 t233) := (blk_cell BK245.out 0).trans rfl
         have hcz92_1 : w76.cell? ⟨gb245, 1, none⟩ = some (.int .i64 t234) := (blk_cell BK245.out 1).trans rfl
         have hcz92_2 : w76.cell? ⟨gb245, 2, none⟩ = some (.slice Ao38 t235.length co38) := (blk_cell BK245.out 2).trans rfl
         have hcz92_3 : w76.cell? ⟨gb245, 3, none⟩ = some (.slice Ao39 t238.length co39) := (blk_cell BK245.out 3).trans rfl
         have hcz92_4 : w76.cell? ⟨gb245, 4, none⟩ = some (.bool t241) := (blk_cell BK245.out 4).trans rfl
         have hcz92_5 : w76.cell? ⟨gb245, 5, none⟩ = some (.bool t242) := (blk_cell BK245.out 5).trans rfl
         have hcz92_6 : w76.cell? ⟨gb245, 6, none⟩ = some (.bool t243) := (blk_cell BK245.out 6).trans rfl
         have hfz92_0 := blk_frozen BK245.out 0
         have hfz92_1 := blk_frozen BK245.out 1
         have hfz92_2 := blk_frozen BK245.out 2
         have hfz92_3 := blk_frozen BK245.out 3
         have hfz92_4 := blk_frozen BK245.out 4
         have hfz92_5 := blk_frozen BK245.out 5
         have hfz92_6 := blk_frozen BK245.out 6
         try go_wp2_with (first | (go_at_call 31; (with_reducible refine (slices_Equal_bool_bool.calls kj44 _ _ t251 _ _ t264 t274 _ ?side1 ?side2 ?side3 ?side4 A60.out).mono ?_); (case side1 => refine (Kd.R_reads' (e := 4) (base := w.heap.size) (ok := fun k_ => ((some k_ ≠ (.slice Ao15 t217.length co15 : Value).ownBlock ∧ some k_ ≠ (.slice Ao38 t235.length co38 : Value).ownBlock) ∧ some k_ ≠ (.slice Ao79 t264.length co79 : Value).ownBlock)) (n := t251.length) (c := co66) ?_).2.2; exact (by (with_reducible repeat (first | apply Kd.R_alloc | apply Kd.R_drewN | apply Kd.R_drew)); exact (Kd.R_mono (Kd.R_far (p := ⟨gb245, 6, none⟩) (Kd.R_far (p := ⟨gb245, 5, none⟩) (Kd.R_far (p := ⟨gb245, 4, none⟩) (Kd.R_far (p := ⟨gb245, 3, none⟩) (Kd.R_far (p := ⟨gb245, 2, none⟩) (Kd.R_far (p := ⟨gb245, 1, none⟩) (Kd.R_far (p := ⟨gb245, 0, none⟩) (Kd.R_types HO253.out BK245.out (by decide)) (fun _ hk => hk.2) (.int .i64 t262)) (fun _ hk => hk.2) (.int .i64 t263)) (fun _ hk => hk.2) (.slice Ao79 t264.length co79)) (fun _ hk => hk.2) (.slice Ao81 t267.length co81)) (fun _ hk => hk.2) (.bool t270)) (fun _ hk => hk.2) (.bool t271)) (fun _ hk => hk.2) (.bool t272)) (fun _ h_ => h_.1)))); (case side2 => exact (Kd.R_reads' HO253.out).2.1); (case side3 => refine (Kd.R_reads' (e := 4) (base := w.heap.size) (ok := fun k_ => (((True ∧ some k_ ≠ (.slice Ao15 t217.length co15 : Value).ownBlock) ∧ some k_ ≠ (.slice Ao38 t235.length co38 : Value).ownBlock) ∧ some k_ ≠ (.slice Ao66 t251.length co66 : Value).ownBlock)) (n := t264.length) (c := co79) ?_).2.2; exact (by (with_reducible repeat (first | apply Kd.R_alloc | apply Kd.R_drewN | apply Kd.R_drew)); exact (Kd.R_mono (Kd.R_far (p := ⟨gb245, 6, none⟩) (Kd.R_far (p := ⟨gb245, 5, none⟩) (Kd.R_far (p := ⟨gb245, 4, none⟩) (Kd.R_far (p := ⟨gb245, 3, none⟩) (Kd.R_far (p := ⟨gb245, 2, none⟩) (Kd.R_far (p := ⟨gb245, 1, none⟩) (Kd.R_far (p := ⟨gb245, 0, none⟩) (Kd.R_types HO266.out BK245.out (by decide)) (fun _ hk => hk.2) (.int .i64 t262)) (fun _ hk => hk.2) (.int .i64 t263)) (fun _ hk => hk.2) (.slice Ao79 t264.length co79)) (fun _ hk => hk.2) (.slice Ao81 t267.length co81)) (fun _ hk => hk.2) (.bool t270)) (fun _ hk => hk.2) (.bool t271)) (fun _ hk => hk.2) (.bool t272)) (fun _ h_ => h_.1)))); (case side4 => exact (Kd.R_reads' HO266.out).2.1); rintro e w' ⟨rfl, ⟨nd, rfl⟩⟩))
         go_ret
         exact ⟨by first | rfl | (simp [errW_none, errW_some] <;> rfl) | (simp [*, errW_none, errW_some] <;> rfl) | (simp [Int.tdiv_eq_ediv_of_nonneg]; done), by repeat (first | (with_reducible first | exact HB.out | apply below_alloc | apply pw_below_drewN | apply below_drew1 | refine below_set ?_ GE214.out | refine below_set ?_ GE227.out | refine below_set ?_ GE231.out | refine below_set ?_ GE245.out) | exact HB.out)⟩
        ·rw [if_neg c59] at H
         have c59b0 : (t262 == 3) = false := beq_eq_false_iff_ne.mpr c59
         have c59b1 : (t262 != 3) = true := bne_iff_ne.mpr c59
         exact absurd (Option.some.inj H) (by rw [hrt_.out]; decide)
       ·rw [if_neg c58] at H
        have c58b0 : (t249 == 3) = false := beq_eq_false_iff_ne.mpr c58
        have c58b1 : (t249 != 3) = true := bne_iff_ne.mpr c58
        exact absurd (Option.some.inj H) (by rw [hrt_.out]; decide)

/-- THE ONE PURE STATEMENT of atticlaw19_MarkRooms. -/
def atticlaw19_MarkRooms.Pure : Prop := ∀ (x0 : S25) (x1 : Int) (x2 : Int), G25 x0 → (Lit.int .u8 x1).wf = true → (Lit.int .u8 x2).wf = true → ∃ k, atticlaw19_MarkRooms.f k x0.f0 x0.f1 x1 x2 = some true
/-- The same, of inputs of a bulk that the second form allows. -/
def atticlaw19_MarkRooms.UptoPure : Prop := ∀ (x0 : S25) (x1 : Int) (x2 : Int), G25 x0 → (Lit.int .u8 x1).wf = true → (Lit.int .u8 x2).wf = true → mu25 x0 + (1 + (1)) ≤ 1048576 → ∃ k, atticlaw19_MarkRooms.f k x0.f0 x0.f1 x1 x2 = some true

end Go.Proofs.Ytnmpmjbkelogaaa.Print
