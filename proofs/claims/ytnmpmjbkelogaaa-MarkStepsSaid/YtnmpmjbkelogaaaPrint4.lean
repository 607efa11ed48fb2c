-- Written by a program of this session (wip/xprint.py, by way of the print): Lean functions and proofs that the Go functions come to them.
import Derived.Test.YtnmpmjbkelogaaaPrint0
import Derived.Test.YtnmpmjbkelogaaaPrint3
namespace Go.Proofs.Ytnmpmjbkelogaaa.Print
open Go.RowKit Go.Proofs.YtnmpmjbkelogaaaW.PrintWords Go.Proofs.YtnmpmjbkelogaaaW.PrintLast Go.Proofs.YtnmpmjbkelogaaaW.PrintMore
attribute [local go_sem] max2_int min2_int max_two min_two max_three min_three max_four min_four   -- for this text's walks alone
set_option linter.unusedVariables false
set_option linter.unusedSimpArgs false
/-! ### atticref19_Check: function 19 -/
mutual
def atticref19_Check.j0 : Nat → Int → Int → List (S56) → List Int → Int → Int → List Bool → List Int → Bool → Bool → Bool → Option (Int)
 | 0, _, _, _, _, _, _, _, _, _, _, _ => none
 | k + 1, x1, x9, x223000, x223001, x224000, x224001, x224002, x224003, x224004, x224005, x224006 => if x224000 < 0 then (atticref19_Check.j1 k true x223000 x223001 x224000 x224001 x224002 x224003 x224004 x224005 x224006) else (if x224000 > 3 then (atticref19_Check.j1 k true x223000 x223001 x224000 x224001 x224002 x224003 x224004 x224005 x224006) else (if x224001 < 0 then (atticref19_Check.j1 k true x223000 x223001 x224000 x224001 x224002 x224003 x224004 x224005 x224006) else (if x224001 > x9 then (atticref19_Check.j1 k true x223000 x223001 x224000 x224001 x224002 x224003 x224004 x224005 x224006) else (if (x224002.length : Int) = (x223000.length : Int) then (if (x224003.length : Int) > x1 then (atticref19_Check.j1 k true x223000 x223001 x224000 x224001 x224002 x224003 x224004 x224005 x224006) else (if x224006 = true then (if x224000 = 1 then (if x224000 ≥ 2 then (atticref19_Check.j1 k (decide ((x224003.length : Int) > 0)) x223000 x223001 x224000 x224001 x224002 x224003 x224004 x224005 x224006) else (atticref19_Check.j1 k false x223000 x223001 x224000 x224001 x224002 x224003 x224004 x224005 x224006)) else (atticref19_Check.j1 k true x223000 x223001 x224000 x224001 x224002 x224003 x224004 x224005 x224006)) else (if x224000 ≥ 2 then (atticref19_Check.j1 k (decide ((x224003.length : Int) > 0)) x223000 x223001 x224000 x224001 x224002 x224003 x224004 x224005 x224006) else (atticref19_Check.j1 k false x223000 x223001 x224000 x224001 x224002 x224003 x224004 x224005 x224006)))) else (atticref19_Check.j1 k true x223000 x223001 x224000 x224001 x224002 x224003 x224004 x224005 x224006)))))
def atticref19_Check.j1 : Nat → Bool → List (S56) → List Int → Int → Int → List Bool → List Int → Bool → Bool → Bool → Option (Int)
 | 0, _, _, _, _, _, _, _, _, _, _ => none
 | k + 1, x98, x223000, x223001, x224000, x224001, x224002, x224003, x224004, x224005, x224006 => if x98 = true then (some 191) else (atticref19_Check.l0 k 0 x223000 x223001 x224000 x224001 x224002 x224003 x224004 x224005 x224006)
def atticref19_Check.l0 : Nat → Int → List (S56) → List Int → Int → Int → List Bool → List Int → Bool → Bool → Bool → Option (Int)
 | 0, _, _, _, _, _, _, _, _, _, _ => none
 | k + 1, x10, x223000, x223001, x224000, x224001, x224002, x224003, x224004, x224005, x224006 => if x10 < (x224002.length : Int) then (if 0 ≤ x10 then (if rdOf false x224002 x10 = true then (if x10 < (x223000.length : Int) then (if ((rd_T56 x223000 x10).f0) = 0 then (some 191) else (atticref19_Check.l0 k (wrap64 (x10 + 1)) x223000 x223001 x224000 x224001 x224002 x224003 x224004 x224005 x224006)) else (none)) else (atticref19_Check.l0 k (wrap64 (x10 + 1)) x223000 x223001 x224000 x224001 x224002 x224003 x224004 x224005 x224006)) else (none)) else (atticref19_Check.l1 k 0 x223000 x223001 x224000 x224001 x224002 x224003 x224004 x224005 x224006)
def atticref19_Check.l1 : Nat → Int → List (S56) → List Int → Int → Int → List Bool → List Int → Bool → Bool → Bool → Option (Int)
 | 0, _, _, _, _, _, _, _, _, _, _ => none
 | k + 1, x11, x223000, x223001, x224000, x224001, x224002, x224003, x224004, x224005, x224006 => if x11 < (x224003.length : Int) then (if 0 ≤ x11 then ((atticref19_cell.f x223000 x223001 (rd x224003 x11)).bind fun t240 => (if t240 = true then (if 0 ≤ (rd x224003 x11) then (if (rd x224003 x11) < (x224002.length : Int) then (if (rdOf false x224002 (rd x224003 x11) = true) then (if x11 ≤ (x224003.length : Int) then ((atticref19_has.f k (x224003.take (x11 : Int).toNat) (rd x224003 x11)).bind fun t245 => (if t245 = true then (some 191) else (atticref19_Check.l1 k (wrap64 (x11 + 1)) x223000 x223001 x224000 x224001 x224002 x224003 x224004 x224005 x224006))) else (none)) else (some 191)) else (none)) else (none)) else (some 191))) else (none)) else (some 0)
end
def atticref19_Check.f (k : Nat) (l0_0 : List (S56)) (l0_1 : List Int) (a1 : Int) (a2_0 : Int) (a2_1 : Int) (l2_2 : List Bool) (l2_3 : List Int) (a2_4 : Bool) (a2_5 : Bool) (a2_6 : Bool) : Option (Int) := (atticref19_New.f k l0_0 l0_1 a1).bind fun bt224 => (if bt224.2.2.2.2.2.2.2 = 0 then (if a2_0 = 0 then (atticref19_Check.j0 k a1 (l0_1.length : Int) l0_0 l0_1 a2_0 a2_1 l2_2 l2_3 a2_4 a2_5 a2_6) else (if a2_0 = 2 then (atticref19_Check.j0 k a1 (l0_0.length : Int) l0_0 l0_1 a2_0 a2_1 l2_2 l2_3 a2_4 a2_5 a2_6) else (if a2_0 = 1 then (if a2_6 = true then (atticref19_Check.j0 k a1 (l0_0.length : Int) l0_0 l0_1 a2_0 a2_1 l2_2 l2_3 a2_4 a2_5 a2_6) else (atticref19_Check.j0 k a1 0 l0_0 l0_1 a2_0 a2_1 l2_2 l2_3 a2_4 a2_5 a2_6)) else (atticref19_Check.j0 k a1 0 l0_0 l0_1 a2_0 a2_1 l2_2 l2_3 a2_4 a2_5 a2_6)))) else (some bt224.2.2.2.2.2.2.2))
theorem atticref19_Check.mono_l : ∀ k, (∀ y0 y1 y2 y3 y4 y5 y6 y7 y8 y9 y10, LeO (atticref19_Check.j0 k y0 y1 y2 y3 y4 y5 y6 y7 y8 y9 y10) (atticref19_Check.j0 (k + 1) y0 y1 y2 y3 y4 y5 y6 y7 y8 y9 y10)) ∧ (∀ y0 y1 y2 y3 y4 y5 y6 y7 y8 y9, LeO (atticref19_Check.j1 k y0 y1 y2 y3 y4 y5 y6 y7 y8 y9) (atticref19_Check.j1 (k + 1) y0 y1 y2 y3 y4 y5 y6 y7 y8 y9)) ∧ (∀ y0 y1 y2 y3 y4 y5 y6 y7 y8 y9, LeO (atticref19_Check.l0 k y0 y1 y2 y3 y4 y5 y6 y7 y8 y9) (atticref19_Check.l0 (k + 1) y0 y1 y2 y3 y4 y5 y6 y7 y8 y9)) ∧ (∀ y0 y1 y2 y3 y4 y5 y6 y7 y8 y9, LeO (atticref19_Check.l1 k y0 y1 y2 y3 y4 y5 y6 y7 y8 y9) (atticref19_Check.l1 (k + 1) y0 y1 y2 y3 y4 y5 y6 y7 y8 y9))
 | 0 => ⟨fun _ _ _ _ _ _ _ _ _ _ _ r h => by simp [atticref19_Check.j0] at h, fun _ _ _ _ _ _ _ _ _ _ r h => by simp [atticref19_Check.j1] at h, fun _ _ _ _ _ _ _ _ _ _ r h => by simp [atticref19_Check.l0] at h, fun _ _ _ _ _ _ _ _ _ _ r h => by simp [atticref19_Check.l1] at h⟩
 | k + 1 => by
  obtain ⟨ih0, ih1, ih2, ih3⟩ := atticref19_Check.mono_l k
  refine ⟨?_, ?_, ?_, ?_⟩
  ·intro y0 y1 y2 y3 y4 y5 y6 y7 y8 y9 y10
   unfold atticref19_Check.j0
   repeat' first | (with_reducible first | exact ih0 _ _ _ _ _ _ _ _ _ _ _ | exact ih1 _ _ _ _ _ _ _ _ _ _ | exact ih2 _ _ _ _ _ _ _ _ _ _ | exact ih3 _ _ _ _ _ _ _ _ _ _ | exact atticref19_New.mono _ _ _ _ | exact atticref19_has.mono _ _ _ | exact LeO.refl _ | exact LeO.none _ | refine LeO.ite ?_ ?_ | refine LeO.bind ?_ (fun _ => ?_)) | exact ih0 _ _ _ _ _ _ _ _ _ _ _ | exact ih1 _ _ _ _ _ _ _ _ _ _ | exact ih2 _ _ _ _ _ _ _ _ _ _ | exact ih3 _ _ _ _ _ _ _ _ _ _ | exact atticref19_New.mono _ _ _ _ | exact atticref19_has.mono _ _ _ | exact LeO.none _ | refine LeO.ite ?_ ?_ | refine LeO.bind ?_ (fun _ => ?_)
  ·intro y0 y1 y2 y3 y4 y5 y6 y7 y8 y9
   unfold atticref19_Check.j1
   repeat' first | (with_reducible first | exact ih0 _ _ _ _ _ _ _ _ _ _ _ | exact ih1 _ _ _ _ _ _ _ _ _ _ | exact ih2 _ _ _ _ _ _ _ _ _ _ | exact ih3 _ _ _ _ _ _ _ _ _ _ | exact atticref19_New.mono _ _ _ _ | exact atticref19_has.mono _ _ _ | exact LeO.refl _ | exact LeO.none _ | refine LeO.ite ?_ ?_ | refine LeO.bind ?_ (fun _ => ?_)) | exact ih0 _ _ _ _ _ _ _ _ _ _ _ | exact ih1 _ _ _ _ _ _ _ _ _ _ | exact ih2 _ _ _ _ _ _ _ _ _ _ | exact ih3 _ _ _ _ _ _ _ _ _ _ | exact atticref19_New.mono _ _ _ _ | exact atticref19_has.mono _ _ _ | exact LeO.none _ | refine LeO.ite ?_ ?_ | refine LeO.bind ?_ (fun _ => ?_)
  ·intro y0 y1 y2 y3 y4 y5 y6 y7 y8 y9
   unfold atticref19_Check.l0
   repeat' first | (with_reducible first | exact ih0 _ _ _ _ _ _ _ _ _ _ _ | exact ih1 _ _ _ _ _ _ _ _ _ _ | exact ih2 _ _ _ _ _ _ _ _ _ _ | exact ih3 _ _ _ _ _ _ _ _ _ _ | exact atticref19_New.mono _ _ _ _ | exact atticref19_has.mono _ _ _ | exact LeO.refl _ | exact LeO.none _ | refine LeO.ite ?_ ?_ | refine LeO.bind ?_ (fun _ => ?_)) | exact ih0 _ _ _ _ _ _ _ _ _ _ _ | exact ih1 _ _ _ _ _ _ _ _ _ _ | exact ih2 _ _ _ _ _ _ _ _ _ _ | exact ih3 _ _ _ _ _ _ _ _ _ _ | exact atticref19_New.mono _ _ _ _ | exact atticref19_has.mono _ _ _ | exact LeO.none _ | refine LeO.ite ?_ ?_ | refine LeO.bind ?_ (fun _ => ?_)
  ·intro y0 y1 y2 y3 y4 y5 y6 y7 y8 y9
   unfold atticref19_Check.l1
   repeat' first | (with_reducible first | exact ih0 _ _ _ _ _ _ _ _ _ _ _ | exact ih1 _ _ _ _ _ _ _ _ _ _ | exact ih2 _ _ _ _ _ _ _ _ _ _ | exact ih3 _ _ _ _ _ _ _ _ _ _ | exact atticref19_New.mono _ _ _ _ | exact atticref19_has.mono _ _ _ | exact LeO.refl _ | exact LeO.none _ | refine LeO.ite ?_ ?_ | refine LeO.bind ?_ (fun _ => ?_)) | exact ih0 _ _ _ _ _ _ _ _ _ _ _ | exact ih1 _ _ _ _ _ _ _ _ _ _ | exact ih2 _ _ _ _ _ _ _ _ _ _ | exact ih3 _ _ _ _ _ _ _ _ _ _ | exact atticref19_New.mono _ _ _ _ | exact atticref19_has.mono _ _ _ | exact LeO.none _ | refine LeO.ite ?_ ?_ | refine LeO.bind ?_ (fun _ => ?_)
theorem atticref19_Check.mono : ∀ a0 a1 a2 a3 a4 a5 a6 a7 a8 a9 k, LeO (atticref19_Check.f k a0 a1 a2 a3 a4 a5 a6 a7 a8 a9) (atticref19_Check.f (k + 1) a0 a1 a2 a3 a4 a5 a6 a7 a8 a9) := by
 intro a0 a1 a2 a3 a4 a5 a6 a7 a8 a9 k
 obtain ⟨ih0, ih1, ih2, ih3⟩ := atticref19_Check.mono_l k
 unfold atticref19_Check.f
 repeat' first | (with_reducible first | exact ih0 _ _ _ _ _ _ _ _ _ _ _ | exact ih1 _ _ _ _ _ _ _ _ _ _ | exact ih2 _ _ _ _ _ _ _ _ _ _ | exact ih3 _ _ _ _ _ _ _ _ _ _ | exact atticref19_New.mono _ _ _ _ | exact atticref19_has.mono _ _ _ | exact LeO.refl _ | exact LeO.none _ | refine LeO.ite ?_ ?_ | refine LeO.bind ?_ (fun _ => ?_)) | exact ih0 _ _ _ _ _ _ _ _ _ _ _ | exact ih1 _ _ _ _ _ _ _ _ _ _ | exact ih2 _ _ _ _ _ _ _ _ _ _ | exact ih3 _ _ _ _ _ _ _ _ _ _ | exact atticref19_New.mono _ _ _ _ | exact atticref19_has.mono _ _ _ | exact LeO.none _ | refine LeO.ite ?_ ?_ | refine LeO.bind ?_ (fun _ => ?_)
def atticref19_Check.T19 : Bool × List (List Nat × List Nat) := (true, [([], []), ([], []), ([1], [1]), ([], []), ([2, 3], [2, 3]), ([4], [4]), ([0, 5], [0, 5]), ([6], [6]), ([7, 6], [7]), ([8], [8]), ([9, 8], [8, 9]), ([8], [8]), ([11, 8], [8, 11]), ([8], [8]), ([12, 13, 8], [8, 12, 13]), ([14, 8], [8, 14]), ([10, 15, 8], [8, 10, 15]), ([16, 8], [8, 16]), ([17, 8], [8, 17]), ([8, 18], [8, 18]), ([19, 8], [19]), ([20], [20]), ([21, 20], [20, 21]), ([20], [20]), ([22, 23, 20], [20, 22, 23]), ([20], [20]), ([25, 20], [20, 25]), ([20], [20]), ([26, 27, 20], [20, 26, 27]), ([28, 20], [20, 28]), ([24, 29, 20, 20], [20, 24, 29]), ([20, 30], [20, 30])])
def atticref19_Check.B19 : List Nat := [0, 0, 2, 0, 14, 30, 63, 127, 255, 511, 1023, 511, 2559, 511, 14847, 31231, 65535, 131071, 262143, 524287, 1048575, 2097151, 4194303, 2097151, 16777215, 2097151, 35651583, 2097151, 236978175, 505413631, 1073741823, 2147483647]
theorem atticref19_Check.tab19 : rtab .any (opsOf Try.f19 19) = atticref19_Check.T19 := by kernel_rfl
theorem atticref19_Check.bits19 : waitsOk atticref19_Check.T19.2 atticref19_Check.B19 = true := by kernel_rfl
set_option maxHeartbeats 8000000 in
set_option maxRecDepth 100000 in
theorem atticref19_Check.calls (k : Nat) (A0_0 : Option Addr) (c0_0 : Nat) (l0_0 : List (S56)) (A0_1 : Option Addr) (c0_1 : Nat) (l0_1 : List Int) (a1 : Int) (a2_0 : Int) (a2_1 : Int) (A2_2 : Option Addr) (c2_2 : Nat) (l2_2 : List Bool) (A2_3 : Option Addr) (c2_3 : Nat) (l2_3 : List Int) (a2_4 : Bool) (a2_5 : Bool) (a2_6 : Bool) (r : Int) (w : World) (hr0_0 : Kd.C k56 w A0_0 l0_0.length l0_0) (hc0_0 : l0_0.length ≤ c0_0) (hr0_1 : Kd.C (Kd.int .i64) w A0_1 l0_1.length l0_1) (hc0_1 : l0_1.length ≤ c0_1) (hr2_2 : Kd.C Kd.bool w A2_2 l2_2.length l2_2) (hc2_2 : l2_2.length ≤ c2_2) (hr2_3 : Kd.C (Kd.int .i64) w A2_3 l2_3.length l2_3) (hc2_3 : l2_3.length ≤ c2_3) (h : atticref19_Check.f k l0_0 l0_1 a1 a2_0 a2_1 l2_2 l2_3 a2_4 a2_5 a2_6 = some r) :
  Calls Try.prog 19 #[.agg #[.slice A0_0 l0_0.length c0_0, .slice A0_1 l0_1.length c0_1], .int .i64 a1, .agg #[.int .i64 a2_0, .int .i64 a2_1, .slice A2_2 l2_2.length c2_2, .slice A2_3 l2_3.length c2_3, .bool a2_4, .bool a2_5, .bool a2_6]] w fun e w' => e = .returned (.int .i64 r) ∧ Below w.heap.size w w' := by
 have hu25 := Try.underlying25
 have hu28 := Try.underlying28
 have HR0_0 := ak hr0_0
 have HC0_0 := ak hc0_0
 clear hr0_0 hc0_0
 have HR0_1 := ak hr0_1
 have HC0_1 := ak hc0_1
 clear hr0_1 hc0_1
 have HR2_2 := ak hr2_2
 have HC2_2 := ak hc2_2
 clear hr2_2 hc2_2
 have HR2_3 := ak hr2_3
 have HC2_3 := ak hc2_3
 clear hr2_3 hc2_3
 have HB := ak (Below.refl w.heap.size w)
 have H : ((atticref19_New.f k l0_0 l0_1 a1).bind fun bt224 => (if bt224.2.2.2.2.2.2.2 = 0 then (if a2_0 = 0 then (atticref19_Check.j0 k a1 (l0_1.length : Int) l0_0 l0_1 a2_0 a2_1 l2_2 l2_3 a2_4 a2_5 a2_6) else (if a2_0 = 2 then (atticref19_Check.j0 k a1 (l0_0.length : Int) l0_0 l0_1 a2_0 a2_1 l2_2 l2_3 a2_4 a2_5 a2_6) else (if a2_0 = 1 then (if a2_6 = true then (atticref19_Check.j0 k a1 (l0_0.length : Int) l0_0 l0_1 a2_0 a2_1 l2_2 l2_3 a2_4 a2_5 a2_6) else (atticref19_Check.j0 k a1 0 l0_0 l0_1 a2_0 a2_1 l2_2 l2_3 a2_4 a2_5 a2_6)) else (atticref19_Check.j0 k a1 0 l0_0 l0_1 a2_0 a2_1 l2_2 l2_3 a2_4 a2_5 a2_6)))) else (some bt224.2.2.2.2.2.2.2))) = some r := h
 clear h
 replace H := Option.bind_eq_some_iff.mp H
 obtain ⟨⟨t224, t225, t226, t229, t232, t233, t234, t235⟩, A40, H⟩ := H
 replace H : (if t235 = 0 then (if a2_0 = 0 then (atticref19_Check.j0 k a1 (l0_1.length : Int) l0_0 l0_1 a2_0 a2_1 l2_2 l2_3 a2_4 a2_5 a2_6) else (if a2_0 = 2 then (atticref19_Check.j0 k a1 (l0_0.length : Int) l0_0 l0_1 a2_0 a2_1 l2_2 l2_3 a2_4 a2_5 a2_6) else (if a2_0 = 1 then (if a2_6 = true then (atticref19_Check.j0 k a1 (l0_0.length : Int) l0_0 l0_1 a2_0 a2_1 l2_2 l2_3 a2_4 a2_5 a2_6) else (atticref19_Check.j0 k a1 0 l0_0 l0_1 a2_0 a2_1 l2_2 l2_3 a2_4 a2_5 a2_6)) else (atticref19_Check.j0 k a1 0 l0_0 l0_1 a2_0 a2_1 l2_2 l2_3 a2_4 a2_5 a2_6)))) else (some t235)) = some r := H
 have A4 := ak A40
 clear A40
 by_cases c5 : t235 = 0; rotate_left
 ·rw [if_neg c5] at H
  have c5b0 : (t235 == 0) = false := beq_eq_false_iff_ne.mpr c5
  have c5b1 : (t235 != 0) = true := bne_iff_ne.mpr c5
  obtain rfl := Option.some.inj H
  go_enter Try.func19, Try.ntmps19
  go_wp2_with (first | ((with_reducible refine gate_dst (N := 3) rfl ?_); (try (refine gate_guard (by rfl) ?_; dsimp only)); refine box_event ?hg (N := 3) ?hd (cs := #[.slice A0_0 l0_0.length c0_0, .slice A0_1 l0_1.length c0_1]) (t := 25) ?hr ?_; (case hd => rfl); (case hg => rfl); (case hr => go_simp <;> rfl); intro gb222 hg w161 hbox hb; have n0_ := ak (below_step (by repeat (with_reducible first | exact HB.out | apply ba_ | apply bn_ | apply b1_)) hb); have n1_ := ak (hbox); have n2_ := ak ((by rw [hg]; exact (below_size (by repeat (with_reducible first | exact HB.out | apply ba_ | apply bn_ | apply b1_))) : w.heap.size ≤ gb222)); have n3_ := n2_; clear HB; have HB := n0_; have BK222 := n1_; have GW222 := n2_; have GE222 := n3_; clear n0_ n1_ n2_ n3_ hb hbox hg) | ((with_reducible refine gate_dst (N := 5) rfl ?_); (try (refine gate_guard (by rfl) ?_; dsimp only)); refine box_event ?hg (N := 5) ?hd (cs := #[.int .i64 a2_0, .int .i64 a2_1, .slice A2_2 l2_2.length c2_2, .slice A2_3 l2_3.length c2_3, .bool a2_4, .bool a2_5, .bool a2_6]) (t := 28) ?hr ?_; (case hd => rfl); (case hg => rfl); (case hr => go_simp <;> rfl); intro gb223 hg w162 hbox hb; have n0_ := ak (blk_below (by (with_reducible repeat first | apply kn_ | apply kd_ | apply ka_); exact BK222.out) hb); have n1_ := ak (below_step (by repeat (with_reducible first | exact HB.out | apply ba_ | apply bn_ | apply b1_ | refine bs_ ?_ GE222.out)) hb); have n2_ := ak (hbox); have n3_ := ak ((by rw [hg]; exact (below_size (by repeat (with_reducible first | exact HB.out | apply ba_ | apply bn_ | apply b1_ | refine bs_ ?_ GE222.out))) : w.heap.size ≤ gb223)); have n4_ := n3_; have n5_ := ak ((by rw [hg]; exact Nat.ne_of_lt (blk_lt (g := gb222) (o := .cells #[.slice A0_0 l0_0.length c0_0, .slice A0_1 l0_1.length c0_1] 25 (0, 0)) (by (with_reducible repeat first | apply kn_ | apply kd_ | apply ka_); exact BK222.out)) : gb222 ≠ gb223)); have n6_ := ak ((by rw [hg]; exact Nat.ne_of_gt (blk_lt (g := gb222) (o := .cells #[.slice A0_0 l0_0.length c0_0, .slice A0_1 l0_1.length c0_1] 25 (0, 0)) (by (with_reducible repeat first | apply kn_ | apply kd_ | apply ka_); exact BK222.out)) : gb223 ≠ gb222)); clear BK222 HB; have BK222 := n0_; have HB := n1_; have BK223 := n2_; have GW223 := n3_; have GE223 := n4_; have NB222_223 := n5_; have NB223_222 := n6_; clear n0_ n1_ n2_ n3_ n4_ n5_ n6_ hb hbox hg; have hnb163 := NB222_223.out; have hnc163 := NB223_222.out; obtain ⟨z164_0, z164_1, f164_0, f164_1⟩ := kk2 BK222.out) | ((with_reducible refine gate_callee (f := 15) rfl ?_); refine goesL_ (some 15) rfl rfl Try.func15 (by kernel_rfl) rfl #[.agg #[.slice A0_0 l0_0.length c0_0, .slice A0_1 l0_1.length c0_1], .int .i64 a1] rfl (by (try simp only [List.map_toArray, List.map_cons, List.map_nil]); first | done | rfl | (simp only [List.length_drop, List.length_take]; rfl)) ?_; (with_reducible refine (atticref19_New.calls k _ _ l0_0 _ _ l0_1 a1 t224 t225 t226 t229 t232 t233 t234 t235 _ ?side1 ?side2 ?side3 ?side4 A4.out).mono ?_); (case side1 => repeat (first | exact (Kd.C_below HR0_0.out HB.out) | (with_reducible first | refine ca_ ?_ _ | refine cn_ ?_ _ | refine cd_ ?_))); (case side2 => exact HC0_0.out); (case side3 => repeat (first | exact (Kd.C_below HR0_1.out HB.out) | (with_reducible first | refine ca_ ?_ _ | refine cn_ ?_ _ | refine cd_ ?_))); (case side4 => exact HC0_1.out); rintro e w165 ⟨v227, v230, rfl, ho0, ho1, hb⟩; refine ⟨_, rfl, ?_⟩; have n0_ := ak (Kd.R_lower ho0 (below_size (by repeat (with_reducible first | exact HB.out | apply ba_ | apply bn_ | apply b1_ | refine bs_ ?_ GE222.out | refine bs_ ?_ GE223.out)))); have n1_ := ak (Kd.R_lower ho1 (below_size (by repeat (with_reducible first | exact HB.out | apply ba_ | apply bn_ | apply b1_ | refine bs_ ?_ GE222.out | refine bs_ ?_ GE223.out)))); have n2_ := ak (blk_below (by (with_reducible repeat first | apply kn_ | apply kd_ | apply ka_); exact BK222.out) hb); have n3_ := ak (blk_below (by (with_reducible repeat first | apply kn_ | apply kd_ | apply ka_); exact BK223.out) hb); have n4_ := ak (below_step (by repeat (with_reducible first | exact HB.out | apply ba_ | apply bn_ | apply b1_ | refine bs_ ?_ GE222.out | refine bs_ ?_ GE223.out)) hb); clear BK222 BK223 HB; have HO228 := n0_; have HO231 := n1_; have BK222 := n2_; have BK223 := n3_; have HB := n4_; clear n0_ n1_ n2_ n3_ n4_; (try clear hb); (try clear hb2); (try clear hk); (try clear hi); (try clear ho0); (try clear ho1); (try clear A4)) | ((with_reducible refine gate_dst (N := 7) rfl ?_); (try (refine gate_guard (by rfl) ?_; dsimp only)); refine box_event ?hg (N := 7) ?hd (cs := #[.int .i64 0, .int .i64 0, .slice none 0 0, .slice none 0 0, .bool false, .bool false, .bool false]) (t := 28) ?hr ?_; (case hd => rfl); (case hg => rfl); (case hr => go_simp <;> rfl); intro gb236 hg w166 hbox hb; have n0_ := ak (Kd.R_below (by (with_reducible repeat (first | apply Kd.R_alloc | apply Kd.R_drewN | apply Kd.R_drew)); exact HO228.out) hb); have n1_ := ak (Kd.R_below (by (with_reducible repeat (first | apply Kd.R_alloc | apply Kd.R_drewN | apply Kd.R_drew)); exact HO231.out) hb); have n2_ := ak (blk_below (by (with_reducible repeat first | apply kn_ | apply kd_ | apply ka_); exact BK222.out) hb); have n3_ := ak (blk_below (by (with_reducible repeat first | apply kn_ | apply kd_ | apply ka_); exact BK223.out) hb); have n4_ := ak (below_step (by repeat (with_reducible first | exact HB.out | apply ba_ | apply bn_ | apply b1_ | refine bs_ ?_ GE222.out | refine bs_ ?_ GE223.out)) hb); have n5_ := ak (hbox); have n6_ := ak ((by rw [hg]; exact (below_size (by repeat (with_reducible first | exact HB.out | apply ba_ | apply bn_ | apply b1_ | refine bs_ ?_ GE222.out | refine bs_ ?_ GE223.out))) : w.heap.size ≤ gb236)); have n7_ := n6_; have n8_ := ak ((by rw [hg]; exact Nat.ne_of_lt (blk_lt (g := gb222) (o := .cells #[.slice A0_0 l0_0.length c0_0, .slice A0_1 l0_1.length c0_1] 25 (0, 0)) (by (with_reducible repeat first | apply kn_ | apply kd_ | apply ka_); exact BK222.out)) : gb222 ≠ gb236)); have n9_ := ak ((by rw [hg]; exact Nat.ne_of_gt (blk_lt (g := gb222) (o := .cells #[.slice A0_0 l0_0.length c0_0, .slice A0_1 l0_1.length c0_1] 25 (0, 0)) (by (with_reducible repeat first | apply kn_ | apply kd_ | apply ka_); exact BK222.out)) : gb236 ≠ gb222)); have n10_ := ak ((by rw [hg]; exact Nat.ne_of_lt (blk_lt (g := gb223) (o := .cells #[.int .i64 a2_0, .int .i64 a2_1, .slice A2_2 l2_2.length c2_2, .slice A2_3 l2_3.length c2_3, .bool a2_4, .bool a2_5, .bool a2_6] 28 (0, 0)) (by (with_reducible repeat first | apply kn_ | apply kd_ | apply ka_); exact BK223.out)) : gb223 ≠ gb236)); have n11_ := ak ((by rw [hg]; exact Nat.ne_of_gt (blk_lt (g := gb223) (o := .cells #[.int .i64 a2_0, .int .i64 a2_1, .slice A2_2 l2_2.length c2_2, .slice A2_3 l2_3.length c2_3, .bool a2_4, .bool a2_5, .bool a2_6] 28 (0, 0)) (by (with_reducible repeat first | apply kn_ | apply kd_ | apply ka_); exact BK223.out)) : gb236 ≠ gb223)); clear HO228 HO231 BK222 BK223 HB; have HO228 := n0_; have HO231 := n1_; have BK222 := n2_; have BK223 := n3_; have HB := n4_; have BK236 := n5_; have GW236 := n6_; have GE236 := n7_; have NB222_236 := n8_; have NB236_222 := n9_; have NB223_236 := n10_; have NB236_223 := n11_; clear n0_ n1_ n2_ n3_ n4_ n5_ n6_ n7_ n8_ n9_ n10_ n11_ hb hbox hg; have hnb167 := NB236_222.out; have hnc167 := NB222_236.out; have hnb168 := NB236_223.out; have hnc168 := NB223_236.out; obtain ⟨z169_0, z169_1, z169_2, z169_3, z169_4, z169_5, z169_6, f169_0, f169_1, f169_2, f169_3, f169_4, f169_5, f169_6⟩ := kk7 BK236.out; obtain ⟨Ao170, co170, eo170⟩ := Kd.R_slice HO228.out; subst eo170; obtain ⟨Ao171, co171, eo171⟩ := Kd.R_slice HO231.out; subst eo171))
  go_ret
  exact ⟨by first | rfl | (simp [errW_none, errW_some] <;> rfl) | (simp [*, errW_none, errW_some] <;> rfl) | (simp [Int.tdiv_eq_ediv_of_nonneg]; done), by repeat (with_reducible first | exact HB.out | apply ba_ | apply bn_ | apply b1_ | refine bs_ ?_ GE222.out | refine bs_ ?_ GE223.out | refine bs_ ?_ GE236.out)⟩
 rw [if_pos c5] at H
 have c5b0 : (t235 == 0) = true := beq_iff_eq.mpr c5
 have c5b1 : (t235 != 0) = false := bne_eq_false_iff_eq.mpr c5
 clear c5
 have HC6 := ak H
 clear H
 go_enter Try.func19, Try.ntmps19
 go_upto_block 0 with (first | ((with_reducible refine gate_dst (N := 3) rfl ?_); (try (refine gate_guard (by rfl) ?_; dsimp only)); refine box_event ?hg (N := 3) ?hd (cs := #[.slice A0_0 l0_0.length c0_0, .slice A0_1 l0_1.length c0_1]) (t := 25) ?hr ?_; (case hd => rfl); (case hg => rfl); (case hr => go_simp <;> rfl); intro gb222 hg w7 hbox hb; have n0_ := ak (below_step (by repeat (with_reducible first | exact HB.out | apply ba_ | apply bn_ | apply b1_)) hb); have n1_ := ak (hbox); have n2_ := ak ((by rw [hg]; exact (below_size (by repeat (with_reducible first | exact HB.out | apply ba_ | apply bn_ | apply b1_))) : w.heap.size ≤ gb222)); have n3_ := n2_; clear HB; have HB := n0_; have BK222 := n1_; have GW222 := n2_; have GE222 := n3_; clear n0_ n1_ n2_ n3_ hb hbox hg) | ((with_reducible refine gate_dst (N := 5) rfl ?_); (try (refine gate_guard (by rfl) ?_; dsimp only)); refine box_event ?hg (N := 5) ?hd (cs := #[.int .i64 a2_0, .int .i64 a2_1, .slice A2_2 l2_2.length c2_2, .slice A2_3 l2_3.length c2_3, .bool a2_4, .bool a2_5, .bool a2_6]) (t := 28) ?hr ?_; (case hd => rfl); (case hg => rfl); (case hr => go_simp <;> rfl); intro gb223 hg w8 hbox hb; have n0_ := ak (blk_below (by (with_reducible repeat first | apply kn_ | apply kd_ | apply ka_); exact BK222.out) hb); have n1_ := ak (below_step (by repeat (with_reducible first | exact HB.out | apply ba_ | apply bn_ | apply b1_ | refine bs_ ?_ GE222.out)) hb); have n2_ := ak (hbox); have n3_ := ak ((by rw [hg]; exact (below_size (by repeat (with_reducible first | exact HB.out | apply ba_ | apply bn_ | apply b1_ | refine bs_ ?_ GE222.out))) : w.heap.size ≤ gb223)); have n4_ := n3_; have n5_ := ak ((by rw [hg]; exact Nat.ne_of_lt (blk_lt (g := gb222) (o := .cells #[.slice A0_0 l0_0.length c0_0, .slice A0_1 l0_1.length c0_1] 25 (0, 0)) (by (with_reducible repeat first | apply kn_ | apply kd_ | apply ka_); exact BK222.out)) : gb222 ≠ gb223)); have n6_ := ak ((by rw [hg]; exact Nat.ne_of_gt (blk_lt (g := gb222) (o := .cells #[.slice A0_0 l0_0.length c0_0, .slice A0_1 l0_1.length c0_1] 25 (0, 0)) (by (with_reducible repeat first | apply kn_ | apply kd_ | apply ka_); exact BK222.out)) : gb223 ≠ gb222)); clear BK222 HB; have BK222 := n0_; have HB := n1_; have BK223 := n2_; have GW223 := n3_; have GE223 := n4_; have NB222_223 := n5_; have NB223_222 := n6_; clear n0_ n1_ n2_ n3_ n4_ n5_ n6_ hb hbox hg; have hnb9 := NB222_223.out; have hnc9 := NB223_222.out; obtain ⟨z10_0, z10_1, f10_0, f10_1⟩ := kk2 BK222.out) | ((with_reducible refine gate_callee (f := 15) rfl ?_); refine goesL_ (some 15) rfl rfl Try.func15 (by kernel_rfl) rfl #[.agg #[.slice A0_0 l0_0.length c0_0, .slice A0_1 l0_1.length c0_1], .int .i64 a1] rfl (by (try simp only [List.map_toArray, List.map_cons, List.map_nil]); first | done | rfl | (simp only [List.length_drop, List.length_take]; rfl)) ?_; (with_reducible refine (atticref19_New.calls k _ _ l0_0 _ _ l0_1 a1 t224 t225 t226 t229 t232 t233 t234 t235 _ ?side1 ?side2 ?side3 ?side4 A4.out).mono ?_); (case side1 => repeat (first | exact (Kd.C_below HR0_0.out HB.out) | (with_reducible first | refine ca_ ?_ _ | refine cn_ ?_ _ | refine cd_ ?_))); (case side2 => exact HC0_0.out); (case side3 => repeat (first | exact (Kd.C_below HR0_1.out HB.out) | (with_reducible first | refine ca_ ?_ _ | refine cn_ ?_ _ | refine cd_ ?_))); (case side4 => exact HC0_1.out); rintro e w11 ⟨v227, v230, rfl, ho0, ho1, hb⟩; refine ⟨_, rfl, ?_⟩; have n0_ := ak (Kd.R_lower ho0 (below_size (by repeat (with_reducible first | exact HB.out | apply ba_ | apply bn_ | apply b1_ | refine bs_ ?_ GE222.out | refine bs_ ?_ GE223.out)))); have n1_ := ak (Kd.R_lower ho1 (below_size (by repeat (with_reducible first | exact HB.out | apply ba_ | apply bn_ | apply b1_ | refine bs_ ?_ GE222.out | refine bs_ ?_ GE223.out)))); have n2_ := ak (blk_below (by (with_reducible repeat first | apply kn_ | apply kd_ | apply ka_); exact BK222.out) hb); have n3_ := ak (blk_below (by (with_reducible repeat first | apply kn_ | apply kd_ | apply ka_); exact BK223.out) hb); have n4_ := ak (below_step (by repeat (with_reducible first | exact HB.out | apply ba_ | apply bn_ | apply b1_ | refine bs_ ?_ GE222.out | refine bs_ ?_ GE223.out)) hb); clear BK222 BK223 HB; have HO228 := n0_; have HO231 := n1_; have BK222 := n2_; have BK223 := n3_; have HB := n4_; clear n0_ n1_ n2_ n3_ n4_; (try clear hb); (try clear hb2); (try clear hk); (try clear hi); (try clear ho0); (try clear ho1); (try clear A4)) | ((with_reducible refine gate_dst (N := 7) rfl ?_); (try (refine gate_guard (by rfl) ?_; dsimp only)); refine box_event ?hg (N := 7) ?hd (cs := #[.int .i64 0, .int .i64 0, .slice none 0 0, .slice none 0 0, .bool false, .bool false, .bool false]) (t := 28) ?hr ?_; (case hd => rfl); (case hg => rfl); (case hr => go_simp <;> rfl); intro gb236 hg w12 hbox hb; have n0_ := ak (Kd.R_below (by (with_reducible repeat (first | apply Kd.R_alloc | apply Kd.R_drewN | apply Kd.R_drew)); exact HO228.out) hb); have n1_ := ak (Kd.R_below (by (with_reducible repeat (first | apply Kd.R_alloc | apply Kd.R_drewN | apply Kd.R_drew)); exact HO231.out) hb); have n2_ := ak (blk_below (by (with_reducible repeat first | apply kn_ | apply kd_ | apply ka_); exact BK222.out) hb); have n3_ := ak (blk_below (by (with_reducible repeat first | apply kn_ | apply kd_ | apply ka_); exact BK223.out) hb); have n4_ := ak (below_step (by repeat (with_reducible first | exact HB.out | apply ba_ | apply bn_ | apply b1_ | refine bs_ ?_ GE222.out | refine bs_ ?_ GE223.out)) hb); have n5_ := ak (hbox); have n6_ := ak ((by rw [hg]; exact (below_size (by repeat (with_reducible first | exact HB.out | apply ba_ | apply bn_ | apply b1_ | refine bs_ ?_ GE222.out | refine bs_ ?_ GE223.out))) : w.heap.size ≤ gb236)); have n7_ := n6_; have n8_ := ak ((by rw [hg]; exact Nat.ne_of_lt (blk_lt (g := gb222) (o := .cells #[.slice A0_0 l0_0.length c0_0, .slice A0_1 l0_1.length c0_1] 25 (0, 0)) (by (with_reducible repeat first | apply kn_ | apply kd_ | apply ka_); exact BK222.out)) : gb222 ≠ gb236)); have n9_ := ak ((by rw [hg]; exact Nat.ne_of_gt (blk_lt (g := gb222) (o := .cells #[.slice A0_0 l0_0.length c0_0, .slice A0_1 l0_1.length c0_1] 25 (0, 0)) (by (with_reducible repeat first | apply kn_ | apply kd_ | apply ka_); exact BK222.out)) : gb236 ≠ gb222)); have n10_ := ak ((by rw [hg]; exact Nat.ne_of_lt (blk_lt (g := gb223) (o := .cells #[.int .i64 a2_0, .int .i64 a2_1, .slice A2_2 l2_2.length c2_2, .slice A2_3 l2_3.length c2_3, .bool a2_4, .bool a2_5, .bool a2_6] 28 (0, 0)) (by (with_reducible repeat first | apply kn_ | apply kd_ | apply ka_); exact BK223.out)) : gb223 ≠ gb236)); have n11_ := ak ((by rw [hg]; exact Nat.ne_of_gt (blk_lt (g := gb223) (o := .cells #[.int .i64 a2_0, .int .i64 a2_1, .slice A2_2 l2_2.length c2_2, .slice A2_3 l2_3.length c2_3, .bool a2_4, .bool a2_5, .bool a2_6] 28 (0, 0)) (by (with_reducible repeat first | apply kn_ | apply kd_ | apply ka_); exact BK223.out)) : gb236 ≠ gb223)); clear HO228 HO231 BK222 BK223 HB; have HO228 := n0_; have HO231 := n1_; have BK222 := n2_; have BK223 := n3_; have HB := n4_; have BK236 := n5_; have GW236 := n6_; have GE236 := n7_; have NB222_236 := n8_; have NB236_222 := n9_; have NB223_236 := n10_; have NB236_223 := n11_; clear n0_ n1_ n2_ n3_ n4_ n5_ n6_ n7_ n8_ n9_ n10_ n11_ hb hbox hg; have hnb13 := NB236_222.out; have hnc13 := NB222_236.out; have hnb14 := NB236_223.out; have hnc14 := NB223_236.out; obtain ⟨z15_0, z15_1, z15_2, z15_3, z15_4, z15_5, z15_6, f15_0, f15_1, f15_2, f15_3, f15_4, f15_5, f15_6⟩ := kk7 BK236.out; obtain ⟨Ao16, co16, eo16⟩ := Kd.R_slice HO228.out; subst eo16; obtain ⟨Ao17, co17, eo17⟩ := Kd.R_slice HO231.out; subst eo17))
 (try simp only [Act.put, List.setIfInBounds_toArray, List.set_cons_zero, List.set_cons_succ])
 go_cut [9] (fun v9 wc => ∃ (kq : Nat) (x9_5 : Int), v9 = .int .i64 x9_5 ∧ Aside0 (atticref19_Check.j0 kq a1 x9_5 l0_0 l0_1 a2_0 a2_1 l2_2 l2_3 a2_4 a2_5 a2_6 = some r) ∧ Aside0 (kq ≤ k) ∧ Aside0 (Kd.R Kd.bool 4 wc w.heap.size (fun _ => True) (.slice Ao16 t226.length co16) t226) ∧ Aside0 (Kd.R (Kd.int .i64) 3 wc w.heap.size (fun _ => True) (.slice Ao17 t229.length co17) t229) ∧ Aside0 (wc.heap[gb222]? = some (.cells #[(.slice A0_0 l0_0.length c0_0), (.slice A0_1 l0_1.length c0_1)] 25 (0, 0))) ∧ Aside0 (wc.heap[gb223]? = some (.cells #[.int .i64 a2_0, .int .i64 a2_1, (.slice A2_2 l2_2.length c2_2), (.slice A2_3 l2_3.length c2_3), .bool a2_4, .bool a2_5, .bool a2_6] 28 (0, 0))) ∧ Aside0 (wc.heap[gb236]? = some (.cells #[.int .i64 t224, .int .i64 t225, (.slice Ao16 t226.length co16), (.slice Ao17 t229.length co17), .bool t232, .bool t233, .bool t234] 28 (0, 0))) ∧ Aside0 (Below w.heap.size w wc))
 case first =>
  have H := HC6.out
  clear HC6
  by_cases c18 : a2_0 = 0
  ·rw [if_pos c18] at H
   have c18b0 : (a2_0 == 0) = true := beq_iff_eq.mpr c18
   have c18b1 : (a2_0 != 0) = false := bne_eq_false_iff_eq.mpr c18
   clear c18
   (first | rw [c18b0] | (simp only [i64_w, i32_w]; rw [c18b0]) | skip)
   have H' := ak H
   clear H
   have hnb19 := NB223_222.out
   have hnc19 := NB222_223.out
   have hnb20 := NB223_236.out
   have hnc20 := NB236_223.out
   obtain ⟨z21_0, z21_1, z21_2, z21_3, z21_4, z21_5, z21_6, f21_0, f21_1, f21_2, f21_3, f21_4, f21_5, f21_6⟩ := kk7 BK223.out
   have hnb22 := NB222_236.out
   have hnc22 := NB236_222.out
   obtain ⟨z23_0, z23_1, f23_0, f23_1⟩ := kk2 BK222.out
   go_wp2
   go_meet
   case rel => exact ⟨_, ((l0_1.length : Int)), (by first | rfl | (simp; done) | (simp [*]; done) | (simp [Int.tdiv_eq_ediv_of_nonneg]; done)), H', ⟨by first | omega | exact Nat.le_refl _⟩, ⟨by (with_reducible repeat (first | apply Kd.R_alloc | apply Kd.R_drewN | apply Kd.R_drew)); exact Kd.R_mono (Kd.R_far (p := ⟨gb236, 6, none⟩) (Kd.R_far (p := ⟨gb236, 5, none⟩) (Kd.R_far (p := ⟨gb236, 4, none⟩) (Kd.R_far (p := ⟨gb236, 3, none⟩) (Kd.R_far (p := ⟨gb236, 2, none⟩) (Kd.R_far (p := ⟨gb236, 1, none⟩) (Kd.R_far (p := ⟨gb236, 0, none⟩) (Kd.R_types HO228.out BK236.out (by decide)) (fun _ hk => hk.2) (.int .i64 t224)) (fun _ hk => hk.2) (.int .i64 t225)) (fun _ hk => hk.2) (.slice Ao16 t226.length co16)) (fun _ hk => hk.2) (.slice Ao17 t229.length co17)) (fun _ hk => hk.2) (.bool t232)) (fun _ hk => hk.2) (.bool t233)) (fun _ hk => hk.2) (.bool t234)) (fun _ hk => trivial)⟩, ⟨by (with_reducible repeat (first | apply Kd.R_alloc | apply Kd.R_drewN | apply Kd.R_drew)); exact Kd.R_mono (Kd.R_far (p := ⟨gb236, 6, none⟩) (Kd.R_far (p := ⟨gb236, 5, none⟩) (Kd.R_far (p := ⟨gb236, 4, none⟩) (Kd.R_far (p := ⟨gb236, 3, none⟩) (Kd.R_far (p := ⟨gb236, 2, none⟩) (Kd.R_far (p := ⟨gb236, 1, none⟩) (Kd.R_far (p := ⟨gb236, 0, none⟩) (Kd.R_types HO231.out BK236.out (by decide)) (fun _ hk => hk.2) (.int .i64 t224)) (fun _ hk => hk.2) (.int .i64 t225)) (fun _ hk => hk.2) (.slice Ao16 t226.length co16)) (fun _ hk => hk.2) (.slice Ao17 t229.length co17)) (fun _ hk => hk.2) (.bool t232)) (fun _ hk => hk.2) (.bool t233)) (fun _ hk => hk.2) (.bool t234)) (fun _ hk => trivial)⟩, ⟨by (with_reducible repeat first | apply kn_ | apply kd_ | apply ka_); refine blk_far ?_ NB222_236.out _; (with_reducible repeat first | apply kn_ | apply kd_ | apply ka_); refine blk_far ?_ NB222_236.out _; (with_reducible repeat first | apply kn_ | apply kd_ | apply ka_); refine blk_far ?_ NB222_236.out _; (with_reducible repeat first | apply kn_ | apply kd_ | apply ka_); refine blk_far ?_ NB222_236.out _; (with_reducible repeat first | apply kn_ | apply kd_ | apply ka_); refine blk_far ?_ NB222_236.out _; (with_reducible repeat first | apply kn_ | apply kd_ | apply ka_); refine blk_far ?_ NB222_236.out _; (with_reducible repeat first | apply kn_ | apply kd_ | apply ka_); refine blk_far ?_ NB222_236.out _; (with_reducible repeat first | apply kn_ | apply kd_ | apply ka_); exact BK222.out⟩, ⟨by (with_reducible repeat first | apply kn_ | apply kd_ | apply ka_); refine blk_far ?_ NB223_236.out _; (with_reducible repeat first | apply kn_ | apply kd_ | apply ka_); refine blk_far ?_ NB223_236.out _; (with_reducible repeat first | apply kn_ | apply kd_ | apply ka_); refine blk_far ?_ NB223_236.out _; (with_reducible repeat first | apply kn_ | apply kd_ | apply ka_); refine blk_far ?_ NB223_236.out _; (with_reducible repeat first | apply kn_ | apply kd_ | apply ka_); refine blk_far ?_ NB223_236.out _; (with_reducible repeat first | apply kn_ | apply kd_ | apply ka_); refine blk_far ?_ NB223_236.out _; (with_reducible repeat first | apply kn_ | apply kd_ | apply ka_); refine blk_far ?_ NB223_236.out _; (with_reducible repeat first | apply kn_ | apply kd_ | apply ka_); exact BK223.out⟩, ⟨by (with_reducible repeat first | apply kn_ | apply kd_ | apply ka_); refine blk_put (cs := #[.int .i64 t224, .int .i64 t225, .slice Ao16 t226.length co16, .slice Ao17 t229.length co17, .bool t232, .bool t233, .bool false]) ?_ 6 _ rfl; (with_reducible repeat first | apply kn_ | apply kd_ | apply ka_); refine blk_put (cs := #[.int .i64 t224, .int .i64 t225, .slice Ao16 t226.length co16, .slice Ao17 t229.length co17, .bool t232, .bool false, .bool false]) ?_ 5 _ rfl; (with_reducible repeat first | apply kn_ | apply kd_ | apply ka_); refine blk_put (cs := #[.int .i64 t224, .int .i64 t225, .slice Ao16 t226.length co16, .slice Ao17 t229.length co17, .bool false, .bool false, .bool false]) ?_ 4 _ rfl; (with_reducible repeat first | apply kn_ | apply kd_ | apply ka_); refine blk_put (cs := #[.int .i64 t224, .int .i64 t225, .slice Ao16 t226.length co16, .slice none 0 0, .bool false, .bool false, .bool false]) ?_ 3 _ rfl; (with_reducible repeat first | apply kn_ | apply kd_ | apply ka_); refine blk_put (cs := #[.int .i64 t224, .int .i64 t225, .slice none 0 0, .slice none 0 0, .bool false, .bool false, .bool false]) ?_ 2 _ rfl; (with_reducible repeat first | apply kn_ | apply kd_ | apply ka_); refine blk_put (cs := #[.int .i64 t224, .int .i64 0, .slice none 0 0, .slice none 0 0, .bool false, .bool false, .bool false]) ?_ 1 _ rfl; (with_reducible repeat first | apply kn_ | apply kd_ | apply ka_); refine blk_put (cs := #[.int .i64 0, .int .i64 0, .slice none 0 0, .slice none 0 0, .bool false, .bool false, .bool false]) ?_ 0 _ rfl; (with_reducible repeat first | apply kn_ | apply kd_ | apply ka_); exact BK236.out⟩, ⟨by repeat (with_reducible first | exact HB.out | apply ba_ | apply bn_ | apply b1_ | refine bs_ ?_ GE222.out | refine bs_ ?_ GE223.out | refine bs_ ?_ GE236.out)⟩⟩
  rw [if_neg c18] at H
  have c18b0 : (a2_0 == 0) = false := beq_eq_false_iff_ne.mpr c18
  have c18b1 : (a2_0 != 0) = true := bne_iff_ne.mpr c18
  (first | rw [c18b0] | (simp only [i64_w, i32_w]; rw [c18b0]) | skip)
  by_cases c24 : a2_0 = 2
  ·rw [if_pos c24] at H
   have c24b0 : (a2_0 == 2) = true := beq_iff_eq.mpr c24
   have c24b1 : (a2_0 != 2) = false := bne_eq_false_iff_eq.mpr c24
   clear c24
   have H' := ak H
   clear H
   have hnb25 := NB223_222.out
   have hnc25 := NB222_223.out
   have hnb26 := NB223_236.out
   have hnc26 := NB236_223.out
   obtain ⟨z27_0, z27_1, z27_2, z27_3, z27_4, z27_5, z27_6, f27_0, f27_1, f27_2, f27_3, f27_4, f27_5, f27_6⟩ := kk7 BK223.out
   have hnb28 := NB222_236.out
   have hnc28 := NB236_222.out
   obtain ⟨z29_0, z29_1, f29_0, f29_1⟩ := kk2 BK222.out
   go_wp2
   go_meet
   case rel => exact ⟨_, ((l0_0.length : Int)), (by first | rfl | (simp; done) | (simp [*]; done) | (simp [Int.tdiv_eq_ediv_of_nonneg]; done)), H', ⟨by first | omega | exact Nat.le_refl _⟩, ⟨by (with_reducible repeat (first | apply Kd.R_alloc | apply Kd.R_drewN | apply Kd.R_drew)); exact Kd.R_mono (Kd.R_far (p := ⟨gb236, 6, none⟩) (Kd.R_far (p := ⟨gb236, 5, none⟩) (Kd.R_far (p := ⟨gb236, 4, none⟩) (Kd.R_far (p := ⟨gb236, 3, none⟩) (Kd.R_far (p := ⟨gb236, 2, none⟩) (Kd.R_far (p := ⟨gb236, 1, none⟩) (Kd.R_far (p := ⟨gb236, 0, none⟩) (Kd.R_types HO228.out BK236.out (by decide)) (fun _ hk => hk.2) (.int .i64 t224)) (fun _ hk => hk.2) (.int .i64 t225)) (fun _ hk => hk.2) (.slice Ao16 t226.length co16)) (fun _ hk => hk.2) (.slice Ao17 t229.length co17)) (fun _ hk => hk.2) (.bool t232)) (fun _ hk => hk.2) (.bool t233)) (fun _ hk => hk.2) (.bool t234)) (fun _ hk => trivial)⟩, ⟨by (with_reducible repeat (first | apply Kd.R_alloc | apply Kd.R_drewN | apply Kd.R_drew)); exact Kd.R_mono (Kd.R_far (p := ⟨gb236, 6, none⟩) (Kd.R_far (p := ⟨gb236, 5, none⟩) (Kd.R_far (p := ⟨gb236, 4, none⟩) (Kd.R_far (p := ⟨gb236, 3, none⟩) (Kd.R_far (p := ⟨gb236, 2, none⟩) (Kd.R_far (p := ⟨gb236, 1, none⟩) (Kd.R_far (p := ⟨gb236, 0, none⟩) (Kd.R_types HO231.out BK236.out (by decide)) (fun _ hk => hk.2) (.int .i64 t224)) (fun _ hk => hk.2) (.int .i64 t225)) (fun _ hk => hk.2) (.slice Ao16 t226.length co16)) (fun _ hk => hk.2) (.slice Ao17 t229.length co17)) (fun _ hk => hk.2) (.bool t232)) (fun _ hk => hk.2) (.bool t233)) (fun _ hk => hk.2) (.bool t234)) (fun _ hk => trivial)⟩, ⟨by (with_reducible repeat first | apply kn_ | apply kd_ | apply ka_); refine blk_far ?_ NB222_236.out _; (with_reducible repeat first | apply kn_ | apply kd_ | apply ka_); refine blk_far ?_ NB222_236.out _; (with_reducible repeat first | apply kn_ | apply kd_ | apply ka_); refine blk_far ?_ NB222_236.out _; (with_reducible repeat first | apply kn_ | apply kd_ | apply ka_); refine blk_far ?_ NB222_236.out _; (with_reducible repeat first | apply kn_ | apply kd_ | apply ka_); refine blk_far ?_ NB222_236.out _; (with_reducible repeat first | apply kn_ | apply kd_ | apply ka_); refine blk_far ?_ NB222_236.out _; (with_reducible repeat first | apply kn_ | apply kd_ | apply ka_); refine blk_far ?_ NB222_236.out _; (with_reducible repeat first | apply kn_ | apply kd_ | apply ka_); exact BK222.out⟩, ⟨by (with_reducible repeat first | apply kn_ | apply kd_ | apply ka_); refine blk_far ?_ NB223_236.out _; (with_reducible repeat first | apply kn_ | apply kd_ | apply ka_); refine blk_far ?_ NB223_236.out _; (with_reducible repeat first | apply kn_ | apply kd_ | apply ka_); refine blk_far ?_ NB223_236.out _; (with_reducible repeat first | apply kn_ | apply kd_ | apply ka_); refine blk_far ?_ NB223_236.out _; (with_reducible repeat first | apply kn_ | apply kd_ | apply ka_); refine blk_far ?_ NB223_236.out _; (with_reducible repeat first | apply kn_ | apply kd_ | apply ka_); refine blk_far ?_ NB223_236.out _; (with_reducible repeat first | apply kn_ | apply kd_ | apply ka_); refine blk_far ?_ NB223_236.out _; (with_reducible repeat first | apply kn_ | apply kd_ | apply ka_); exact BK223.out⟩, ⟨by (with_reducible repeat first | apply kn_ | apply kd_ | apply ka_); refine blk_put (cs := #[.int .i64 t224, .int .i64 t225, .slice Ao16 t226.length co16, .slice Ao17 t229.length co17, .bool t232, .bool t233, .bool false]) ?_ 6 _ rfl; (with_reducible repeat first | apply kn_ | apply kd_ | apply ka_); refine blk_put (cs := #[.int .i64 t224, .int .i64 t225, .slice Ao16 t226.length co16, .slice Ao17 t229.length co17, .bool t232, .bool false, .bool false]) ?_ 5 _ rfl; (with_reducible repeat first | apply kn_ | apply kd_ | apply ka_); refine blk_put (cs := #[.int .i64 t224, .int .i64 t225, .slice Ao16 t226.length co16, .slice Ao17 t229.length co17, .bool false, .bool false, .bool false]) ?_ 4 _ rfl; (with_reducible repeat first | apply kn_ | apply kd_ | apply ka_); refine blk_put (cs := #[.int .i64 t224, .int .i64 t225, .slice Ao16 t226.length co16, .slice none 0 0, .bool false, .bool false, .bool false]) ?_ 3 _ rfl; (with_reducible repeat first | apply kn_ | apply kd_ | apply ka_); refine blk_put (cs := #[.int .i64 t224, .int .i64 t225, .slice none 0 0, .slice none 0 0, .bool false, .bool false, .bool false]) ?_ 2 _ rfl; (with_reducible repeat first | apply kn_ | apply kd_ | apply ka_); refine blk_put (cs := #[.int .i64 t224, .int .i64 0, .slice none 0 0, .slice none 0 0, .bool false, .bool false, .bool false]) ?_ 1 _ rfl; (with_reducible repeat first | apply kn_ | apply kd_ | apply ka_); refine blk_put (cs := #[.int .i64 0, .int .i64 0, .slice none 0 0, .slice none 0 0, .bool false, .bool false, .bool false]) ?_ 0 _ rfl; (with_reducible repeat first | apply kn_ | apply kd_ | apply ka_); exact BK236.out⟩, ⟨by repeat (with_reducible first | exact HB.out | apply ba_ | apply bn_ | apply b1_ | refine bs_ ?_ GE222.out | refine bs_ ?_ GE223.out | refine bs_ ?_ GE236.out)⟩⟩
  rw [if_neg c24] at H
  have c24b0 : (a2_0 == 2) = false := beq_eq_false_iff_ne.mpr c24
  have c24b1 : (a2_0 != 2) = true := bne_iff_ne.mpr c24
  by_cases c30 : a2_0 = 1; rotate_left
  ·rw [if_neg c30] at H
   have c30b0 : (a2_0 == 1) = false := beq_eq_false_iff_ne.mpr c30
   have c30b1 : (a2_0 != 1) = true := bne_iff_ne.mpr c30
   have H' := ak H
   clear H
   have hnb40 := NB223_222.out
   have hnc40 := NB222_223.out
   have hnb41 := NB223_236.out
   have hnc41 := NB236_223.out
   obtain ⟨z42_0, z42_1, z42_2, z42_3, z42_4, z42_5, z42_6, f42_0, f42_1, f42_2, f42_3, f42_4, f42_5, f42_6⟩ := kk7 BK223.out
   go_wp2
   go_meet
   case rel => exact ⟨_, (0), (by first | rfl | (simp; done) | (simp [*]; done) | (simp [Int.tdiv_eq_ediv_of_nonneg]; done)), H', ⟨by first | omega | exact Nat.le_refl _⟩, ⟨by (with_reducible repeat (first | apply Kd.R_alloc | apply Kd.R_drewN | apply Kd.R_drew)); exact Kd.R_mono (Kd.R_far (p := ⟨gb236, 6, none⟩) (Kd.R_far (p := ⟨gb236, 5, none⟩) (Kd.R_far (p := ⟨gb236, 4, none⟩) (Kd.R_far (p := ⟨gb236, 3, none⟩) (Kd.R_far (p := ⟨gb236, 2, none⟩) (Kd.R_far (p := ⟨gb236, 1, none⟩) (Kd.R_far (p := ⟨gb236, 0, none⟩) (Kd.R_types HO228.out BK236.out (by decide)) (fun _ hk => hk.2) (.int .i64 t224)) (fun _ hk => hk.2) (.int .i64 t225)) (fun _ hk => hk.2) (.slice Ao16 t226.length co16)) (fun _ hk => hk.2) (.slice Ao17 t229.length co17)) (fun _ hk => hk.2) (.bool t232)) (fun _ hk => hk.2) (.bool t233)) (fun _ hk => hk.2) (.bool t234)) (fun _ hk => trivial)⟩, ⟨by (with_reducible repeat (first | apply Kd.R_alloc | apply Kd.R_drewN | apply Kd.R_drew)); exact Kd.R_mono (Kd.R_far (p := ⟨gb236, 6, none⟩) (Kd.R_far (p := ⟨gb236, 5, none⟩) (Kd.R_far (p := ⟨gb236, 4, none⟩) (Kd.R_far (p := ⟨gb236, 3, none⟩) (Kd.R_far (p := ⟨gb236, 2, none⟩) (Kd.R_far (p := ⟨gb236, 1, none⟩) (Kd.R_far (p := ⟨gb236, 0, none⟩) (Kd.R_types HO231.out BK236.out (by decide)) (fun _ hk => hk.2) (.int .i64 t224)) (fun _ hk => hk.2) (.int .i64 t225)) (fun _ hk => hk.2) (.slice Ao16 t226.length co16)) (fun _ hk => hk.2) (.slice Ao17 t229.length co17)) (fun _ hk => hk.2) (.bool t232)) (fun _ hk => hk.2) (.bool t233)) (fun _ hk => hk.2) (.bool t234)) (fun _ hk => trivial)⟩, ⟨by (with_reducible repeat first | apply kn_ | apply kd_ | apply ka_); refine blk_far ?_ NB222_236.out _; (with_reducible repeat first | apply kn_ | apply kd_ | apply ka_); refine blk_far ?_ NB222_236.out _; (with_reducible repeat first | apply kn_ | apply kd_ | apply ka_); refine blk_far ?_ NB222_236.out _; (with_reducible repeat first | apply kn_ | apply kd_ | apply ka_); refine blk_far ?_ NB222_236.out _; (with_reducible repeat first | apply kn_ | apply kd_ | apply ka_); refine blk_far ?_ NB222_236.out _; (with_reducible repeat first | apply kn_ | apply kd_ | apply ka_); refine blk_far ?_ NB222_236.out _; (with_reducible repeat first | apply kn_ | apply kd_ | apply ka_); refine blk_far ?_ NB222_236.out _; (with_reducible repeat first | apply kn_ | apply kd_ | apply ka_); exact BK222.out⟩, ⟨by (with_reducible repeat first | apply kn_ | apply kd_ | apply ka_); refine blk_far ?_ NB223_236.out _; (with_reducible repeat first | apply kn_ | apply kd_ | apply ka_); refine blk_far ?_ NB223_236.out _; (with_reducible repeat first | apply kn_ | apply kd_ | apply ka_); refine blk_far ?_ NB223_236.out _; (with_reducible repeat first | apply kn_ | apply kd_ | apply ka_); refine blk_far ?_ NB223_236.out _; (with_reducible repeat first | apply kn_ | apply kd_ | apply ka_); refine blk_far ?_ NB223_236.out _; (with_reducible repeat first | apply kn_ | apply kd_ | apply ka_); refine blk_far ?_ NB223_236.out _; (with_reducible repeat first | apply kn_ | apply kd_ | apply ka_); refine blk_far ?_ NB223_236.out _; (with_reducible repeat first | apply kn_ | apply kd_ | apply ka_); exact BK223.out⟩, ⟨by (with_reducible repeat first | apply kn_ | apply kd_ | apply ka_); refine blk_put (cs := #[.int .i64 t224, .int .i64 t225, .slice Ao16 t226.length co16, .slice Ao17 t229.length co17, .bool t232, .bool t233, .bool false]) ?_ 6 _ rfl; (with_reducible repeat first | apply kn_ | apply kd_ | apply ka_); refine blk_put (cs := #[.int .i64 t224, .int .i64 t225, .slice Ao16 t226.length co16, .slice Ao17 t229.length co17, .bool t232, .bool false, .bool false]) ?_ 5 _ rfl; (with_reducible repeat first | apply kn_ | apply kd_ | apply ka_); refine blk_put (cs := #[.int .i64 t224, .int .i64 t225, .slice Ao16 t226.length co16, .slice Ao17 t229.length co17, .bool false, .bool false, .bool false]) ?_ 4 _ rfl; (with_reducible repeat first | apply kn_ | apply kd_ | apply ka_); refine blk_put (cs := #[.int .i64 t224, .int .i64 t225, .slice Ao16 t226.length co16, .slice none 0 0, .bool false, .bool false, .bool false]) ?_ 3 _ rfl; (with_reducible repeat first | apply kn_ | apply kd_ | apply ka_); refine blk_put (cs := #[.int .i64 t224, .int .i64 t225, .slice none 0 0, .slice none 0 0, .bool false, .bool false, .bool false]) ?_ 2 _ rfl; (with_reducible repeat first | apply kn_ | apply kd_ | apply ka_); refine blk_put (cs := #[.int .i64 t224, .int .i64 0, .slice none 0 0, .slice none 0 0, .bool false, .bool false, .bool false]) ?_ 1 _ rfl; (with_reducible repeat first | apply kn_ | apply kd_ | apply ka_); refine blk_put (cs := #[.int .i64 0, .int .i64 0, .slice none 0 0, .slice none 0 0, .bool false, .bool false, .bool false]) ?_ 0 _ rfl; (with_reducible repeat first | apply kn_ | apply kd_ | apply ka_); exact BK236.out⟩, ⟨by repeat (with_reducible first | exact HB.out | apply ba_ | apply bn_ | apply b1_ | refine bs_ ?_ GE222.out | refine bs_ ?_ GE223.out | refine bs_ ?_ GE236.out)⟩⟩
  rw [if_pos c30] at H
  have c30b0 : (a2_0 == 1) = true := beq_iff_eq.mpr c30
  have c30b1 : (a2_0 != 1) = false := bne_eq_false_iff_eq.mpr c30
  clear c30
  by_cases c31 : a2_6 = true; rotate_left
  ·replace c31 := Bool.eq_false_iff.mpr c31
   subst c31
   have H1 : (atticref19_Check.j0 k a1 0 l0_0 l0_1 a2_0 a2_1 l2_2 l2_3 a2_4 a2_5 false) = some r := by rw [if_neg (show ¬ (false = true) by decide)] at H; exact H
   clear H
   have H := H1
   clear H1
   have H' := ak H
   clear H
   have hnb37 := NB223_222.out
   have hnc37 := NB222_223.out
   have hnb38 := NB223_236.out
   have hnc38 := NB236_223.out
   obtain ⟨z39_0, z39_1, z39_2, z39_3, z39_4, z39_5, z39_6, f39_0, f39_1, f39_2, f39_3, f39_4, f39_5, f39_6⟩ := kk7 BK223.out
   go_wp2
   go_meet
   case rel => exact ⟨_, (0), (by first | rfl | (simp; done) | (simp [*]; done) | (simp [Int.tdiv_eq_ediv_of_nonneg]; done)), H', ⟨by first | omega | exact Nat.le_refl _⟩, ⟨by (with_reducible repeat (first | apply Kd.R_alloc | apply Kd.R_drewN | apply Kd.R_drew)); exact Kd.R_mono (Kd.R_far (p := ⟨gb236, 6, none⟩) (Kd.R_far (p := ⟨gb236, 5, none⟩) (Kd.R_far (p := ⟨gb236, 4, none⟩) (Kd.R_far (p := ⟨gb236, 3, none⟩) (Kd.R_far (p := ⟨gb236, 2, none⟩) (Kd.R_far (p := ⟨gb236, 1, none⟩) (Kd.R_far (p := ⟨gb236, 0, none⟩) (Kd.R_types HO228.out BK236.out (by decide)) (fun _ hk => hk.2) (.int .i64 t224)) (fun _ hk => hk.2) (.int .i64 t225)) (fun _ hk => hk.2) (.slice Ao16 t226.length co16)) (fun _ hk => hk.2) (.slice Ao17 t229.length co17)) (fun _ hk => hk.2) (.bool t232)) (fun _ hk => hk.2) (.bool t233)) (fun _ hk => hk.2) (.bool t234)) (fun _ hk => trivial)⟩, ⟨by (with_reducible repeat (first | apply Kd.R_alloc | apply Kd.R_drewN | apply Kd.R_drew)); exact Kd.R_mono (Kd.R_far (p := ⟨gb236, 6, none⟩) (Kd.R_far (p := ⟨gb236, 5, none⟩) (Kd.R_far (p := ⟨gb236, 4, none⟩) (Kd.R_far (p := ⟨gb236, 3, none⟩) (Kd.R_far (p := ⟨gb236, 2, none⟩) (Kd.R_far (p := ⟨gb236, 1, none⟩) (Kd.R_far (p := ⟨gb236, 0, none⟩) (Kd.R_types HO231.out BK236.out (by decide)) (fun _ hk => hk.2) (.int .i64 t224)) (fun _ hk => hk.2) (.int .i64 t225)) (fun _ hk => hk.2) (.slice Ao16 t226.length co16)) (fun _ hk => hk.2) (.slice Ao17 t229.length co17)) (fun _ hk => hk.2) (.bool t232)) (fun _ hk => hk.2) (.bool t233)) (fun _ hk => hk.2) (.bool t234)) (fun _ hk => trivial)⟩, ⟨by (with_reducible repeat first | apply kn_ | apply kd_ | apply ka_); refine blk_far ?_ NB222_236.out _; (with_reducible repeat first | apply kn_ | apply kd_ | apply ka_); refine blk_far ?_ NB222_236.out _; (with_reducible repeat first | apply kn_ | apply kd_ | apply ka_); refine blk_far ?_ NB222_236.out _; (with_reducible repeat first | apply kn_ | apply kd_ | apply ka_); refine blk_far ?_ NB222_236.out _; (with_reducible repeat first | apply kn_ | apply kd_ | apply ka_); refine blk_far ?_ NB222_236.out _; (with_reducible repeat first | apply kn_ | apply kd_ | apply ka_); refine blk_far ?_ NB222_236.out _; (with_reducible repeat first | apply kn_ | apply kd_ | apply ka_); refine blk_far ?_ NB222_236.out _; (with_reducible repeat first | apply kn_ | apply kd_ | apply ka_); exact BK222.out⟩, ⟨by (with_reducible repeat first | apply kn_ | apply kd_ | apply ka_); refine blk_far ?_ NB223_236.out _; (with_reducible repeat first | apply kn_ | apply kd_ | apply ka_); refine blk_far ?_ NB223_236.out _; (with_reducible repeat first | apply kn_ | apply kd_ | apply ka_); refine blk_far ?_ NB223_236.out _; (with_reducible repeat first | apply kn_ | apply kd_ | apply ka_); refine blk_far ?_ NB223_236.out _; (with_reducible repeat first | apply kn_ | apply kd_ | apply ka_); refine blk_far ?_ NB223_236.out _; (with_reducible repeat first | apply kn_ | apply kd_ | apply ka_); refine blk_far ?_ NB223_236.out _; (with_reducible repeat first | apply kn_ | apply kd_ | apply ka_); refine blk_far ?_ NB223_236.out _; (with_reducible repeat first | apply kn_ | apply kd_ | apply ka_); exact BK223.out⟩, ⟨by (with_reducible repeat first | apply kn_ | apply kd_ | apply ka_); refine blk_put (cs := #[.int .i64 t224, .int .i64 t225, .slice Ao16 t226.length co16, .slice Ao17 t229.length co17, .bool t232, .bool t233, .bool false]) ?_ 6 _ rfl; (with_reducible repeat first | apply kn_ | apply kd_ | apply ka_); refine blk_put (cs := #[.int .i64 t224, .int .i64 t225, .slice Ao16 t226.length co16, .slice Ao17 t229.length co17, .bool t232, .bool false, .bool false]) ?_ 5 _ rfl; (with_reducible repeat first | apply kn_ | apply kd_ | apply ka_); refine blk_put (cs := #[.int .i64 t224, .int .i64 t225, .slice Ao16 t226.length co16, .slice Ao17 t229.length co17, .bool false, .bool false, .bool false]) ?_ 4 _ rfl; (with_reducible repeat first | apply kn_ | apply kd_ | apply ka_); refine blk_put (cs := #[.int .i64 t224, .int .i64 t225, .slice Ao16 t226.length co16, .slice none 0 0, .bool false, .bool false, .bool false]) ?_ 3 _ rfl; (with_reducible repeat first | apply kn_ | apply kd_ | apply ka_); refine blk_put (cs := #[.int .i64 t224, .int .i64 t225, .slice none 0 0, .slice none 0 0, .bool false, .bool false, .bool false]) ?_ 2 _ rfl; (with_reducible repeat first | apply kn_ | apply kd_ | apply ka_); refine blk_put (cs := #[.int .i64 t224, .int .i64 0, .slice none 0 0, .slice none 0 0, .bool false, .bool false, .bool false]) ?_ 1 _ rfl; (with_reducible repeat first | apply kn_ | apply kd_ | apply ka_); refine blk_put (cs := #[.int .i64 0, .int .i64 0, .slice none 0 0, .slice none 0 0, .bool false, .bool false, .bool false]) ?_ 0 _ rfl; (with_reducible repeat first | apply kn_ | apply kd_ | apply ka_); exact BK236.out⟩, ⟨by repeat (with_reducible first | exact HB.out | apply ba_ | apply bn_ | apply b1_ | refine bs_ ?_ GE222.out | refine bs_ ?_ GE223.out | refine bs_ ?_ GE236.out)⟩⟩
  subst c31
  have H1 : (atticref19_Check.j0 k a1 (l0_0.length : Int) l0_0 l0_1 a2_0 a2_1 l2_2 l2_3 a2_4 a2_5 true) = some r := by rw [if_pos rfl] at H; exact H
  clear H
  have H := H1
  clear H1
  have H' := ak H
  clear H
  have hnb32 := NB223_222.out
  have hnc32 := NB222_223.out
  have hnb33 := NB223_236.out
  have hnc33 := NB236_223.out
  obtain ⟨z34_0, z34_1, z34_2, z34_3, z34_4, z34_5, z34_6, f34_0, f34_1, f34_2, f34_3, f34_4, f34_5, f34_6⟩ := kk7 BK223.out
  have hnb35 := NB222_236.out
  have hnc35 := NB236_222.out
  obtain ⟨z36_0, z36_1, f36_0, f36_1⟩ := kk2 BK222.out
  go_wp2
  go_meet
  case rel => exact ⟨_, ((l0_0.length : Int)), (by first | rfl | (simp; done) | (simp [*]; done) | (simp [Int.tdiv_eq_ediv_of_nonneg]; done)), H', ⟨by first | omega | exact Nat.le_refl _⟩, ⟨by (with_reducible repeat (first | apply Kd.R_alloc | apply Kd.R_drewN | apply Kd.R_drew)); exact Kd.R_mono (Kd.R_far (p := ⟨gb236, 6, none⟩) (Kd.R_far (p := ⟨gb236, 5, none⟩) (Kd.R_far (p := ⟨gb236, 4, none⟩) (Kd.R_far (p := ⟨gb236, 3, none⟩) (Kd.R_far (p := ⟨gb236, 2, none⟩) (Kd.R_far (p := ⟨gb236, 1, none⟩) (Kd.R_far (p := ⟨gb236, 0, none⟩) (Kd.R_types HO228.out BK236.out (by decide)) (fun _ hk => hk.2) (.int .i64 t224)) (fun _ hk => hk.2) (.int .i64 t225)) (fun _ hk => hk.2) (.slice Ao16 t226.length co16)) (fun _ hk => hk.2) (.slice Ao17 t229.length co17)) (fun _ hk => hk.2) (.bool t232)) (fun _ hk => hk.2) (.bool t233)) (fun _ hk => hk.2) (.bool t234)) (fun _ hk => trivial)⟩, ⟨by (with_reducible repeat (first | apply Kd.R_alloc | apply Kd.R_drewN | apply Kd.R_drew)); exact Kd.R_mono (Kd.R_far (p := ⟨gb236, 6, none⟩) (Kd.R_far (p := ⟨gb236, 5, none⟩) (Kd.R_far (p := ⟨gb236, 4, none⟩) (Kd.R_far (p := ⟨gb236, 3, none⟩) (Kd.R_far (p := ⟨gb236, 2, none⟩) (Kd.R_far (p := ⟨gb236, 1, none⟩) (Kd.R_far (p := ⟨gb236, 0, none⟩) (Kd.R_types HO231.out BK236.out (by decide)) (fun _ hk => hk.2) (.int .i64 t224)) (fun _ hk => hk.2) (.int .i64 t225)) (fun _ hk => hk.2) (.slice Ao16 t226.length co16)) (fun _ hk => hk.2) (.slice Ao17 t229.length co17)) (fun _ hk => hk.2) (.bool t232)) (fun _ hk => hk.2) (.bool t233)) (fun _ hk => hk.2) (.bool t234)) (fun _ hk => trivial)⟩, ⟨by (with_reducible repeat first | apply kn_ | apply kd_ | apply ka_); refine blk_far ?_ NB222_236.out _; (with_reducible repeat first | apply kn_ | apply kd_ | apply ka_); refine blk_far ?_ NB222_236.out _; (with_reducible repeat first | apply kn_ | apply kd_ | apply ka_); refine blk_far ?_ NB222_236.out _; (with_reducible repeat first | apply kn_ | apply kd_ | apply ka_); refine blk_far ?_ NB222_236.out _; (with_reducible repeat first | apply kn_ | apply kd_ | apply ka_); refine blk_far ?_ NB222_236.out _; (with_reducible repeat first | apply kn_ | apply kd_ | apply ka_); refine blk_far ?_ NB222_236.out _; (with_reducible repeat first | apply kn_ | apply kd_ | apply ka_); refine blk_far ?_ NB222_236.out _; (with_reducible repeat first | apply kn_ | apply kd_ | apply ka_); exact BK222.out⟩, ⟨by (with_reducible repeat first | apply kn_ | apply kd_ | apply ka_); refine blk_far ?_ NB223_236.out _; (with_reducible repeat first | apply kn_ | apply kd_ | apply ka_); refine blk_far ?_ NB223_236.out _; (with_reducible repeat first | apply kn_ | apply kd_ | apply ka_); refine blk_far ?_ NB223_236.out _; (with_reducible repeat first | apply kn_ | apply kd_ | apply ka_); refine blk_far ?_ NB223_236.out _; (with_reducible repeat first | apply kn_ | apply kd_ | apply ka_); refine blk_far ?_ NB223_236.out _; (with_reducible repeat first | apply kn_ | apply kd_ | apply ka_); refine blk_far ?_ NB223_236.out _; (with_reducible repeat first | apply kn_ | apply kd_ | apply ka_); refine blk_far ?_ NB223_236.out _; (with_reducible repeat first | apply kn_ | apply kd_ | apply ka_); exact BK223.out⟩, ⟨by (with_reducible repeat first | apply kn_ | apply kd_ | apply ka_); refine blk_put (cs := #[.int .i64 t224, .int .i64 t225, .slice Ao16 t226.length co16, .slice Ao17 t229.length co17, .bool t232, .bool t233, .bool false]) ?_ 6 _ rfl; (with_reducible repeat first | apply kn_ | apply kd_ | apply ka_); refine blk_put (cs := #[.int .i64 t224, .int .i64 t225, .slice Ao16 t226.length co16, .slice Ao17 t229.length co17, .bool t232, .bool false, .bool false]) ?_ 5 _ rfl; (with_reducible repeat first | apply kn_ | apply kd_ | apply ka_); refine blk_put (cs := #[.int .i64 t224, .int .i64 t225, .slice Ao16 t226.length co16, .slice Ao17 t229.length co17, .bool false, .bool false, .bool false]) ?_ 4 _ rfl; (with_reducible repeat first | apply kn_ | apply kd_ | apply ka_); refine blk_put (cs := #[.int .i64 t224, .int .i64 t225, .slice Ao16 t226.length co16, .slice none 0 0, .bool false, .bool false, .bool false]) ?_ 3 _ rfl; (with_reducible repeat first | apply kn_ | apply kd_ | apply ka_); refine blk_put (cs := #[.int .i64 t224, .int .i64 t225, .slice none 0 0, .slice none 0 0, .bool false, .bool false, .bool false]) ?_ 2 _ rfl; (with_reducible repeat first | apply kn_ | apply kd_ | apply ka_); refine blk_put (cs := #[.int .i64 t224, .int .i64 0, .slice none 0 0, .slice none 0 0, .bool false, .bool false, .bool false]) ?_ 1 _ rfl; (with_reducible repeat first | apply kn_ | apply kd_ | apply ka_); refine blk_put (cs := #[.int .i64 0, .int .i64 0, .slice none 0 0, .slice none 0 0, .bool false, .bool false, .bool false]) ?_ 0 _ rfl; (with_reducible repeat first | apply kn_ | apply kd_ | apply ka_); exact BK236.out⟩, ⟨by repeat (with_reducible first | exact HB.out | apply ba_ | apply bn_ | apply b1_ | refine bs_ ?_ GE222.out | refine bs_ ?_ GE223.out | refine bs_ ?_ GE236.out)⟩⟩
 case rest =>
  clear HC6
  (try clear c1); (try clear c2); (try clear p2); (try clear c3); (try clear c4); (try clear c5); (try clear c5b0); (try clear c5b1); (try clear c9); (try clear c13); (try clear c14); (try clear c15); (try clear c18); (try clear c18b0); (try clear c18b1); (try clear c19); (try clear c20); (try clear c22); (try clear c24); (try clear c24b0); (try clear c24b1); (try clear c25); (try clear c26); (try clear c28); (try clear c30); (try clear c30b0); (try clear c30b1); (try clear c31); (try clear c32); (try clear c33); (try clear c35); (try clear c37); (try clear c38); (try clear c40); (try clear c41); (try clear z10_0 z10_1); (try clear z15_0 z15_1 z15_2 z15_3 z15_4 z15_5 z15_6); (try clear z21_0 z21_1 z21_2 z21_3 z21_4 z21_5 z21_6); (try clear z23_0 z23_1); (try clear z27_0 z27_1 z27_2 z27_3 z27_4 z27_5 z27_6); (try clear z29_0 z29_1); (try clear z34_0 z34_1 z34_2 z34_3 z34_4 z34_5 z34_6); (try clear z36_0 z36_1); (try clear z39_0 z39_1 z39_2 z39_3 z39_4 z39_5 z39_6); (try clear z42_0 z42_1 z42_2 z42_3 z42_4 z42_5 z42_6); (try clear f10_0 f10_1); (try clear f15_0 f15_1 f15_2 f15_3 f15_4 f15_5 f15_6); (try clear f21_0 f21_1 f21_2 f21_3 f21_4 f21_5 f21_6); (try clear f23_0 f23_1); (try clear f27_0 f27_1 f27_2 f27_3 f27_4 f27_5 f27_6); (try clear f29_0 f29_1); (try clear f34_0 f34_1 f34_2 f34_3 f34_4 f34_5 f34_6); (try clear f36_0 f36_1); (try clear f39_0 f39_1 f39_2 f39_3 f39_4 f39_5 f39_6); (try clear f42_0 f42_1 f42_2 f42_3 f42_4 f42_5 f42_6)
  obtain ⟨kq, x9_5, rfl, HA, HJ5, HO_237002, HO_237003, BK222, BK223, BK236, HB⟩ := hcut
  cases kq with
  | zero => exact absurd HA.out (by simp [atticref19_Check.j0])
  | succ kj5 =>
   have H := HA.out
   clear HA
   simp only [atticref19_Check.j0] at H
   have HC43 := ak H
   clear H
   go_upto_region 9 with (fail)
   go_cut [98] (fun v98 wc => ∃ (kq : Nat) (x98_42 : Bool), v98 = .bool x98_42 ∧ Aside0 (atticref19_Check.j1 kq x98_42 l0_0 l0_1 a2_0 a2_1 l2_2 l2_3 a2_4 a2_5 a2_6 = some r) ∧ Aside0 (kq ≤ kj5) ∧ Aside0 (Kd.R Kd.bool 4 wc w.heap.size (fun _ => True) (.slice Ao16 t226.length co16) t226) ∧ Aside0 (Kd.R (Kd.int .i64) 3 wc w.heap.size (fun _ => True) (.slice Ao17 t229.length co17) t229) ∧ Aside0 (wc.heap[gb222]? = some (.cells #[(.slice A0_0 l0_0.length c0_0), (.slice A0_1 l0_1.length c0_1)] 25 (0, 0))) ∧ Aside0 (wc.heap[gb223]? = some (.cells #[.int .i64 a2_0, .int .i64 a2_1, (.slice A2_2 l2_2.length c2_2), (.slice A2_3 l2_3.length c2_3), .bool a2_4, .bool a2_5, .bool a2_6] 28 (0, 0))) ∧ Aside0 (wc.heap[gb236]? = some (.cells #[.int .i64 t224, .int .i64 t225, (.slice Ao16 t226.length co16), (.slice Ao17 t229.length co17), .bool t232, .bool t233, .bool t234] 28 (0, 0))) ∧ Aside0 (Below w.heap.size w wc))
   case first =>
    have H := HC43.out
    clear HC43
    by_cases c44 : a2_0 < 0
    ·rw [if_pos c44] at H
     have c44b0 : decide (a2_0 < 0) = true := decide_eq_true c44
     clear c44
     (first | rw [c44b0] | (simp only [i64_w, i32_w]; rw [c44b0]) | skip)
     have H' := ak H
     clear H
     have hnb45 := NB223_222.out
     have hnc45 := NB222_223.out
     have hnb46 := NB223_236.out
     have hnc46 := NB236_223.out
     obtain ⟨z47_0, z47_1, z47_2, z47_3, z47_4, z47_5, z47_6, f47_0, f47_1, f47_2, f47_3, f47_4, f47_5, f47_6⟩ := kk7 BK223.out
     go_wp2
     go_meet
     case rel => exact ⟨_, (true), (by first | rfl | (simp; done) | (simp [*]; done) | (simp [Int.tdiv_eq_ediv_of_nonneg]; done)), H', ⟨by have := HJ5.out; first | omega | exact Nat.le_refl _⟩, ⟨by (with_reducible repeat (first | apply Kd.R_alloc | apply Kd.R_drewN | apply Kd.R_drew)); exact HO_237002.out⟩, ⟨by (with_reducible repeat (first | apply Kd.R_alloc | apply Kd.R_drewN | apply Kd.R_drew)); exact HO_237003.out⟩, ⟨by (with_reducible repeat first | apply kn_ | apply kd_ | apply ka_); exact BK222.out⟩, ⟨by (with_reducible repeat first | apply kn_ | apply kd_ | apply ka_); exact BK223.out⟩, ⟨by (with_reducible repeat first | apply kn_ | apply kd_ | apply ka_); exact BK236.out⟩, ⟨by repeat (with_reducible first | exact HB.out | apply ba_ | apply bn_ | apply b1_ | refine bs_ ?_ GE222.out | refine bs_ ?_ GE223.out | refine bs_ ?_ GE236.out)⟩⟩
    rw [if_neg c44] at H
    have c44b0 : decide (a2_0 < 0) = false := decide_eq_false c44
    clear c44
    (first | rw [c44b0] | (simp only [i64_w, i32_w]; rw [c44b0]) | skip)
    by_cases c48 : a2_0 > 3
    ·rw [if_pos c48] at H
     have c48b0 : decide (3 < a2_0) = true := decide_eq_true c48
     clear c48
     have H' := ak H
     clear H
     have hnb49 := NB223_222.out
     have hnc49 := NB222_223.out
     have hnb50 := NB223_236.out
     have hnc50 := NB236_223.out
     obtain ⟨z51_0, z51_1, z51_2, z51_3, z51_4, z51_5, z51_6, f51_0, f51_1, f51_2, f51_3, f51_4, f51_5, f51_6⟩ := kk7 BK223.out
     go_wp2
     go_meet
     case rel => exact ⟨_, (true), (by first | rfl | (simp; done) | (simp [*]; done) | (simp [Int.tdiv_eq_ediv_of_nonneg]; done)), H', ⟨by have := HJ5.out; first | omega | exact Nat.le_refl _⟩, ⟨by (with_reducible repeat (first | apply Kd.R_alloc | apply Kd.R_drewN | apply Kd.R_drew)); exact HO_237002.out⟩, ⟨by (with_reducible repeat (first | apply Kd.R_alloc | apply Kd.R_drewN | apply Kd.R_drew)); exact HO_237003.out⟩, ⟨by (with_reducible repeat first | apply kn_ | apply kd_ | apply ka_); exact BK222.out⟩, ⟨by (with_reducible repeat first | apply kn_ | apply kd_ | apply ka_); exact BK223.out⟩, ⟨by (with_reducible repeat first | apply kn_ | apply kd_ | apply ka_); exact BK236.out⟩, ⟨by repeat (with_reducible first | exact HB.out | apply ba_ | apply bn_ | apply b1_ | refine bs_ ?_ GE222.out | refine bs_ ?_ GE223.out | refine bs_ ?_ GE236.out)⟩⟩
    rw [if_neg c48] at H
    have c48b0 : decide (3 < a2_0) = false := decide_eq_false c48
    clear c48
    by_cases c52 : a2_1 < 0
    ·rw [if_pos c52] at H
     have c52b0 : decide (a2_1 < 0) = true := decide_eq_true c52
     clear c52
     have H' := ak H
     clear H
     have hnb53 := NB223_222.out
     have hnc53 := NB222_223.out
     have hnb54 := NB223_236.out
     have hnc54 := NB236_223.out
     obtain ⟨z55_0, z55_1, z55_2, z55_3, z55_4, z55_5, z55_6, f55_0, f55_1, f55_2, f55_3, f55_4, f55_5, f55_6⟩ := kk7 BK223.out
     go_wp2
     go_meet
     case rel => exact ⟨_, (true), (by first | rfl | (simp; done) | (simp [*]; done) | (simp [Int.tdiv_eq_ediv_of_nonneg]; done)), H', ⟨by have := HJ5.out; first | omega | exact Nat.le_refl _⟩, ⟨by (with_reducible repeat (first | apply Kd.R_alloc | apply Kd.R_drewN | apply Kd.R_drew)); exact HO_237002.out⟩, ⟨by (with_reducible repeat (first | apply Kd.R_alloc | apply Kd.R_drewN | apply Kd.R_drew)); exact HO_237003.out⟩, ⟨by (with_reducible repeat first | apply kn_ | apply kd_ | apply ka_); exact BK222.out⟩, ⟨by (with_reducible repeat first | apply kn_ | apply kd_ | apply ka_); exact BK223.out⟩, ⟨by (with_reducible repeat first | apply kn_ | apply kd_ | apply ka_); exact BK236.out⟩, ⟨by repeat (with_reducible first | exact HB.out | apply ba_ | apply bn_ | apply b1_ | refine bs_ ?_ GE222.out | refine bs_ ?_ GE223.out | refine bs_ ?_ GE236.out)⟩⟩
    rw [if_neg c52] at H
    have c52b0 : decide (a2_1 < 0) = false := decide_eq_false c52
    clear c52
    by_cases c56 : a2_1 > x9_5
    ·rw [if_pos c56] at H
     have c56b0 : decide (x9_5 < a2_1) = true := decide_eq_true c56
     clear c56
     have H' := ak H
     clear H
     have hnb57 := NB223_222.out
     have hnc57 := NB222_223.out
     have hnb58 := NB223_236.out
     have hnc58 := NB236_223.out
     obtain ⟨z59_0, z59_1, z59_2, z59_3, z59_4, z59_5, z59_6, f59_0, f59_1, f59_2, f59_3, f59_4, f59_5, f59_6⟩ := kk7 BK223.out
     go_wp2
     go_meet
     case rel => exact ⟨_, (true), (by first | rfl | (simp; done) | (simp [*]; done) | (simp [Int.tdiv_eq_ediv_of_nonneg]; done)), H', ⟨by have := HJ5.out; first | omega | exact Nat.le_refl _⟩, ⟨by (with_reducible repeat (first | apply Kd.R_alloc | apply Kd.R_drewN | apply Kd.R_drew)); exact HO_237002.out⟩, ⟨by (with_reducible repeat (first | apply Kd.R_alloc | apply Kd.R_drewN | apply Kd.R_drew)); exact HO_237003.out⟩, ⟨by (with_reducible repeat first | apply kn_ | apply kd_ | apply ka_); exact BK222.out⟩, ⟨by (with_reducible repeat first | apply kn_ | apply kd_ | apply ka_); exact BK223.out⟩, ⟨by (with_reducible repeat first | apply kn_ | apply kd_ | apply ka_); exact BK236.out⟩, ⟨by repeat (with_reducible first | exact HB.out | apply ba_ | apply bn_ | apply b1_ | refine bs_ ?_ GE222.out | refine bs_ ?_ GE223.out | refine bs_ ?_ GE236.out)⟩⟩
    rw [if_neg c56] at H
    have c56b0 : decide (x9_5 < a2_1) = false := decide_eq_false c56
    clear c56
    by_cases c60 : (l2_2.length : Int) = (l0_0.length : Int); rotate_left
    ·rw [if_neg c60] at H
     have c60b0 : ((l2_2.length : Int) == (l0_0.length : Int)) = false := beq_eq_false_iff_ne.mpr c60
     have c60b1 : ((l2_2.length : Int) != (l0_0.length : Int)) = true := bne_iff_ne.mpr c60
     have c60b2 : (l2_2.length == l0_0.length) = false := by first | simpa using c60 | (simp at c60 ⊢; omega)
     have H' := ak H
     clear H
     have hnb96 := NB223_222.out
     have hnc96 := NB222_223.out
     have hnb97 := NB223_236.out
     have hnc97 := NB236_223.out
     obtain ⟨z98_0, z98_1, z98_2, z98_3, z98_4, z98_5, z98_6, f98_0, f98_1, f98_2, f98_3, f98_4, f98_5, f98_6⟩ := kk7 BK223.out
     have hnb99 := NB222_236.out
     have hnc99 := NB236_222.out
     obtain ⟨z100_0, z100_1, f100_0, f100_1⟩ := kk2 BK222.out
     go_wp2
     go_meet
     case rel => exact ⟨_, (true), (by first | rfl | (simp; done) | (simp [*]; done) | (simp [Int.tdiv_eq_ediv_of_nonneg]; done)), H', ⟨by have := HJ5.out; first | omega | exact Nat.le_refl _⟩, ⟨by (with_reducible repeat (first | apply Kd.R_alloc | apply Kd.R_drewN | apply Kd.R_drew)); exact HO_237002.out⟩, ⟨by (with_reducible repeat (first | apply Kd.R_alloc | apply Kd.R_drewN | apply Kd.R_drew)); exact HO_237003.out⟩, ⟨by (with_reducible repeat first | apply kn_ | apply kd_ | apply ka_); exact BK222.out⟩, ⟨by (with_reducible repeat first | apply kn_ | apply kd_ | apply ka_); exact BK223.out⟩, ⟨by (with_reducible repeat first | apply kn_ | apply kd_ | apply ka_); exact BK236.out⟩, ⟨by repeat (with_reducible first | exact HB.out | apply ba_ | apply bn_ | apply b1_ | refine bs_ ?_ GE222.out | refine bs_ ?_ GE223.out | refine bs_ ?_ GE236.out)⟩⟩
    rw [if_pos c60] at H
    have c60b0 : ((l2_2.length : Int) == (l0_0.length : Int)) = true := beq_iff_eq.mpr c60
    have c60b1 : ((l2_2.length : Int) != (l0_0.length : Int)) = false := bne_eq_false_iff_eq.mpr c60
    have c60b2 : (l2_2.length == l0_0.length) = true := by first | simpa using c60 | (simp at c60 ⊢; omega)
    clear c60
    by_cases c61 : (l2_3.length : Int) > a1
    ·rw [if_pos c61] at H
     have c61b0 : decide (a1 < (l2_3.length : Int)) = true := decide_eq_true c61
     clear c61
     have H' := ak H
     clear H
     have hnb62 := NB223_222.out
     have hnc62 := NB222_223.out
     have hnb63 := NB223_236.out
     have hnc63 := NB236_223.out
     obtain ⟨z64_0, z64_1, z64_2, z64_3, z64_4, z64_5, z64_6, f64_0, f64_1, f64_2, f64_3, f64_4, f64_5, f64_6⟩ := kk7 BK223.out
     have hnb65 := NB222_236.out
     have hnc65 := NB236_222.out
     obtain ⟨z66_0, z66_1, f66_0, f66_1⟩ := kk2 BK222.out
     go_wp2
     go_meet
     case rel => exact ⟨_, (true), (by first | rfl | (simp; done) | (simp [*]; done) | (simp [Int.tdiv_eq_ediv_of_nonneg]; done)), H', ⟨by have := HJ5.out; first | omega | exact Nat.le_refl _⟩, ⟨by (with_reducible repeat (first | apply Kd.R_alloc | apply Kd.R_drewN | apply Kd.R_drew)); exact HO_237002.out⟩, ⟨by (with_reducible repeat (first | apply Kd.R_alloc | apply Kd.R_drewN | apply Kd.R_drew)); exact HO_237003.out⟩, ⟨by (with_reducible repeat first | apply kn_ | apply kd_ | apply ka_); exact BK222.out⟩, ⟨by (with_reducible repeat first | apply kn_ | apply kd_ | apply ka_); exact BK223.out⟩, ⟨by (with_reducible repeat first | apply kn_ | apply kd_ | apply ka_); exact BK236.out⟩, ⟨by repeat (with_reducible first | exact HB.out | apply ba_ | apply bn_ | apply b1_ | refine bs_ ?_ GE222.out | refine bs_ ?_ GE223.out | refine bs_ ?_ GE236.out)⟩⟩
    rw [if_neg c61] at H
    have c61b0 : decide (a1 < (l2_3.length : Int)) = false := decide_eq_false c61
    clear c61
    by_cases c67 : a2_6 = true; rotate_left
    ·replace c67 := Bool.eq_false_iff.mpr c67
     subst c67
     have H1 : (if a2_0 ≥ 2 then (atticref19_Check.j1 kj5 (decide ((l2_3.length : Int) > 0)) l0_0 l0_1 a2_0 a2_1 l2_2 l2_3 a2_4 a2_5 false) else (atticref19_Check.j1 kj5 false l0_0 l0_1 a2_0 a2_1 l2_2 l2_3 a2_4 a2_5 false)) = some r := by rw [if_neg (show ¬ (false = true) by decide)] at H; exact H
     clear H
     have H := H1
     clear H1
     by_cases c85 : a2_0 ≥ 2; rotate_left
     ·rw [if_neg c85] at H
      have c85b0 : decide (2 ≤ a2_0) = false := decide_eq_false c85
      clear c85
      have H' := ak H
      clear H
      have hnb91 := NB223_222.out
      have hnc91 := NB222_223.out
      have hnb92 := NB223_236.out
      have hnc92 := NB236_223.out
      obtain ⟨z93_0, z93_1, z93_2, z93_3, z93_4, z93_5, z93_6, f93_0, f93_1, f93_2, f93_3, f93_4, f93_5, f93_6⟩ := kk7 BK223.out
      have hnb94 := NB222_236.out
      have hnc94 := NB236_222.out
      obtain ⟨z95_0, z95_1, f95_0, f95_1⟩ := kk2 BK222.out
      go_wp2
      go_meet
      case rel => exact ⟨_, (false), (by first | rfl | (simp; done) | (simp [*]; done) | (simp [Int.tdiv_eq_ediv_of_nonneg]; done)), H', ⟨by have := HJ5.out; first | omega | exact Nat.le_refl _⟩, ⟨by (with_reducible repeat (first | apply Kd.R_alloc | apply Kd.R_drewN | apply Kd.R_drew)); exact HO_237002.out⟩, ⟨by (with_reducible repeat (first | apply Kd.R_alloc | apply Kd.R_drewN | apply Kd.R_drew)); exact HO_237003.out⟩, ⟨by (with_reducible repeat first | apply kn_ | apply kd_ | apply ka_); exact BK222.out⟩, ⟨by (with_reducible repeat first | apply kn_ | apply kd_ | apply ka_); exact BK223.out⟩, ⟨by (with_reducible repeat first | apply kn_ | apply kd_ | apply ka_); exact BK236.out⟩, ⟨by repeat (with_reducible first | exact HB.out | apply ba_ | apply bn_ | apply b1_ | refine bs_ ?_ GE222.out | refine bs_ ?_ GE223.out | refine bs_ ?_ GE236.out)⟩⟩
     rw [if_pos c85] at H
     have c85b0 : decide (2 ≤ a2_0) = true := decide_eq_true c85
     clear c85
     have H' := ak H
     clear H
     have hnb86 := NB223_222.out
     have hnc86 := NB222_223.out
     have hnb87 := NB223_236.out
     have hnc87 := NB236_223.out
     obtain ⟨z88_0, z88_1, z88_2, z88_3, z88_4, z88_5, z88_6, f88_0, f88_1, f88_2, f88_3, f88_4, f88_5, f88_6⟩ := kk7 BK223.out
     have hnb89 := NB222_236.out
     have hnc89 := NB236_222.out
     obtain ⟨z90_0, z90_1, f90_0, f90_1⟩ := kk2 BK222.out
     go_wp2
     go_meet
     case rel => exact ⟨_, (decide ((l2_3.length : Int) > 0)), (by first | rfl | (simp; done) | (simp [*]; done) | (simp [Int.tdiv_eq_ediv_of_nonneg]; done)), H', ⟨by have := HJ5.out; first | omega | exact Nat.le_refl _⟩, ⟨by (with_reducible repeat (first | apply Kd.R_alloc | apply Kd.R_drewN | apply Kd.R_drew)); exact HO_237002.out⟩, ⟨by (with_reducible repeat (first | apply Kd.R_alloc | apply Kd.R_drewN | apply Kd.R_drew)); exact HO_237003.out⟩, ⟨by (with_reducible repeat first | apply kn_ | apply kd_ | apply ka_); exact BK222.out⟩, ⟨by (with_reducible repeat first | apply kn_ | apply kd_ | apply ka_); exact BK223.out⟩, ⟨by (with_reducible repeat first | apply kn_ | apply kd_ | apply ka_); exact BK236.out⟩, ⟨by repeat (with_reducible first | exact HB.out | apply ba_ | apply bn_ | apply b1_ | refine bs_ ?_ GE222.out | refine bs_ ?_ GE223.out | refine bs_ ?_ GE236.out)⟩⟩
    subst c67
    have H1 : (if a2_0 = 1 then (if a2_0 ≥ 2 then (atticref19_Check.j1 kj5 (decide ((l2_3.length : Int) > 0)) l0_0 l0_1 a2_0 a2_1 l2_2 l2_3 a2_4 a2_5 true) else (atticref19_Check.j1 kj5 false l0_0 l0_1 a2_0 a2_1 l2_2 l2_3 a2_4 a2_5 true)) else (atticref19_Check.j1 kj5 true l0_0 l0_1 a2_0 a2_1 l2_2 l2_3 a2_4 a2_5 true)) = some r := by rw [if_pos rfl] at H; exact H
    clear H
    have H := H1
    clear H1
    by_cases c68 : a2_0 = 1; rotate_left
    ·rw [if_neg c68] at H
     have c68b0 : (a2_0 == 1) = false := beq_eq_false_iff_ne.mpr c68
     have c68b1 : (a2_0 != 1) = true := bne_iff_ne.mpr c68
     have H' := ak H
     clear H
     have hnb80 := NB223_222.out
     have hnc80 := NB222_223.out
     have hnb81 := NB223_236.out
     have hnc81 := NB236_223.out
     obtain ⟨z82_0, z82_1, z82_2, z82_3, z82_4, z82_5, z82_6, f82_0, f82_1, f82_2, f82_3, f82_4, f82_5, f82_6⟩ := kk7 BK223.out
     have hnb83 := NB222_236.out
     have hnc83 := NB236_222.out
     obtain ⟨z84_0, z84_1, f84_0, f84_1⟩ := kk2 BK222.out
     go_wp2
     go_meet
     case rel => exact ⟨_, (true), (by first | rfl | (simp; done) | (simp [*]; done) | (simp [Int.tdiv_eq_ediv_of_nonneg]; done)), H', ⟨by have := HJ5.out; first | omega | exact Nat.le_refl _⟩, ⟨by (with_reducible repeat (first | apply Kd.R_alloc | apply Kd.R_drewN | apply Kd.R_drew)); exact HO_237002.out⟩, ⟨by (with_reducible repeat (first | apply Kd.R_alloc | apply Kd.R_drewN | apply Kd.R_drew)); exact HO_237003.out⟩, ⟨by (with_reducible repeat first | apply kn_ | apply kd_ | apply ka_); exact BK222.out⟩, ⟨by (with_reducible repeat first | apply kn_ | apply kd_ | apply ka_); exact BK223.out⟩, ⟨by (with_reducible repeat first | apply kn_ | apply kd_ | apply ka_); exact BK236.out⟩, ⟨by repeat (with_reducible first | exact HB.out | apply ba_ | apply bn_ | apply b1_ | refine bs_ ?_ GE222.out | refine bs_ ?_ GE223.out | refine bs_ ?_ GE236.out)⟩⟩
    rw [if_pos c68] at H
    have c68b0 : (a2_0 == 1) = true := beq_iff_eq.mpr c68
    have c68b1 : (a2_0 != 1) = false := bne_eq_false_iff_eq.mpr c68
    clear c68
    by_cases c69 : a2_0 ≥ 2; rotate_left
    ·rw [if_neg c69] at H
     have c69b0 : decide (2 ≤ a2_0) = false := decide_eq_false c69
     clear c69
     have H' := ak H
     clear H
     have hnb75 := NB223_222.out
     have hnc75 := NB222_223.out
     have hnb76 := NB223_236.out
     have hnc76 := NB236_223.out
     obtain ⟨z77_0, z77_1, z77_2, z77_3, z77_4, z77_5, z77_6, f77_0, f77_1, f77_2, f77_3, f77_4, f77_5, f77_6⟩ := kk7 BK223.out
     have hnb78 := NB222_236.out
     have hnc78 := NB236_222.out
     obtain ⟨z79_0, z79_1, f79_0, f79_1⟩ := kk2 BK222.out
     go_wp2
     go_meet
     case rel => exact ⟨_, (false), (by first | rfl | (simp; done) | (simp [*]; done) | (simp [Int.tdiv_eq_ediv_of_nonneg]; done)), H', ⟨by have := HJ5.out; first | omega | exact Nat.le_refl _⟩, ⟨by (with_reducible repeat (first | apply Kd.R_alloc | apply Kd.R_drewN | apply Kd.R_drew)); exact HO_237002.out⟩, ⟨by (with_reducible repeat (first | apply Kd.R_alloc | apply Kd.R_drewN | apply Kd.R_drew)); exact HO_237003.out⟩, ⟨by (with_reducible repeat first | apply kn_ | apply kd_ | apply ka_); exact BK222.out⟩, ⟨by (with_reducible repeat first | apply kn_ | apply kd_ | apply ka_); exact BK223.out⟩, ⟨by (with_reducible repeat first | apply kn_ | apply kd_ | apply ka_); exact BK236.out⟩, ⟨by repeat (with_reducible first | exact HB.out | apply ba_ | apply bn_ | apply b1_ | refine bs_ ?_ GE222.out | refine bs_ ?_ GE223.out | refine bs_ ?_ GE236.out)⟩⟩
    rw [if_pos c69] at H
    have c69b0 : decide (2 ≤ a2_0) = true := decide_eq_true c69
    clear c69
    have H' := ak H
    clear H
    have hnb70 := NB223_222.out
    have hnc70 := NB222_223.out
    have hnb71 := NB223_236.out
    have hnc71 := NB236_223.out
    obtain ⟨z72_0, z72_1, z72_2, z72_3, z72_4, z72_5, z72_6, f72_0, f72_1, f72_2, f72_3, f72_4, f72_5, f72_6⟩ := kk7 BK223.out
    have hnb73 := NB222_236.out
    have hnc73 := NB236_222.out
    obtain ⟨z74_0, z74_1, f74_0, f74_1⟩ := kk2 BK222.out
    go_wp2
    go_meet
    case rel => exact ⟨_, (decide ((l2_3.length : Int) > 0)), (by first | rfl | (simp; done) | (simp [*]; done) | (simp [Int.tdiv_eq_ediv_of_nonneg]; done)), H', ⟨by have := HJ5.out; first | omega | exact Nat.le_refl _⟩, ⟨by (with_reducible repeat (first | apply Kd.R_alloc | apply Kd.R_drewN | apply Kd.R_drew)); exact HO_237002.out⟩, ⟨by (with_reducible repeat (first | apply Kd.R_alloc | apply Kd.R_drewN | apply Kd.R_drew)); exact HO_237003.out⟩, ⟨by (with_reducible repeat first | apply kn_ | apply kd_ | apply ka_); exact BK222.out⟩, ⟨by (with_reducible repeat first | apply kn_ | apply kd_ | apply ka_); exact BK223.out⟩, ⟨by (with_reducible repeat first | apply kn_ | apply kd_ | apply ka_); exact BK236.out⟩, ⟨by repeat (with_reducible first | exact HB.out | apply ba_ | apply bn_ | apply b1_ | refine bs_ ?_ GE222.out | refine bs_ ?_ GE223.out | refine bs_ ?_ GE236.out)⟩⟩
   case rest =>
    clear HC43
    (try clear c1); (try clear c2); (try clear p2); (try clear c3); (try clear c4); (try clear c5); (try clear c5b0); (try clear c5b1); (try clear c6); (try clear c7); (try clear c8); (try clear c9); (try clear c13); (try clear c14); (try clear c15); (try clear c18); (try clear c18b0); (try clear c18b1); (try clear c19); (try clear c20); (try clear c22); (try clear c24); (try clear c24b0); (try clear c24b1); (try clear c25); (try clear c26); (try clear c28); (try clear c30); (try clear c30b0); (try clear c30b1); (try clear c31); (try clear c32); (try clear c33); (try clear c35); (try clear c37); (try clear c38); (try clear c40); (try clear c41); (try clear c44); (try clear c44b0); (try clear c45); (try clear c46); (try clear c48); (try clear c48b0); (try clear c49); (try clear c50); (try clear c52); (try clear c52b0); (try clear c53); (try clear c54); (try clear c56); (try clear c56b0); (try clear c57); (try clear c58); (try clear c60); (try clear c60b0); (try clear c60b1); (try clear c60b2); (try clear c61); (try clear c61b0); (try clear c62); (try clear c63); (try clear c65); (try clear c67); (try clear c68); (try clear c68b0); (try clear c68b1); (try clear c69); (try clear c69b0); (try clear c70); (try clear c71); (try clear c73); (try clear c75); (try clear c76); (try clear c78); (try clear c80); (try clear c81); (try clear c83); (try clear c85); (try clear c85b0); (try clear c86); (try clear c87); (try clear c89); (try clear c91); (try clear c92); (try clear c94); (try clear c96); (try clear c97); (try clear c99); (try clear z100_0 z100_1); (try clear z10_0 z10_1); (try clear z15_0 z15_1 z15_2 z15_3 z15_4 z15_5 z15_6); (try clear z21_0 z21_1 z21_2 z21_3 z21_4 z21_5 z21_6); (try clear z23_0 z23_1); (try clear z27_0 z27_1 z27_2 z27_3 z27_4 z27_5 z27_6); (try clear z29_0 z29_1); (try clear z34_0 z34_1 z34_2 z34_3 z34_4 z34_5 z34_6); (try clear z36_0 z36_1); (try clear z39_0 z39_1 z39_2 z39_3 z39_4 z39_5 z39_6); (try clear z42_0 z42_1 z42_2 z42_3 z42_4 z42_5 z42_6); (try clear z47_0 z47_1 z47_2 z47_3 z47_4 z47_5 z47_6); (try clear z51_0 z51_1 z51_2 z51_3 z51_4 z51_5 z51_6); (try clear z55_0 z55_1 z55_2 z55_3 z55_4 z55_5 z55_6); (try clear z59_0 z59_1 z59_2 z59_3 z59_4 z59_5 z59_6); (try clear z64_0 z64_1 z64_2 z64_3 z64_4 z64_5 z64_6); (try clear z66_0 z66_1); (try clear z72_0 z72_1 z72_2 z72_3 z72_4 z72_5 z72_6); (try clear z74_0 z74_1); (try clear z77_0 z77_1 z77_2 z77_3 z77_4 z77_5 z77_6); (try clear z79_0 z79_1); (try clear z82_0 z82_1 z82_2 z82_3 z82_4 z82_5 z82_6); (try clear z84_0 z84_1); (try clear z88_0 z88_1 z88_2 z88_3 z88_4 z88_5 z88_6); (try clear z90_0 z90_1); (try clear z93_0 z93_1 z93_2 z93_3 z93_4 z93_5 z93_6); (try clear z95_0 z95_1); (try clear z98_0 z98_1 z98_2 z98_3 z98_4 z98_5 z98_6); (try clear f100_0 f100_1); (try clear f10_0 f10_1); (try clear f15_0 f15_1 f15_2 f15_3 f15_4 f15_5 f15_6); (try clear f21_0 f21_1 f21_2 f21_3 f21_4 f21_5 f21_6); (try clear f23_0 f23_1); (try clear f27_0 f27_1 f27_2 f27_3 f27_4 f27_5 f27_6); (try clear f29_0 f29_1); (try clear f34_0 f34_1 f34_2 f34_3 f34_4 f34_5 f34_6); (try clear f36_0 f36_1); (try clear f39_0 f39_1 f39_2 f39_3 f39_4 f39_5 f39_6); (try clear f42_0 f42_1 f42_2 f42_3 f42_4 f42_5 f42_6); (try clear f47_0 f47_1 f47_2 f47_3 f47_4 f47_5 f47_6); (try clear f51_0 f51_1 f51_2 f51_3 f51_4 f51_5 f51_6); (try clear f55_0 f55_1 f55_2 f55_3 f55_4 f55_5 f55_6); (try clear f59_0 f59_1 f59_2 f59_3 f59_4 f59_5 f59_6); (try clear f64_0 f64_1 f64_2 f64_3 f64_4 f64_5 f64_6); (try clear f66_0 f66_1); (try clear f72_0 f72_1 f72_2 f72_3 f72_4 f72_5 f72_6); (try clear f74_0 f74_1); (try clear f77_0 f77_1 f77_2 f77_3 f77_4 f77_5 f77_6); (try clear f79_0 f79_1); (try clear f82_0 f82_1 f82_2 f82_3 f82_4 f82_5 f82_6); (try clear f84_0 f84_1); (try clear f88_0 f88_1 f88_2 f88_3 f88_4 f88_5 f88_6); (try clear f90_0 f90_1); (try clear f93_0 f93_1 f93_2 f93_3 f93_4 f93_5 f93_6); (try clear f95_0 f95_1); (try clear f98_0 f98_1 f98_2 f98_3 f98_4 f98_5 f98_6); (try clear p2)
    obtain ⟨kq, x98_42, rfl, HA, HJ42, HO_237002, HO_237003, BK222, BK223, BK236, HB⟩ := hcut
    cases kq with
    | zero => exact absurd HA.out (by simp [atticref19_Check.j1])
    | succ kj42 =>
     have H := HA.out
     clear HA
     simp only [atticref19_Check.j1] at H
     by_cases c101 : x98_42 = true
     ·subst c101
      have H1 : (some 191) = some r := by rw [if_pos rfl] at H; exact H
      clear H
      have H := H1
      clear H1
      obtain rfl := Option.some.inj H
      go_wp2
      go_ret
      exact ⟨by first | rfl | (simp [errW_none, errW_some] <;> rfl) | (simp [*, errW_none, errW_some] <;> rfl) | (simp [Int.tdiv_eq_ediv_of_nonneg]; done), by repeat (with_reducible first | exact HB.out | apply ba_ | apply bn_ | apply b1_ | refine bs_ ?_ GE222.out | refine bs_ ?_ GE223.out | refine bs_ ?_ GE236.out)⟩
     replace c101 := Bool.eq_false_iff.mpr c101
     subst c101
     have H1 : (atticref19_Check.l0 kj42 0 l0_0 l0_1 a2_0 a2_1 l2_2 l2_3 a2_4 a2_5 a2_6) = some r := by rw [if_neg (show ¬ (false = true) by decide)] at H; exact H
     clear H
     have H := H1
     clear H1
     have H' := ak H
     clear H
     go_wp2
     go_loopg [10] kj42 (fun kq v10 w' => ∃ (x10_3 : Int), v10 = .int .i64 x10_3 ∧ Aside0 (atticref19_Check.l0 kq x10_3 l0_0 l0_1 a2_0 a2_1 l2_2 l2_3 a2_4 a2_5 a2_6 = some r) ∧ Aside0 (kq ≤ kj42) ∧ Aside0 (Kd.R Kd.bool 4 w' w.heap.size (fun _ => True) (.slice Ao16 t226.length co16) t226) ∧ Aside0 (Kd.R (Kd.int .i64) 3 w' w.heap.size (fun _ => True) (.slice Ao17 t229.length co17) t229) ∧ Aside0 (w'.heap[gb222]? = some (.cells #[(.slice A0_0 l0_0.length c0_0), (.slice A0_1 l0_1.length c0_1)] 25 (0, 0))) ∧ Aside0 (w'.heap[gb223]? = some (.cells #[.int .i64 a2_0, .int .i64 a2_1, (.slice A2_2 l2_2.length c2_2), (.slice A2_3 l2_3.length c2_3), .bool a2_4, .bool a2_5, .bool a2_6] 28 (0, 0))) ∧ Aside0 (w'.heap[gb236]? = some (.cells #[.int .i64 t224, .int .i64 t225, (.slice Ao16 t226.length co16), (.slice Ao17 t229.length co17), .bool t232, .bool t233, .bool t234] 28 (0, 0))) ∧ Aside0 (Below w.heap.size w w'))
     case atStart => exact ⟨(0), (by first | rfl | (simp; done) | (simp [*]; done) | (simp [Int.tdiv_eq_ediv_of_nonneg]; done)), H', ⟨Nat.le_refl _⟩, ⟨by (with_reducible repeat (first | apply Kd.R_alloc | apply Kd.R_drewN | apply Kd.R_drew)); exact HO_237002.out⟩, ⟨by (with_reducible repeat (first | apply Kd.R_alloc | apply Kd.R_drewN | apply Kd.R_drew)); exact HO_237003.out⟩, ⟨by (with_reducible repeat first | apply kn_ | apply kd_ | apply ka_); exact BK222.out⟩, ⟨by (with_reducible repeat first | apply kn_ | apply kd_ | apply ka_); exact BK223.out⟩, ⟨by (with_reducible repeat first | apply kn_ | apply kd_ | apply ka_); exact BK236.out⟩, ⟨by repeat (with_reducible first | exact HB.out | apply ba_ | apply bn_ | apply b1_ | refine bs_ ?_ GE222.out | refine bs_ ?_ GE223.out | refine bs_ ?_ GE236.out)⟩⟩
     case round =>
      clear H'
      (try clear c1); (try clear c2); (try clear p2); (try clear c3); (try clear c4); (try clear c5); (try clear c5b0); (try clear c5b1); (try clear c6); (try clear c7); (try clear c8); (try clear c9); (try clear c10); (try clear c13); (try clear c14); (try clear c15); (try clear c18); (try clear c18b0); (try clear c18b1); (try clear c19); (try clear c20); (try clear c22); (try clear c24); (try clear c24b0); (try clear c24b1); (try clear c25); (try clear c26); (try clear c28); (try clear c30); (try clear c30b0); (try clear c30b1); (try clear c31); (try clear c32); (try clear c33); (try clear c35); (try clear c37); (try clear c38); (try clear c40); (try clear c41); (try clear c44); (try clear c44b0); (try clear c45); (try clear c46); (try clear c48); (try clear c48b0); (try clear c49); (try clear c50); (try clear c52); (try clear c52b0); (try clear c53); (try clear c54); (try clear c56); (try clear c56b0); (try clear c57); (try clear c58); (try clear c60); (try clear c60b0); (try clear c60b1); (try clear c60b2); (try clear c61); (try clear c61b0); (try clear c62); (try clear c63); (try clear c65); (try clear c67); (try clear c68); (try clear c68b0); (try clear c68b1); (try clear c69); (try clear c69b0); (try clear c70); (try clear c71); (try clear c73); (try clear c75); (try clear c76); (try clear c78); (try clear c80); (try clear c81); (try clear c83); (try clear c85); (try clear c85b0); (try clear c86); (try clear c87); (try clear c89); (try clear c91); (try clear c92); (try clear c94); (try clear c96); (try clear c97); (try clear c99); (try clear c101); (try clear z100_0 z100_1); (try clear z10_0 z10_1); (try clear z15_0 z15_1 z15_2 z15_3 z15_4 z15_5 z15_6); (try clear z21_0 z21_1 z21_2 z21_3 z21_4 z21_5 z21_6); (try clear z23_0 z23_1); (try clear z27_0 z27_1 z27_2 z27_3 z27_4 z27_5 z27_6); (try clear z29_0 z29_1); (try clear z34_0 z34_1 z34_2 z34_3 z34_4 z34_5 z34_6); (try clear z36_0 z36_1); (try clear z39_0 z39_1 z39_2 z39_3 z39_4 z39_5 z39_6); (try clear z42_0 z42_1 z42_2 z42_3 z42_4 z42_5 z42_6); (try clear z47_0 z47_1 z47_2 z47_3 z47_4 z47_5 z47_6); (try clear z51_0 z51_1 z51_2 z51_3 z51_4 z51_5 z51_6); (try clear z55_0 z55_1 z55_2 z55_3 z55_4 z55_5 z55_6); (try clear z59_0 z59_1 z59_2 z59_3 z59_4 z59_5 z59_6); (try clear z64_0 z64_1 z64_2 z64_3 z64_4 z64_5 z64_6); (try clear z66_0 z66_1); (try clear z72_0 z72_1 z72_2 z72_3 z72_4 z72_5 z72_6); (try clear z74_0 z74_1); (try clear z77_0 z77_1 z77_2 z77_3 z77_4 z77_5 z77_6); (try clear z79_0 z79_1); (try clear z82_0 z82_1 z82_2 z82_3 z82_4 z82_5 z82_6); (try clear z84_0 z84_1); (try clear z88_0 z88_1 z88_2 z88_3 z88_4 z88_5 z88_6); (try clear z90_0 z90_1); (try clear z93_0 z93_1 z93_2 z93_3 z93_4 z93_5 z93_6); (try clear z95_0 z95_1); (try clear z98_0 z98_1 z98_2 z98_3 z98_4 z98_5 z98_6); (try clear f100_0 f100_1); (try clear f10_0 f10_1); (try clear f15_0 f15_1 f15_2 f15_3 f15_4 f15_5 f15_6); (try clear f21_0 f21_1 f21_2 f21_3 f21_4 f21_5 f21_6); (try clear f23_0 f23_1); (try clear f27_0 f27_1 f27_2 f27_3 f27_4 f27_5 f27_6); (try clear f29_0 f29_1); (try clear f34_0 f34_1 f34_2 f34_3 f34_4 f34_5 f34_6); (try clear f36_0 f36_1); (try clear f39_0 f39_1 f39_2 f39_3 f39_4 f39_5 f39_6); (try clear f42_0 f42_1 f42_2 f42_3 f42_4 f42_5 f42_6); (try clear f47_0 f47_1 f47_2 f47_3 f47_4 f47_5 f47_6); (try clear f51_0 f51_1 f51_2 f51_3 f51_4 f51_5 f51_6); (try clear f55_0 f55_1 f55_2 f55_3 f55_4 f55_5 f55_6); (try clear f59_0 f59_1 f59_2 f59_3 f59_4 f59_5 f59_6); (try clear f64_0 f64_1 f64_2 f64_3 f64_4 f64_5 f64_6); (try clear f66_0 f66_1); (try clear f72_0 f72_1 f72_2 f72_3 f72_4 f72_5 f72_6); (try clear f74_0 f74_1); (try clear f77_0 f77_1 f77_2 f77_3 f77_4 f77_5 f77_6); (try clear f79_0 f79_1); (try clear f82_0 f82_1 f82_2 f82_3 f82_4 f82_5 f82_6); (try clear f84_0 f84_1); (try clear f88_0 f88_1 f88_2 f88_3 f88_4 f88_5 f88_6); (try clear f90_0 f90_1); (try clear f93_0 f93_1 f93_2 f93_3 f93_4 f93_5 f93_6); (try clear f95_0 f95_1); (try clear f98_0 f98_1 f98_2 f98_3 f98_4 f98_5 f98_6); (try clear p2)
      obtain ⟨x10_3, rfl, HA, HK3, HO_237002, HO_237003, BK222, BK223, BK236, HB⟩ := hrel
      cases gk with
      | zero => exact absurd HA.out (by simp [atticref19_Check.l0])
      | succ k3 =>
       have H := HA.out
       clear HA
       simp only [atticref19_Check.l0] at H
       by_cases c102 : x10_3 < (l2_2.length : Int)
       ·rw [if_pos c102] at H
        have c102b0 : decide (x10_3 < (l2_2.length : Int)) = true := decide_eq_true c102
        clear c102
        by_cases c103 : 0 ≤ x10_3; rotate_left
        ·rw [if_neg c103] at H
         exact absurd H (by simp)
        rw [if_pos c103] at H
        have c103b0 : decide (0 ≤ x10_3) = true := decide_eq_true c103
        clear c103
        obtain ⟨bq104, hbq104⟩ : ∃ b_ : Bool, b_ = (rdOf false l2_2 x10_3) := ⟨_, rfl⟩
        replace H : (if bq104 = true then (if x10_3 < (l0_0.length : Int) then (if ((rd_T56 l0_0 x10_3).f0) = 0 then (some 191) else (atticref19_Check.l0 k3 (wrap64 (x10_3 + 1)) l0_0 l0_1 a2_0 a2_1 l2_2 l2_3 a2_4 a2_5 a2_6)) else (none)) else (atticref19_Check.l0 k3 (wrap64 (x10_3 + 1)) l0_0 l0_1 a2_0 a2_1 l2_2 l2_3 a2_4 a2_5 a2_6)) = some r := by rw [← hbq104] at H; exact H
        have Nbq104 := ak hbq104
        clear hbq104
        by_cases c105 : bq104 = true; rotate_left
        ·replace c105 := Bool.eq_false_iff.mpr c105
         subst c105
         have H1 : (atticref19_Check.l0 k3 (wrap64 (x10_3 + 1)) l0_0 l0_1 a2_0 a2_1 l2_2 l2_3 a2_4 a2_5 a2_6) = some r := by rw [if_neg (show ¬ (false = true) by decide)] at H; exact H
         clear H
         have H := H1
         clear H1
         have H' := ak H
         clear H
         have hnb118 := NB223_222.out
         have hnc118 := NB222_223.out
         have hnb119 := NB223_236.out
         have hnc119 := NB236_223.out
         obtain ⟨z120_0, z120_1, z120_2, z120_3, z120_4, z120_5, z120_6, f120_0, f120_1, f120_2, f120_3, f120_4, f120_5, f120_6⟩ := kk7 BK223.out
         have p237 : 0 ≤ (x10_3 : Int) := of_decide_eq_true (by first | (with_reducible assumption) | assumption)
         have q237 : x10_3 < (l2_2.length : Int) := of_decide_eq_true (by first | (with_reducible assumption) | assumption)
         obtain ⟨ad237, e237, hx237_0⟩ := Kd.at_bool HR2_2.out x10_3 p237 q237
         (try rw [← Nbq104.out] at hx237_0)
         cases e237
         replace hx237_0 := (HB.out.cell (World.block_lt_of_cell? w _ hx237_0)).trans hx237_0
         replace p237 := eq_true p237
         replace q237 := eq_true q237
         go_wp2
         go_roundg k3
         case measure => have := HJ5.out; have := HJ42.out; have := HK3.out; omega
         case rel => exact ⟨(wrap64 (x10_3 + 1)), (by first | rfl | (simp; done) | (simp [*]; done) | (simp [Int.tdiv_eq_ediv_of_nonneg]; done)), H', ⟨by have := HJ5.out; have := HJ42.out; have := HK3.out; omega⟩, ⟨by (with_reducible repeat (first | apply Kd.R_alloc | apply Kd.R_drewN | apply Kd.R_drew)); exact HO_237002.out⟩, ⟨by (with_reducible repeat (first | apply Kd.R_alloc | apply Kd.R_drewN | apply Kd.R_drew)); exact HO_237003.out⟩, ⟨by (with_reducible repeat first | apply kn_ | apply kd_ | apply ka_); exact BK222.out⟩, ⟨by (with_reducible repeat first | apply kn_ | apply kd_ | apply ka_); exact BK223.out⟩, ⟨by (with_reducible repeat first | apply kn_ | apply kd_ | apply ka_); exact BK236.out⟩, ⟨by repeat (with_reducible first | exact HB.out | apply ba_ | apply bn_ | apply b1_ | refine bs_ ?_ GE222.out | refine bs_ ?_ GE223.out | refine bs_ ?_ GE236.out)⟩⟩
        subst c105
        have H1 : (if x10_3 < (l0_0.length : Int) then (if ((rd_T56 l0_0 x10_3).f0) = 0 then (some 191) else (atticref19_Check.l0 k3 (wrap64 (x10_3 + 1)) l0_0 l0_1 a2_0 a2_1 l2_2 l2_3 a2_4 a2_5 a2_6)) else (none)) = some r := by rw [if_pos rfl] at H; exact H
        clear H
        have H := H1
        clear H1
        by_cases c106 : x10_3 < (l0_0.length : Int); rotate_left
        ·rw [if_neg c106] at H
         exact absurd H (by simp)
        rw [if_pos c106] at H
        have c106b0 : decide (x10_3 < (l0_0.length : Int)) = true := decide_eq_true c106
        clear c106
        by_cases c107 : ((rd_T56 l0_0 x10_3).f0) = 0
        ·rw [if_pos c107] at H
         have c107b0 : (((rd_T56 l0_0 x10_3).f0) == 0) = true := beq_iff_eq.mpr c107
         have c107b1 : (((rd_T56 l0_0 x10_3).f0) != 0) = false := bne_eq_false_iff_eq.mpr c107
         clear c107
         obtain rfl := Option.some.inj H
         have hnb108 := NB223_222.out
         have hnc108 := NB222_223.out
         have hnb109 := NB223_236.out
         have hnc109 := NB236_223.out
         obtain ⟨z110_0, z110_1, z110_2, z110_3, z110_4, z110_5, z110_6, f110_0, f110_1, f110_2, f110_3, f110_4, f110_5, f110_6⟩ := kk7 BK223.out
         have p237 : 0 ≤ (x10_3 : Int) := of_decide_eq_true (by first | (with_reducible assumption) | assumption)
         have q237 : x10_3 < (l2_2.length : Int) := of_decide_eq_true (by first | (with_reducible assumption) | assumption)
         obtain ⟨ad237, e237, hx237_0⟩ := Kd.at_bool HR2_2.out x10_3 p237 q237
         (try rw [← Nbq104.out] at hx237_0)
         cases e237
         replace hx237_0 := (HB.out.cell (World.block_lt_of_cell? w _ hx237_0)).trans hx237_0
         replace p237 := eq_true p237
         replace q237 := eq_true q237
         have hnb111 := NB222_236.out
         have hnc111 := NB236_222.out
         obtain ⟨z112_0, z112_1, f112_0, f112_1⟩ := kk2 BK222.out
         have p238 : 0 ≤ (x10_3 : Int) := of_decide_eq_true (by first | (with_reducible assumption) | assumption)
         have q238 : x10_3 < (l0_0.length : Int) := of_decide_eq_true (by first | (with_reducible assumption) | assumption)
         obtain ⟨ad238, A238_1, c238_1, e238, hx238_0, hx238_1, hl238_1, hi238_1⟩ := at_T56 HR0_0.out x10_3 p238 q238
         cases e238
         replace hx238_0 := (HB.out.cell (World.block_lt_of_cell? w _ hx238_0)).trans hx238_0
         replace hx238_1 := (HB.out.cell (World.block_lt_of_cell? w _ hx238_1)).trans hx238_1
         have HR238_1 := ak hi238_1
         have HC238_1 := ak hl238_1
         clear hi238_1 hl238_1
         replace p238 := eq_true p238
         replace q238 := eq_true q238
         go_wp2
         go_ret
         exact ⟨by first | rfl | (simp [errW_none, errW_some] <;> rfl) | (simp [*, errW_none, errW_some] <;> rfl) | (simp [Int.tdiv_eq_ediv_of_nonneg]; done), by repeat (with_reducible first | exact HB.out | apply ba_ | apply bn_ | apply b1_ | refine bs_ ?_ GE222.out | refine bs_ ?_ GE223.out | refine bs_ ?_ GE236.out)⟩
        rw [if_neg c107] at H
        have c107b0 : (((rd_T56 l0_0 x10_3).f0) == 0) = false := beq_eq_false_iff_ne.mpr c107
        have c107b1 : (((rd_T56 l0_0 x10_3).f0) != 0) = true := bne_iff_ne.mpr c107
        have H' := ak H
        clear H
        have hnb113 := NB223_222.out
        have hnc113 := NB222_223.out
        have hnb114 := NB223_236.out
        have hnc114 := NB236_223.out
        obtain ⟨z115_0, z115_1, z115_2, z115_3, z115_4, z115_5, z115_6, f115_0, f115_1, f115_2, f115_3, f115_4, f115_5, f115_6⟩ := kk7 BK223.out
        have p237 : 0 ≤ (x10_3 : Int) := of_decide_eq_true (by first | (with_reducible assumption) | assumption)
        have q237 : x10_3 < (l2_2.length : Int) := of_decide_eq_true (by first | (with_reducible assumption) | assumption)
        obtain ⟨ad237, e237, hx237_0⟩ := Kd.at_bool HR2_2.out x10_3 p237 q237
        (try rw [← Nbq104.out] at hx237_0)
        cases e237
        replace hx237_0 := (HB.out.cell (World.block_lt_of_cell? w _ hx237_0)).trans hx237_0
        replace p237 := eq_true p237
        replace q237 := eq_true q237
        have hnb116 := NB222_236.out
        have hnc116 := NB236_222.out
        obtain ⟨z117_0, z117_1, f117_0, f117_1⟩ := kk2 BK222.out
        have p238 : 0 ≤ (x10_3 : Int) := of_decide_eq_true (by first | (with_reducible assumption) | assumption)
        have q238 : x10_3 < (l0_0.length : Int) := of_decide_eq_true (by first | (with_reducible assumption) | assumption)
        obtain ⟨ad238, A238_1, c238_1, e238, hx238_0, hx238_1, hl238_1, hi238_1⟩ := at_T56 HR0_0.out x10_3 p238 q238
        cases e238
        replace hx238_0 := (HB.out.cell (World.block_lt_of_cell? w _ hx238_0)).trans hx238_0
        replace hx238_1 := (HB.out.cell (World.block_lt_of_cell? w _ hx238_1)).trans hx238_1
        have HR238_1 := ak hi238_1
        have HC238_1 := ak hl238_1
        clear hi238_1 hl238_1
        replace p238 := eq_true p238
        replace q238 := eq_true q238
        go_wp2
        go_roundg k3
        case measure => have := HJ5.out; have := HJ42.out; have := HK3.out; omega
        case rel => exact ⟨(wrap64 (x10_3 + 1)), (by first | rfl | (simp; done) | (simp [*]; done) | (simp [Int.tdiv_eq_ediv_of_nonneg]; done)), H', ⟨by have := HJ5.out; have := HJ42.out; have := HK3.out; omega⟩, ⟨by (with_reducible repeat (first | apply Kd.R_alloc | apply Kd.R_drewN | apply Kd.R_drew)); exact HO_237002.out⟩, ⟨by (with_reducible repeat (first | apply Kd.R_alloc | apply Kd.R_drewN | apply Kd.R_drew)); exact HO_237003.out⟩, ⟨by (with_reducible repeat first | apply kn_ | apply kd_ | apply ka_); exact BK222.out⟩, ⟨by (with_reducible repeat first | apply kn_ | apply kd_ | apply ka_); exact BK223.out⟩, ⟨by (with_reducible repeat first | apply kn_ | apply kd_ | apply ka_); exact BK236.out⟩, ⟨by repeat (with_reducible first | exact HB.out | apply ba_ | apply bn_ | apply b1_ | refine bs_ ?_ GE222.out | refine bs_ ?_ GE223.out | refine bs_ ?_ GE236.out)⟩⟩
       rw [if_neg c102] at H
       have c102b0 : decide (x10_3 < (l2_2.length : Int)) = false := decide_eq_false c102
       clear c102
       have H' := ak H
       clear H
       have hnb121 := NB223_222.out
       have hnc121 := NB222_223.out
       have hnb122 := NB223_236.out
       have hnc122 := NB236_223.out
       obtain ⟨z123_0, z123_1, z123_2, z123_3, z123_4, z123_5, z123_6, f123_0, f123_1, f123_2, f123_3, f123_4, f123_5, f123_6⟩ := kk7 BK223.out
       go_wp2
       go_loopg [11] k3 (fun kq v11 w' => ∃ (x11_4 : Int), v11 = .int .i64 x11_4 ∧ Aside0 (atticref19_Check.l1 kq x11_4 l0_0 l0_1 a2_0 a2_1 l2_2 l2_3 a2_4 a2_5 a2_6 = some r) ∧ Aside0 (kq ≤ k3) ∧ Aside0 (Kd.R Kd.bool 4 w' w.heap.size (fun _ => True) (.slice Ao16 t226.length co16) t226) ∧ Aside0 (Kd.R (Kd.int .i64) 3 w' w.heap.size (fun _ => True) (.slice Ao17 t229.length co17) t229) ∧ Aside0 (w'.heap[gb222]? = some (.cells #[(.slice A0_0 l0_0.length c0_0), (.slice A0_1 l0_1.length c0_1)] 25 (0, 0))) ∧ Aside0 (w'.heap[gb223]? = some (.cells #[.int .i64 a2_0, .int .i64 a2_1, (.slice A2_2 l2_2.length c2_2), (.slice A2_3 l2_3.length c2_3), .bool a2_4, .bool a2_5, .bool a2_6] 28 (0, 0))) ∧ Aside0 (w'.heap[gb236]? = some (.cells #[.int .i64 t224, .int .i64 t225, (.slice Ao16 t226.length co16), (.slice Ao17 t229.length co17), .bool t232, .bool t233, .bool t234] 28 (0, 0))) ∧ Aside0 (Below w.heap.size w w'))
       case atStart => exact ⟨(0), (by first | rfl | (simp; done) | (simp [*]; done) | (simp [Int.tdiv_eq_ediv_of_nonneg]; done)), H', ⟨Nat.le_refl _⟩, ⟨by (with_reducible repeat (first | apply Kd.R_alloc | apply Kd.R_drewN | apply Kd.R_drew)); exact HO_237002.out⟩, ⟨by (with_reducible repeat (first | apply Kd.R_alloc | apply Kd.R_drewN | apply Kd.R_drew)); exact HO_237003.out⟩, ⟨by (with_reducible repeat first | apply kn_ | apply kd_ | apply ka_); exact BK222.out⟩, ⟨by (with_reducible repeat first | apply kn_ | apply kd_ | apply ka_); exact BK223.out⟩, ⟨by (with_reducible repeat first | apply kn_ | apply kd_ | apply ka_); exact BK236.out⟩, ⟨by repeat (with_reducible first | exact HB.out | apply ba_ | apply bn_ | apply b1_ | refine bs_ ?_ GE222.out | refine bs_ ?_ GE223.out | refine bs_ ?_ GE236.out)⟩⟩
       case round =>
        clear H'
        (try clear c1); (try clear q1); (try clear c2); (try clear p2); (try clear q2); (try clear hx2); (try clear c3); (try clear c4); (try clear c5); (try clear c5b0); (try clear c5b1); (try clear c6); (try clear p6); (try clear c7); (try clear c8); (try clear c9); (try clear c10); (try clear q10); (try clear c11); (try clear c12); (try clear c13); (try clear c14); (try clear c15); (try clear c18); (try clear c18b0); (try clear c18b1); (try clear c19); (try clear c20); (try clear c22); (try clear c23); (try clear p23); (try clear q23); (try clear hx23); (try clear c24); (try clear c24b0); (try clear c24b1); (try clear c25); (try clear c26); (try clear c28); (try clear c30); (try clear c30b0); (try clear c30b1); (try clear c31); (try clear c32); (try clear c33); (try clear c35); (try clear c37); (try clear c38); (try clear c40); (try clear c41); (try clear c44); (try clear c44b0); (try clear c45); (try clear c46); (try clear c48); (try clear c48b0); (try clear c49); (try clear c50); (try clear c52); (try clear c52b0); (try clear c53); (try clear c54); (try clear c56); (try clear c56b0); (try clear c57); (try clear c58); (try clear c60); (try clear c60b0); (try clear c60b1); (try clear c60b2); (try clear c61); (try clear c61b0); (try clear c62); (try clear c63); (try clear p64); (try clear c65); (try clear c67); (try clear c68); (try clear c68b0); (try clear c68b1); (try clear c69); (try clear c69b0); (try clear c70); (try clear c71); (try clear c73); (try clear c75); (try clear c76); (try clear c78); (try clear c80); (try clear c81); (try clear c83); (try clear c85); (try clear c85b0); (try clear c86); (try clear c87); (try clear c89); (try clear c91); (try clear c92); (try clear c94); (try clear c96); (try clear c97); (try clear c99); (try clear c101); (try clear c102); (try clear c102b0); (try clear c103); (try clear c103b0); (try clear q104); (try clear c105); (try clear c106); (try clear c106b0); (try clear c107); (try clear c107b0); (try clear c107b1); (try clear c108); (try clear c109); (try clear c111); (try clear c113); (try clear c114); (try clear c116); (try clear c118); (try clear c119); (try clear c121); (try clear c122); (try clear z100_0 z100_1); (try clear z10_0 z10_1); (try clear z110_0 z110_1 z110_2 z110_3 z110_4 z110_5 z110_6); (try clear z112_0 z112_1); (try clear z115_0 z115_1 z115_2 z115_3 z115_4 z115_5 z115_6); (try clear z117_0 z117_1); (try clear z120_0 z120_1 z120_2 z120_3 z120_4 z120_5 z120_6); (try clear z123_0 z123_1 z123_2 z123_3 z123_4 z123_5 z123_6); (try clear z15_0 z15_1 z15_2 z15_3 z15_4 z15_5 z15_6); (try clear z21_0 z21_1 z21_2 z21_3 z21_4 z21_5 z21_6); (try clear z23_0 z23_1); (try clear z27_0 z27_1 z27_2 z27_3 z27_4 z27_5 z27_6); (try clear z29_0 z29_1); (try clear z34_0 z34_1 z34_2 z34_3 z34_4 z34_5 z34_6); (try clear z36_0 z36_1); (try clear z39_0 z39_1 z39_2 z39_3 z39_4 z39_5 z39_6); (try clear z42_0 z42_1 z42_2 z42_3 z42_4 z42_5 z42_6); (try clear z47_0 z47_1 z47_2 z47_3 z47_4 z47_5 z47_6); (try clear z51_0 z51_1 z51_2 z51_3 z51_4 z51_5 z51_6); (try clear z55_0 z55_1 z55_2 z55_3 z55_4 z55_5 z55_6); (try clear z59_0 z59_1 z59_2 z59_3 z59_4 z59_5 z59_6); (try clear z64_0 z64_1 z64_2 z64_3 z64_4 z64_5 z64_6); (try clear z66_0 z66_1); (try clear z72_0 z72_1 z72_2 z72_3 z72_4 z72_5 z72_6); (try clear z74_0 z74_1); (try clear z77_0 z77_1 z77_2 z77_3 z77_4 z77_5 z77_6); (try clear z79_0 z79_1); (try clear z82_0 z82_1 z82_2 z82_3 z82_4 z82_5 z82_6); (try clear z84_0 z84_1); (try clear z88_0 z88_1 z88_2 z88_3 z88_4 z88_5 z88_6); (try clear z90_0 z90_1); (try clear z93_0 z93_1 z93_2 z93_3 z93_4 z93_5 z93_6); (try clear z95_0 z95_1); (try clear z98_0 z98_1 z98_2 z98_3 z98_4 z98_5 z98_6); (try clear f100_0 f100_1); (try clear f10_0 f10_1); (try clear f110_0 f110_1 f110_2 f110_3 f110_4 f110_5 f110_6); (try clear f112_0 f112_1); (try clear f115_0 f115_1 f115_2 f115_3 f115_4 f115_5 f115_6); (try clear f117_0 f117_1); (try clear f120_0 f120_1 f120_2 f120_3 f120_4 f120_5 f120_6); (try clear f123_0 f123_1 f123_2 f123_3 f123_4 f123_5 f123_6); (try clear f15_0 f15_1 f15_2 f15_3 f15_4 f15_5 f15_6); (try clear f21_0 f21_1 f21_2 f21_3 f21_4 f21_5 f21_6); (try clear f23_0 f23_1); (try clear f27_0 f27_1 f27_2 f27_3 f27_4 f27_5 f27_6); (try clear f29_0 f29_1); (try clear f34_0 f34_1 f34_2 f34_3 f34_4 f34_5 f34_6); (try clear f36_0 f36_1); (try clear f39_0 f39_1 f39_2 f39_3 f39_4 f39_5 f39_6); (try clear f42_0 f42_1 f42_2 f42_3 f42_4 f42_5 f42_6); (try clear f47_0 f47_1 f47_2 f47_3 f47_4 f47_5 f47_6); (try clear f51_0 f51_1 f51_2 f51_3 f51_4 f51_5 f51_6); (try clear f55_0 f55_1 f55_2 f55_3 f55_4 f55_5 f55_6); (try clear f59_0 f59_1 f59_2 f59_3 f59_4 f59_5 f59_6); (try clear f64_0 f64_1 f64_2 f64_3 f64_4 f64_5 f64_6); (try clear f66_0 f66_1); (try clear f72_0 f72_1 f72_2 f72_3 f72_4 f72_5 f72_6); (try clear f74_0 f74_1); (try clear f77_0 f77_1 f77_2 f77_3 f77_4 f77_5 f77_6); (try clear f79_0 f79_1); (try clear f82_0 f82_1 f82_2 f82_3 f82_4 f82_5 f82_6); (try clear f84_0 f84_1); (try clear f88_0 f88_1 f88_2 f88_3 f88_4 f88_5 f88_6); (try clear f90_0 f90_1); (try clear f93_0 f93_1 f93_2 f93_3 f93_4 f93_5 f93_6); (try clear f95_0 f95_1); (try clear f98_0 f98_1 f98_2 f98_3 f98_4 f98_5 f98_6); (try clear hx237_0); (try clear hx238_0); (try clear hx238_1); (try clear p2); (try clear p237); (try clear p238); (try clear q237); (try clear q238)
        obtain ⟨x11_4, rfl, HA, HK4, HO_237002, HO_237003, BK222, BK223, BK236, HB⟩ := hrel
        cases gk with
        | zero => exact absurd HA.out (by simp [atticref19_Check.l1])
        | succ k4 =>
         have H := HA.out
         clear HA
         simp only [atticref19_Check.l1] at H
         by_cases c124 : x11_4 < (l2_3.length : Int); rotate_left
         ·rw [if_neg c124] at H
          have c124b0 : decide (x11_4 < (l2_3.length : Int)) = false := decide_eq_false c124
          clear c124
          obtain rfl := Option.some.inj H
          have hnb158 := NB223_222.out
          have hnc158 := NB222_223.out
          have hnb159 := NB223_236.out
          have hnc159 := NB236_223.out
          obtain ⟨z160_0, z160_1, z160_2, z160_3, z160_4, z160_5, z160_6, f160_0, f160_1, f160_2, f160_3, f160_4, f160_5, f160_6⟩ := kk7 BK223.out
          go_wp2
          go_ret
          exact ⟨by first | rfl | (simp [errW_none, errW_some] <;> rfl) | (simp [*, errW_none, errW_some] <;> rfl) | (simp [Int.tdiv_eq_ediv_of_nonneg]; done), by repeat (with_reducible first | exact HB.out | apply ba_ | apply bn_ | apply b1_ | refine bs_ ?_ GE222.out | refine bs_ ?_ GE223.out | refine bs_ ?_ GE236.out)⟩
         rw [if_pos c124] at H
         have c124b0 : decide (x11_4 < (l2_3.length : Int)) = true := decide_eq_true c124
         clear c124
         by_cases c125 : 0 ≤ x11_4; rotate_left
         ·rw [if_neg c125] at H
          exact absurd H (by simp)
         rw [if_pos c125] at H
         have c125b0 : decide (0 ≤ x11_4) = true := decide_eq_true c125
         clear c125
         replace H := Option.bind_eq_some_iff.mp H
         obtain ⟨t240, A1260, H⟩ := H
         replace H : (if t240 = true then (if 0 ≤ (rd l2_3 x11_4) then (if (rd l2_3 x11_4) < (l2_2.length : Int) then (if (rdOf false l2_2 (rd l2_3 x11_4) = true) then (if x11_4 ≤ (l2_3.length : Int) then ((atticref19_has.f k4 (l2_3.take (x11_4 : Int).toNat) (rd l2_3 x11_4)).bind fun t245 => (if t245 = true then (some 191) else (atticref19_Check.l1 k4 (wrap64 (x11_4 + 1)) l0_0 l0_1 a2_0 a2_1 l2_2 l2_3 a2_4 a2_5 a2_6))) else (none)) else (some 191)) else (none)) else (none)) else (some 191)) = some r := H
         have A126 := ak A1260
         clear A1260
         by_cases c127 : t240 = true; rotate_left
         ·replace c127 := Bool.eq_false_iff.mpr c127
          subst c127
          have H1 : (some 191) = some r := by rw [if_neg (show ¬ (false = true) by decide)] at H; exact H
          clear H
          have H := H1
          clear H1
          obtain rfl := Option.some.inj H
          have hnb153 := NB223_222.out
          have hnc153 := NB222_223.out
          have hnb154 := NB223_236.out
          have hnc154 := NB236_223.out
          obtain ⟨z155_0, z155_1, z155_2, z155_3, z155_4, z155_5, z155_6, f155_0, f155_1, f155_2, f155_3, f155_4, f155_5, f155_6⟩ := kk7 BK223.out
          try go_wp2
          have n0_ := ak (Kd.R_drew HO_237002.out)
          have n1_ := ak (Kd.R_drew HO_237003.out)
          have n2_ := ak (blk_drew BK222.out)
          have n3_ := ak (blk_drew BK223.out)
          have n4_ := ak (blk_drew BK236.out)
          have n5_ := ak (below_drew1 HB.out)
          clear HO_237002 HO_237003 BK222 BK223 BK236 HB
          have HO_237002 := n0_
          have HO_237003 := n1_
          have BK222 := n2_
          have BK223 := n3_
          have BK236 := n4_
          have HB := n5_
          clear n0_ n1_ n2_ n3_ n4_ n5_
          have p239 : 0 ≤ (x11_4 : Int) := of_decide_eq_true (by first | (with_reducible assumption) | assumption)
          have q239 : x11_4 < (l2_3.length : Int) := of_decide_eq_true (by first | (with_reducible assumption) | assumption)
          obtain ⟨ad239, e239, hx239_0⟩ := Kd.at_int HR2_3.out x11_4 p239 q239
          have hw239_0 := hx239_0
          cases e239
          replace hx239_0 := (HB.out.cell (World.block_lt_of_cell? w _ hx239_0)).trans hx239_0
          replace p239 := eq_true p239
          replace q239 := eq_true q239
          as_aux_lemma =>
          refine sL (n := 32) (S := fun w' => w'.cell? ⟨gb222, 0, none⟩ = some (.slice A0_0 l0_0.length c0_0) ∧ w'.cell? ⟨gb222, 1, none⟩ = some (.slice A0_1 l0_1.length c0_1) ∧ w'.cell? ⟨gb223, 0, none⟩ = some (.int .i64 a2_0) ∧ w'.cell? ⟨gb223, 1, none⟩ = some (.int .i64 a2_1) ∧ w'.cell? ⟨gb223, 2, none⟩ = some (.slice A2_2 l2_2.length c2_2) ∧ w'.cell? ⟨gb223, 3, none⟩ = some (.slice (some ad239) l2_3.length c2_3) ∧ w'.cell? ⟨gb223, 4, none⟩ = some (.bool a2_4) ∧ w'.cell? ⟨gb223, 5, none⟩ = some (.bool a2_5) ∧ w'.cell? ⟨gb223, 6, none⟩ = some (.bool a2_6) ∧ w'.cell? (ad239.add (x11_4).toNat) = some (.int .i64 (rd l2_3 x11_4))) (ds := []) (by kernel_rfl) rfl ⟨(blk_cell BK222.out 0).trans rfl, (blk_cell BK222.out 1).trans rfl, (blk_cell BK223.out 0).trans rfl, (blk_cell BK223.out 1).trans rfl, (blk_cell BK223.out 2).trans rfl, (blk_cell BK223.out 3).trans rfl, (blk_cell BK223.out 4).trans rfl, (blk_cell BK223.out 5).trans rfl, (blk_cell BK223.out 6).trans rfl, ((HB.out.cell (World.block_lt_of_cell? w _ hw239_0)).trans hw239_0)⟩ (fun hHeld => ?_)
          generalize wr.drew = w156 at HO_237002 HO_237003 BK222 BK223 BK236 HB hx239_0 hHeld ⊢
          (refine tL (N := some _) rfl rfl (by kernel_rfl) (fun _ _ _ h => h) hHeld (by rfl) (v := ?_) (a' := ?_) ?_ ?_ ?_; rotate_left; (rintro w' ⟨s0, s1, s2, s3, s4, s5, s6, s7, s8, s9⟩; go_simp; with_reducible rfl); rotate_left; (simp only [Act.put, sq0, sq1, sq2, sq3, sq4]; rfl))
          (refine pL (N := some _) rfl rfl (by kernel_rfl) (fun _ _ _ h => h) (by rfl) (v := ?_) (a' := ?_) ?_ ?_ ?_; rotate_left; (intro w'; go_simp; with_reducible rfl); rotate_left; (simp only [Act.put, sq0, sq1, sq2, sq3, sq4]; rfl))
          (refine tL (N := some _) rfl rfl (by kernel_rfl) (fun _ _ _ h => h) hHeld (by rfl) (v := ?_) (a' := ?_) ?_ ?_ ?_; rotate_left; (rintro w' ⟨s0, s1, s2, s3, s4, s5, s6, s7, s8, s9⟩; go_simp; with_reducible rfl); rotate_left; (simp only [Act.put, sq0, sq1, sq2, sq3, sq4]; rfl))
          iterate 2 (refine pL (N := some _) rfl rfl (by kernel_rfl) (fun _ _ _ h => h) (by rfl) (v := ?_) (a' := ?_) ?_ ?_ ?_; rotate_left; (intro w'; go_simp; with_reducible rfl); rotate_left; (simp only [Act.put, sq0, sq1, sq2, sq3, sq4]; rfl))
          (refine tL (N := some _) rfl rfl (by kernel_rfl) (fun _ _ _ h => h) hHeld (by rfl) (v := ?_) (a' := ?_) ?_ ?_ ?_; rotate_left; (rintro w' ⟨s0, s1, s2, s3, s4, s5, s6, s7, s8, s9⟩; go_simp; with_reducible rfl); rotate_left; (simp only [Act.put, sq0, sq1, sq2, sq3, sq4]; rfl))
          refine nL (N := some 133) rfl rfl (by kernel_rfl) (by decide) (fun K hK => ?_)
          refine goes_ Try.func42 (by kernel_rfl) rfl #[.agg #[.slice A0_0 l0_0.length c0_0, .slice A0_1 l0_1.length c0_1], .int .i64 (rd l2_3 x11_4)] (by rfl) rfl rfl (by (try simp only [List.map_toArray, List.map_cons, List.map_nil]); first | done | rfl | (simp only [List.length_drop, List.length_take]; rfl)) ?_
          with_reducible refine (atticref19_cell.calls _ _ l0_0 _ _ l0_1 (rd l2_3 x11_4) false _ ?side1 ?side2 ?side3 ?side4 A126.out).mono ?_
          (case side1 => repeat (first | exact (Kd.C_below HR0_0.out HB.out) | (with_reducible first | refine ca_ ?_ _ | refine cn_ ?_ _ | refine cd_ ?_)))
          (case side2 => exact HC0_0.out)
          (case side3 => repeat (first | exact (Kd.C_below HR0_1.out HB.out) | (with_reducible first | refine ca_ ?_ _ | refine cn_ ?_ _ | refine cd_ ?_)))
          (case side4 => exact HC0_1.out)
          rintro e w157 ⟨rfl, hb⟩
          refine ⟨_, rfl, ?_⟩
          have n0_ := ak (Kd.R_below (by (with_reducible repeat (first | apply Kd.R_alloc | apply Kd.R_drewN | apply Kd.R_drew)); exact HO_237002.out) hb)
          have n1_ := ak (Kd.R_below (by (with_reducible repeat (first | apply Kd.R_alloc | apply Kd.R_drewN | apply Kd.R_drew)); exact HO_237003.out) hb)
          have n2_ := ak (blk_below (by (with_reducible repeat first | apply kn_ | apply kd_ | apply ka_); exact BK222.out) hb)
          have n3_ := ak (blk_below (by (with_reducible repeat first | apply kn_ | apply kd_ | apply ka_); exact BK223.out) hb)
          have n4_ := ak (blk_below (by (with_reducible repeat first | apply kn_ | apply kd_ | apply ka_); exact BK236.out) hb)
          have n5_ := ak (below_step (by repeat (with_reducible first | exact HB.out | apply ba_ | apply bn_ | apply b1_ | refine bs_ ?_ GE222.out | refine bs_ ?_ GE223.out | refine bs_ ?_ GE236.out)) hb)
          clear HO_237002 HO_237003 BK222 BK223 BK236 HB
          have HO_237002 := n0_
          have HO_237003 := n1_
          have BK222 := n2_
          have BK223 := n3_
          have BK236 := n4_
          have HB := n5_
          clear n0_ n1_ n2_ n3_ n4_ n5_
          (try clear hb)
          (try clear hb2)
          (try clear hk)
          (try clear hi)
          refine hK.out _ _ ⟨(blk_cell BK222.out 0).trans rfl, (blk_cell BK222.out 1).trans rfl, (blk_cell BK223.out 0).trans rfl, (blk_cell BK223.out 1).trans rfl, (blk_cell BK223.out 2).trans rfl, (blk_cell BK223.out 3).trans rfl, (blk_cell BK223.out 4).trans rfl, (blk_cell BK223.out 5).trans rfl, (blk_cell BK223.out 6).trans rfl, ((HB.out.cell (World.block_lt_of_cell? w _ hw239_0)).trans hw239_0)⟩ (fun hHeld => ?_)
          clear hK K
          refine norm_ (a' := ?_) ?_ ?_
          rotate_left
          ·show Act.put _ (some 133) _ = _
           simp only [Act.put, sq0, sq1, sq2, sq3, sq4]
           rfl
          iterate 2 (refine pL (N := some _) rfl rfl (by kernel_rfl) (fun _ _ _ h => h) (by rfl) (v := ?_) (a' := ?_) ?_ ?_ ?_; rotate_left; (intro w'; go_simp; with_reducible rfl); rotate_left; (simp only [Act.put, sq0, sq1, sq2, sq3, sq4]; rfl))
          iterate 10 (refine oL (N := some _) rfl rfl (by kernel_rfl) (fun _ _ _ h => h) (by rfl) (a' := ?_) ?_ ?_; rotate_left; (simp only [Act.put, sq0, sq1, sq2, sq3, sq4]; rfl))
          iterate 2 (refine pL (N := some _) rfl rfl (by kernel_rfl) (fun _ _ _ h => h) (by rfl) (v := ?_) (a' := ?_) ?_ ?_ ?_; rotate_left; (intro w'; go_simp; with_reducible rfl); rotate_left; (simp only [Act.put, sq0, sq1, sq2, sq3, sq4]; rfl))
          iterate 10 (refine oL (N := some _) rfl rfl (by kernel_rfl) (fun _ _ _ h => h) (by rfl) (a' := ?_) ?_ ?_; rotate_left; (simp only [Act.put, sq0, sq1, sq2, sq3, sq4]; rfl))
          (refine pL (N := some _) rfl rfl (by kernel_rfl) (fun _ _ _ h => h) (by rfl) (v := ?_) (a' := ?_) ?_ ?_ ?_; rotate_left; (intro w'; go_simp; with_reducible rfl); rotate_left; (simp only [Act.put, sq0, sq1, sq2, sq3, sq4]; rfl))
          refine dL (by kernel_rfl) ?_
          try go_wp2
          go_ret
          exact ⟨by first | rfl | (simp [errW_none, errW_some] <;> rfl) | (simp [*, errW_none, errW_some] <;> rfl) | (simp [Int.tdiv_eq_ediv_of_nonneg]; done), by repeat (with_reducible first | exact HB.out | apply ba_ | apply bn_ | apply b1_ | refine bs_ ?_ GE222.out | refine bs_ ?_ GE223.out | refine bs_ ?_ GE236.out)⟩
         subst c127
         have H1 : (if 0 ≤ (rd l2_3 x11_4) then (if (rd l2_3 x11_4) < (l2_2.length : Int) then (if (rdOf false l2_2 (rd l2_3 x11_4) = true) then (if x11_4 ≤ (l2_3.length : Int) then ((atticref19_has.f k4 (l2_3.take (x11_4 : Int).toNat) (rd l2_3 x11_4)).bind fun t245 => (if t245 = true then (some 191) else (atticref19_Check.l1 k4 (wrap64 (x11_4 + 1)) l0_0 l0_1 a2_0 a2_1 l2_2 l2_3 a2_4 a2_5 a2_6))) else (none)) else (some 191)) else (none)) else (none)) = some r := by rw [if_pos rfl] at H; exact H
         clear H
         have H := H1
         clear H1
         by_cases c128 : 0 ≤ (rd l2_3 x11_4); rotate_left
         ·rw [if_neg c128] at H
          exact absurd H (by simp)
         rw [if_pos c128] at H
         have c128b0 : decide (0 ≤ (rd l2_3 x11_4)) = true := decide_eq_true c128
         clear c128
         by_cases c129 : (rd l2_3 x11_4) < (l2_2.length : Int); rotate_left
         ·rw [if_neg c129] at H
          exact absurd H (by simp)
         rw [if_pos c129] at H
         have c129b0 : decide ((rd l2_3 x11_4) < (l2_2.length : Int)) = true := decide_eq_true c129
         clear c129
         obtain ⟨bq130, hbq130⟩ : ∃ b_ : Bool, b_ = (rdOf false l2_2 (rd l2_3 x11_4)) := ⟨_, rfl⟩
         replace H : (if (bq130 = true) then (if x11_4 ≤ (l2_3.length : Int) then ((atticref19_has.f k4 (l2_3.take (x11_4 : Int).toNat) (rd l2_3 x11_4)).bind fun t245 => (if t245 = true then (some 191) else (atticref19_Check.l1 k4 (wrap64 (x11_4 + 1)) l0_0 l0_1 a2_0 a2_1 l2_2 l2_3 a2_4 a2_5 a2_6))) else (none)) else (some 191)) = some r := by rw [← hbq130] at H; exact H
         have Nbq130 := ak hbq130
         clear hbq130
         by_cases c131 : (bq130 = true); rotate_left
         ·replace c131 := Bool.eq_false_iff.mpr c131
          subst c131
          have H1 : (some 191) = some r := by rw [if_neg (show ¬ (false = true) by decide)] at H; exact H
          clear H
          have H := H1
          clear H1
          obtain rfl := Option.some.inj H
          have hnb148 := NB223_222.out
          have hnc148 := NB222_223.out
          have hnb149 := NB223_236.out
          have hnc149 := NB236_223.out
          obtain ⟨z150_0, z150_1, z150_2, z150_3, z150_4, z150_5, z150_6, f150_0, f150_1, f150_2, f150_3, f150_4, f150_5, f150_6⟩ := kk7 BK223.out
          try go_wp2
          have n0_ := ak (Kd.R_drew HO_237002.out)
          have n1_ := ak (Kd.R_drew HO_237003.out)
          have n2_ := ak (blk_drew BK222.out)
          have n3_ := ak (blk_drew BK223.out)
          have n4_ := ak (blk_drew BK236.out)
          have n5_ := ak (below_drew1 HB.out)
          clear HO_237002 HO_237003 BK222 BK223 BK236 HB
          have HO_237002 := n0_
          have HO_237003 := n1_
          have BK222 := n2_
          have BK223 := n3_
          have BK236 := n4_
          have HB := n5_
          clear n0_ n1_ n2_ n3_ n4_ n5_
          have p239 : 0 ≤ (x11_4 : Int) := of_decide_eq_true (by first | (with_reducible assumption) | assumption)
          have q239 : x11_4 < (l2_3.length : Int) := of_decide_eq_true (by first | (with_reducible assumption) | assumption)
          obtain ⟨ad239, e239, hx239_0⟩ := Kd.at_int HR2_3.out x11_4 p239 q239
          have hw239_0 := hx239_0
          cases e239
          replace hx239_0 := (HB.out.cell (World.block_lt_of_cell? w _ hx239_0)).trans hx239_0
          replace p239 := eq_true p239
          replace q239 := eq_true q239
          have p241 : 0 ≤ (x11_4 : Int) := of_decide_eq_true (by first | (with_reducible assumption) | assumption)
          have q241 : x11_4 < (l2_3.length : Int) := of_decide_eq_true (by first | (with_reducible assumption) | assumption)
          obtain ⟨ad241, e241, hx241_0⟩ := Kd.at_int HR2_3.out x11_4 p241 q241
          have hw241_0 := hx241_0
          obtain rfl : ad239 = ad241 := (by injection e241)
          replace hx241_0 := (HB.out.cell (World.block_lt_of_cell? w _ hx241_0)).trans hx241_0
          replace p241 := eq_true p241
          replace q241 := eq_true q241
          have p242 : 0 ≤ ((rd l2_3 x11_4) : Int) := of_decide_eq_true (by first | (with_reducible assumption) | assumption)
          have q242 : (rd l2_3 x11_4) < (l2_2.length : Int) := of_decide_eq_true (by first | (with_reducible assumption) | assumption)
          obtain ⟨ad242, e242, hx242_0⟩ := Kd.at_bool HR2_2.out (rd l2_3 x11_4) p242 q242
          (try rw [← Nbq130.out] at hx242_0)
          have hw242_0 := hx242_0
          cases e242
          replace hx242_0 := (HB.out.cell (World.block_lt_of_cell? w _ hx242_0)).trans hx242_0
          replace p242 := eq_true p242
          replace q242 := eq_true q242
          as_aux_lemma =>
          refine sL (n := 32) (S := fun w' => w'.cell? ⟨gb222, 0, none⟩ = some (.slice A0_0 l0_0.length c0_0) ∧ w'.cell? ⟨gb222, 1, none⟩ = some (.slice A0_1 l0_1.length c0_1) ∧ w'.cell? ⟨gb223, 0, none⟩ = some (.int .i64 a2_0) ∧ w'.cell? ⟨gb223, 1, none⟩ = some (.int .i64 a2_1) ∧ w'.cell? ⟨gb223, 2, none⟩ = some (.slice (some ad242) l2_2.length c2_2) ∧ w'.cell? ⟨gb223, 3, none⟩ = some (.slice (some ad239) l2_3.length c2_3) ∧ w'.cell? ⟨gb223, 4, none⟩ = some (.bool a2_4) ∧ w'.cell? ⟨gb223, 5, none⟩ = some (.bool a2_5) ∧ w'.cell? ⟨gb223, 6, none⟩ = some (.bool a2_6) ∧ w'.cell? (ad239.add (x11_4).toNat) = some (.int .i64 (rd l2_3 x11_4)) ∧ w'.cell? (ad239.add (x11_4).toNat) = some (.int .i64 (rd l2_3 x11_4)) ∧ w'.cell? (ad242.add ((rd l2_3 x11_4)).toNat) = some (.bool false)) (ds := []) (by kernel_rfl) rfl ⟨(blk_cell BK222.out 0).trans rfl, (blk_cell BK222.out 1).trans rfl, (blk_cell BK223.out 0).trans rfl, (blk_cell BK223.out 1).trans rfl, (blk_cell BK223.out 2).trans rfl, (blk_cell BK223.out 3).trans rfl, (blk_cell BK223.out 4).trans rfl, (blk_cell BK223.out 5).trans rfl, (blk_cell BK223.out 6).trans rfl, ((HB.out.cell (World.block_lt_of_cell? w _ hw239_0)).trans hw239_0), ((HB.out.cell (World.block_lt_of_cell? w _ hw241_0)).trans hw241_0), ((HB.out.cell (World.block_lt_of_cell? w _ hw242_0)).trans hw242_0)⟩ (fun hHeld => ?_)
          generalize wr.drew = w151 at HO_237002 HO_237003 BK222 BK223 BK236 HB hx239_0 hx241_0 hx242_0 hHeld ⊢
          (refine tL (N := some _) rfl rfl (by kernel_rfl) (fun _ _ _ h => h) hHeld (by rfl) (v := ?_) (a' := ?_) ?_ ?_ ?_; rotate_left; (rintro w' ⟨s0, s1, s2, s3, s4, s5, s6, s7, s8, s9, s10, s11⟩; go_simp; with_reducible rfl); rotate_left; (simp only [Act.put, sq0, sq1, sq2, sq3, sq4]; rfl))
          (refine pL (N := some _) rfl rfl (by kernel_rfl) (fun _ _ _ h => h) (by rfl) (v := ?_) (a' := ?_) ?_ ?_ ?_; rotate_left; (intro w'; go_simp; with_reducible rfl); rotate_left; (simp only [Act.put, sq0, sq1, sq2, sq3, sq4]; rfl))
          (refine tL (N := some _) rfl rfl (by kernel_rfl) (fun _ _ _ h => h) hHeld (by rfl) (v := ?_) (a' := ?_) ?_ ?_ ?_; rotate_left; (rintro w' ⟨s0, s1, s2, s3, s4, s5, s6, s7, s8, s9, s10, s11⟩; go_simp; with_reducible rfl); rotate_left; (simp only [Act.put, sq0, sq1, sq2, sq3, sq4]; rfl))
          iterate 2 (refine pL (N := some _) rfl rfl (by kernel_rfl) (fun _ _ _ h => h) (by rfl) (v := ?_) (a' := ?_) ?_ ?_ ?_; rotate_left; (intro w'; go_simp; with_reducible rfl); rotate_left; (simp only [Act.put, sq0, sq1, sq2, sq3, sq4]; rfl))
          (refine tL (N := some _) rfl rfl (by kernel_rfl) (fun _ _ _ h => h) hHeld (by rfl) (v := ?_) (a' := ?_) ?_ ?_ ?_; rotate_left; (rintro w' ⟨s0, s1, s2, s3, s4, s5, s6, s7, s8, s9, s10, s11⟩; go_simp; with_reducible rfl); rotate_left; (simp only [Act.put, sq0, sq1, sq2, sq3, sq4]; rfl))
          refine nL (N := some 133) rfl rfl (by kernel_rfl) (by decide) (fun K hK => ?_)
          refine goes_ Try.func42 (by kernel_rfl) rfl #[.agg #[.slice A0_0 l0_0.length c0_0, .slice A0_1 l0_1.length c0_1], .int .i64 (rd l2_3 x11_4)] (by rfl) rfl rfl (by (try simp only [List.map_toArray, List.map_cons, List.map_nil]); first | done | rfl | (simp only [List.length_drop, List.length_take]; rfl)) ?_
          with_reducible refine (atticref19_cell.calls _ _ l0_0 _ _ l0_1 (rd l2_3 x11_4) true _ ?side1 ?side2 ?side3 ?side4 A126.out).mono ?_
          (case side1 => repeat (first | exact (Kd.C_below HR0_0.out HB.out) | (with_reducible first | refine ca_ ?_ _ | refine cn_ ?_ _ | refine cd_ ?_)))
          (case side2 => exact HC0_0.out)
          (case side3 => repeat (first | exact (Kd.C_below HR0_1.out HB.out) | (with_reducible first | refine ca_ ?_ _ | refine cn_ ?_ _ | refine cd_ ?_)))
          (case side4 => exact HC0_1.out)
          rintro e w152 ⟨rfl, hb⟩
          refine ⟨_, rfl, ?_⟩
          have n0_ := ak (Kd.R_below (by (with_reducible repeat (first | apply Kd.R_alloc | apply Kd.R_drewN | apply Kd.R_drew)); exact HO_237002.out) hb)
          have n1_ := ak (Kd.R_below (by (with_reducible repeat (first | apply Kd.R_alloc | apply Kd.R_drewN | apply Kd.R_drew)); exact HO_237003.out) hb)
          have n2_ := ak (blk_below (by (with_reducible repeat first | apply kn_ | apply kd_ | apply ka_); exact BK222.out) hb)
          have n3_ := ak (blk_below (by (with_reducible repeat first | apply kn_ | apply kd_ | apply ka_); exact BK223.out) hb)
          have n4_ := ak (blk_below (by (with_reducible repeat first | apply kn_ | apply kd_ | apply ka_); exact BK236.out) hb)
          have n5_ := ak (below_step (by repeat (with_reducible first | exact HB.out | apply ba_ | apply bn_ | apply b1_ | refine bs_ ?_ GE222.out | refine bs_ ?_ GE223.out | refine bs_ ?_ GE236.out)) hb)
          clear HO_237002 HO_237003 BK222 BK223 BK236 HB
          have HO_237002 := n0_
          have HO_237003 := n1_
          have BK222 := n2_
          have BK223 := n3_
          have BK236 := n4_
          have HB := n5_
          clear n0_ n1_ n2_ n3_ n4_ n5_
          (try clear hb)
          (try clear hb2)
          (try clear hk)
          (try clear hi)
          refine hK.out _ _ ⟨(blk_cell BK222.out 0).trans rfl, (blk_cell BK222.out 1).trans rfl, (blk_cell BK223.out 0).trans rfl, (blk_cell BK223.out 1).trans rfl, (blk_cell BK223.out 2).trans rfl, (blk_cell BK223.out 3).trans rfl, (blk_cell BK223.out 4).trans rfl, (blk_cell BK223.out 5).trans rfl, (blk_cell BK223.out 6).trans rfl, ((HB.out.cell (World.block_lt_of_cell? w _ hw239_0)).trans hw239_0), ((HB.out.cell (World.block_lt_of_cell? w _ hw241_0)).trans hw241_0), ((HB.out.cell (World.block_lt_of_cell? w _ hw242_0)).trans hw242_0)⟩ (fun hHeld => ?_)
          clear hK K
          refine norm_ (a' := ?_) ?_ ?_
          rotate_left
          ·show Act.put _ (some 133) _ = _
           simp only [Act.put, sq0, sq1, sq2, sq3, sq4]
           rfl
          iterate 3 (refine pL (N := some _) rfl rfl (by kernel_rfl) (fun _ _ _ h => h) (by rfl) (v := ?_) (a' := ?_) ?_ ?_ ?_; rotate_left; (intro w'; go_simp; with_reducible rfl); rotate_left; (simp only [Act.put, sq0, sq1, sq2, sq3, sq4]; rfl))
          (refine tL (N := some _) rfl rfl (by kernel_rfl) (fun _ _ _ h => h) hHeld (by rfl) (v := ?_) (a' := ?_) ?_ ?_ ?_; rotate_left; (rintro w' ⟨s0, s1, s2, s3, s4, s5, s6, s7, s8, s9, s10, s11⟩; go_simp; with_reducible rfl); rotate_left; (simp only [Act.put, sq0, sq1, sq2, sq3, sq4]; rfl))
          (refine pL (N := some _) rfl rfl (by kernel_rfl) (fun _ _ _ h => h) (by rfl) (v := ?_) (a' := ?_) ?_ ?_ ?_; rotate_left; (intro w'; go_simp; with_reducible rfl); rotate_left; (simp only [Act.put, sq0, sq1, sq2, sq3, sq4]; rfl))
          (refine tL (N := some _) rfl rfl (by kernel_rfl) (fun _ _ _ h => h) hHeld (by rfl) (v := ?_) (a' := ?_) ?_ ?_ ?_; rotate_left; (rintro w' ⟨s0, s1, s2, s3, s4, s5, s6, s7, s8, s9, s10, s11⟩; go_simp; with_reducible rfl); rotate_left; (simp only [Act.put, sq0, sq1, sq2, sq3, sq4]; rfl))
          iterate 2 (refine pL (N := some _) rfl rfl (by kernel_rfl) (fun _ _ _ h => h) (by rfl) (v := ?_) (a' := ?_) ?_ ?_ ?_; rotate_left; (intro w'; go_simp; with_reducible rfl); rotate_left; (simp only [Act.put, sq0, sq1, sq2, sq3, sq4]; rfl))
          (refine tL (N := some _) rfl rfl (by kernel_rfl) (fun _ _ _ h => h) hHeld (by rfl) (v := ?_) (a' := ?_) ?_ ?_ ?_; rotate_left; (rintro w' ⟨s0, s1, s2, s3, s4, s5, s6, s7, s8, s9, s10, s11⟩; go_simp; with_reducible rfl); rotate_left; (simp only [Act.put, sq0, sq1, sq2, sq3, sq4]; rfl))
          (refine pL (N := some _) rfl rfl (by kernel_rfl) (fun _ _ _ h => h) (by rfl) (v := ?_) (a' := ?_) ?_ ?_ ?_; rotate_left; (intro w'; go_simp; with_reducible rfl); rotate_left; (simp only [Act.put, sq0, sq1, sq2, sq3, sq4]; rfl))
          (refine tL (N := some _) rfl rfl (by kernel_rfl) (fun _ _ _ h => h) hHeld (by rfl) (v := ?_) (a' := ?_) ?_ ?_ ?_; rotate_left; (rintro w' ⟨s0, s1, s2, s3, s4, s5, s6, s7, s8, s9, s10, s11⟩; go_simp; with_reducible rfl); rotate_left; (simp only [Act.put, sq0, sq1, sq2, sq3, sq4]; rfl))
          iterate 3 (refine pL (N := some _) rfl rfl (by kernel_rfl) (fun _ _ _ h => h) (by rfl) (v := ?_) (a' := ?_) ?_ ?_ ?_; rotate_left; (intro w'; go_simp; with_reducible rfl); rotate_left; (simp only [Act.put, sq0, sq1, sq2, sq3, sq4]; rfl))
          iterate 10 (refine oL (N := some _) rfl rfl (by kernel_rfl) (fun _ _ _ h => h) (by rfl) (a' := ?_) ?_ ?_; rotate_left; (simp only [Act.put, sq0, sq1, sq2, sq3, sq4]; rfl))
          (refine pL (N := some _) rfl rfl (by kernel_rfl) (fun _ _ _ h => h) (by rfl) (v := ?_) (a' := ?_) ?_ ?_ ?_; rotate_left; (intro w'; go_simp; with_reducible rfl); rotate_left; (simp only [Act.put, sq0, sq1, sq2, sq3, sq4]; rfl))
          refine dL (by kernel_rfl) ?_
          try go_wp2
          go_ret
          exact ⟨by first | rfl | (simp [errW_none, errW_some] <;> rfl) | (simp [*, errW_none, errW_some] <;> rfl) | (simp [Int.tdiv_eq_ediv_of_nonneg]; done), by repeat (with_reducible first | exact HB.out | apply ba_ | apply bn_ | apply b1_ | refine bs_ ?_ GE222.out | refine bs_ ?_ GE223.out | refine bs_ ?_ GE236.out)⟩
         subst c131
         have H1 : (if x11_4 ≤ (l2_3.length : Int) then ((atticref19_has.f k4 (l2_3.take (x11_4 : Int).toNat) (rd l2_3 x11_4)).bind fun t245 => (if t245 = true then (some 191) else (atticref19_Check.l1 k4 (wrap64 (x11_4 + 1)) l0_0 l0_1 a2_0 a2_1 l2_2 l2_3 a2_4 a2_5 a2_6))) else (none)) = some r := by rw [if_pos rfl] at H; exact H
         clear H
         have H := H1
         clear H1
         have c132b0 := eq_true (of_decide_eq_true (by first | (with_reducible assumption) | assumption) : 0 ≤ x11_4)
         by_cases c133 : x11_4 ≤ (l2_3.length : Int); rotate_left
         ·rw [if_neg c133] at H
          exact absurd H (by simp)
         rw [if_pos c133] at H
         have c133b0 := eq_true c133
         have c133b1 : decide (x11_4 ≤ (l2_3.length : Int)) = true := decide_eq_true c133
         clear c133
         replace H := Option.bind_eq_some_iff.mp H
         obtain ⟨t245, A1340, H⟩ := H
         replace H : (if t245 = true then (some 191) else (atticref19_Check.l1 k4 (wrap64 (x11_4 + 1)) l0_0 l0_1 a2_0 a2_1 l2_2 l2_3 a2_4 a2_5 a2_6)) = some r := H
         have A134 := ak A1340
         clear A1340
         by_cases c135 : t245 = true
         ·subst c135
          have H1 : (some 191) = some r := by rw [if_pos rfl] at H; exact H
          clear H
          have H := H1
          clear H1
          obtain rfl := Option.some.inj H
          have hnb136 := NB223_222.out
          have hnc136 := NB222_223.out
          have hnb137 := NB223_236.out
          have hnc137 := NB236_223.out
          obtain ⟨z138_0, z138_1, z138_2, z138_3, z138_4, z138_5, z138_6, f138_0, f138_1, f138_2, f138_3, f138_4, f138_5, f138_6⟩ := kk7 BK223.out
          try go_wp2
          have n0_ := ak (Kd.R_drew HO_237002.out)
          have n1_ := ak (Kd.R_drew HO_237003.out)
          have n2_ := ak (blk_drew BK222.out)
          have n3_ := ak (blk_drew BK223.out)
          have n4_ := ak (blk_drew BK236.out)
          have n5_ := ak (below_drew1 HB.out)
          clear HO_237002 HO_237003 BK222 BK223 BK236 HB
          have HO_237002 := n0_
          have HO_237003 := n1_
          have BK222 := n2_
          have BK223 := n3_
          have BK236 := n4_
          have HB := n5_
          clear n0_ n1_ n2_ n3_ n4_ n5_
          have p239 : 0 ≤ (x11_4 : Int) := of_decide_eq_true (by first | (with_reducible assumption) | assumption)
          have q239 : x11_4 < (l2_3.length : Int) := of_decide_eq_true (by first | (with_reducible assumption) | assumption)
          obtain ⟨ad239, e239, hx239_0⟩ := Kd.at_int HR2_3.out x11_4 p239 q239
          have hw239_0 := hx239_0
          cases e239
          replace hx239_0 := (HB.out.cell (World.block_lt_of_cell? w _ hx239_0)).trans hx239_0
          replace p239 := eq_true p239
          replace q239 := eq_true q239
          have p241 : 0 ≤ (x11_4 : Int) := of_decide_eq_true (by first | (with_reducible assumption) | assumption)
          have q241 : x11_4 < (l2_3.length : Int) := of_decide_eq_true (by first | (with_reducible assumption) | assumption)
          obtain ⟨ad241, e241, hx241_0⟩ := Kd.at_int HR2_3.out x11_4 p241 q241
          have hw241_0 := hx241_0
          obtain rfl : ad239 = ad241 := (by injection e241)
          replace hx241_0 := (HB.out.cell (World.block_lt_of_cell? w _ hx241_0)).trans hx241_0
          replace p241 := eq_true p241
          replace q241 := eq_true q241
          have p242 : 0 ≤ ((rd l2_3 x11_4) : Int) := of_decide_eq_true (by first | (with_reducible assumption) | assumption)
          have q242 : (rd l2_3 x11_4) < (l2_2.length : Int) := of_decide_eq_true (by first | (with_reducible assumption) | assumption)
          obtain ⟨ad242, e242, hx242_0⟩ := Kd.at_bool HR2_2.out (rd l2_3 x11_4) p242 q242
          (try rw [← Nbq130.out] at hx242_0)
          have hw242_0 := hx242_0
          cases e242
          replace hx242_0 := (HB.out.cell (World.block_lt_of_cell? w _ hx242_0)).trans hx242_0
          replace p242 := eq_true p242
          replace q242 := eq_true q242
          have p244 : 0 ≤ (x11_4 : Int) := of_decide_eq_true (by first | (with_reducible assumption) | assumption)
          have q244 : x11_4 < (l2_3.length : Int) := of_decide_eq_true (by first | (with_reducible assumption) | assumption)
          obtain ⟨ad244, e244, hx244_0⟩ := Kd.at_int HR2_3.out x11_4 p244 q244
          have hw244_0 := hx244_0
          obtain rfl : ad239 = ad244 := (by injection e244)
          replace hx244_0 := (HB.out.cell (World.block_lt_of_cell? w _ hx244_0)).trans hx244_0
          replace p244 := eq_true p244
          replace q244 := eq_true q244
          as_aux_lemma =>
          refine sL (n := 32) (S := fun w' => w'.cell? ⟨gb222, 0, none⟩ = some (.slice A0_0 l0_0.length c0_0) ∧ w'.cell? ⟨gb222, 1, none⟩ = some (.slice A0_1 l0_1.length c0_1) ∧ w'.cell? ⟨gb223, 0, none⟩ = some (.int .i64 a2_0) ∧ w'.cell? ⟨gb223, 1, none⟩ = some (.int .i64 a2_1) ∧ w'.cell? ⟨gb223, 2, none⟩ = some (.slice (some ad242) l2_2.length c2_2) ∧ w'.cell? ⟨gb223, 3, none⟩ = some (.slice (some ad239) l2_3.length c2_3) ∧ w'.cell? ⟨gb223, 4, none⟩ = some (.bool a2_4) ∧ w'.cell? ⟨gb223, 5, none⟩ = some (.bool a2_5) ∧ w'.cell? ⟨gb223, 6, none⟩ = some (.bool a2_6) ∧ w'.cell? (ad239.add (x11_4).toNat) = some (.int .i64 (rd l2_3 x11_4)) ∧ w'.cell? (ad239.add (x11_4).toNat) = some (.int .i64 (rd l2_3 x11_4)) ∧ w'.cell? (ad242.add ((rd l2_3 x11_4)).toNat) = some (.bool true) ∧ w'.cell? (ad239.add (x11_4).toNat) = some (.int .i64 (rd l2_3 x11_4))) (ds := []) (by kernel_rfl) rfl ⟨(blk_cell BK222.out 0).trans rfl, (blk_cell BK222.out 1).trans rfl, (blk_cell BK223.out 0).trans rfl, (blk_cell BK223.out 1).trans rfl, (blk_cell BK223.out 2).trans rfl, (blk_cell BK223.out 3).trans rfl, (blk_cell BK223.out 4).trans rfl, (blk_cell BK223.out 5).trans rfl, (blk_cell BK223.out 6).trans rfl, ((HB.out.cell (World.block_lt_of_cell? w _ hw239_0)).trans hw239_0), ((HB.out.cell (World.block_lt_of_cell? w _ hw241_0)).trans hw241_0), ((HB.out.cell (World.block_lt_of_cell? w _ hw242_0)).trans hw242_0), ((HB.out.cell (World.block_lt_of_cell? w _ hw244_0)).trans hw244_0)⟩ (fun hHeld => ?_)
          generalize wr.drew = w139 at HO_237002 HO_237003 BK222 BK223 BK236 HB hx239_0 hx241_0 hx242_0 hx244_0 hHeld ⊢
          (refine tL (N := some _) rfl rfl (by kernel_rfl) (fun _ _ _ h => h) hHeld (by rfl) (v := ?_) (a' := ?_) ?_ ?_ ?_; rotate_left; (rintro w' ⟨s0, s1, s2, s3, s4, s5, s6, s7, s8, s9, s10, s11, s12⟩; go_simp; with_reducible rfl); rotate_left; (simp only [Act.put, sq0, sq1, sq2, sq3, sq4]; rfl))
          (refine pL (N := some _) rfl rfl (by kernel_rfl) (fun _ _ _ h => h) (by rfl) (v := ?_) (a' := ?_) ?_ ?_ ?_; rotate_left; (intro w'; go_simp; with_reducible rfl); rotate_left; (simp only [Act.put, sq0, sq1, sq2, sq3, sq4]; rfl))
          (refine tL (N := some _) rfl rfl (by kernel_rfl) (fun _ _ _ h => h) hHeld (by rfl) (v := ?_) (a' := ?_) ?_ ?_ ?_; rotate_left; (rintro w' ⟨s0, s1, s2, s3, s4, s5, s6, s7, s8, s9, s10, s11, s12⟩; go_simp; with_reducible rfl); rotate_left; (simp only [Act.put, sq0, sq1, sq2, sq3, sq4]; rfl))
          iterate 2 (refine pL (N := some _) rfl rfl (by kernel_rfl) (fun _ _ _ h => h) (by rfl) (v := ?_) (a' := ?_) ?_ ?_ ?_; rotate_left; (intro w'; go_simp; with_reducible rfl); rotate_left; (simp only [Act.put, sq0, sq1, sq2, sq3, sq4]; rfl))
          (refine tL (N := some _) rfl rfl (by kernel_rfl) (fun _ _ _ h => h) hHeld (by rfl) (v := ?_) (a' := ?_) ?_ ?_ ?_; rotate_left; (rintro w' ⟨s0, s1, s2, s3, s4, s5, s6, s7, s8, s9, s10, s11, s12⟩; go_simp; with_reducible rfl); rotate_left; (simp only [Act.put, sq0, sq1, sq2, sq3, sq4]; rfl))
          refine nL (N := some 133) rfl rfl (by kernel_rfl) (by decide) (fun K hK => ?_)
          refine goes_ Try.func42 (by kernel_rfl) rfl #[.agg #[.slice A0_0 l0_0.length c0_0, .slice A0_1 l0_1.length c0_1], .int .i64 (rd l2_3 x11_4)] (by rfl) rfl rfl (by (try simp only [List.map_toArray, List.map_cons, List.map_nil]); first | done | rfl | (simp only [List.length_drop, List.length_take]; rfl)) ?_
          with_reducible refine (atticref19_cell.calls _ _ l0_0 _ _ l0_1 (rd l2_3 x11_4) true _ ?side1 ?side2 ?side3 ?side4 A126.out).mono ?_
          (case side1 => repeat (first | exact (Kd.C_below HR0_0.out HB.out) | (with_reducible first | refine ca_ ?_ _ | refine cn_ ?_ _ | refine cd_ ?_)))
          (case side2 => exact HC0_0.out)
          (case side3 => repeat (first | exact (Kd.C_below HR0_1.out HB.out) | (with_reducible first | refine ca_ ?_ _ | refine cn_ ?_ _ | refine cd_ ?_)))
          (case side4 => exact HC0_1.out)
          rintro e w140 ⟨rfl, hb⟩
          refine ⟨_, rfl, ?_⟩
          have n0_ := ak (Kd.R_below (by (with_reducible repeat (first | apply Kd.R_alloc | apply Kd.R_drewN | apply Kd.R_drew)); exact HO_237002.out) hb)
          have n1_ := ak (Kd.R_below (by (with_reducible repeat (first | apply Kd.R_alloc | apply Kd.R_drewN | apply Kd.R_drew)); exact HO_237003.out) hb)
          have n2_ := ak (blk_below (by (with_reducible repeat first | apply kn_ | apply kd_ | apply ka_); exact BK222.out) hb)
          have n3_ := ak (blk_below (by (with_reducible repeat first | apply kn_ | apply kd_ | apply ka_); exact BK223.out) hb)
          have n4_ := ak (blk_below (by (with_reducible repeat first | apply kn_ | apply kd_ | apply ka_); exact BK236.out) hb)
          have n5_ := ak (below_step (by repeat (with_reducible first | exact HB.out | apply ba_ | apply bn_ | apply b1_ | refine bs_ ?_ GE222.out | refine bs_ ?_ GE223.out | refine bs_ ?_ GE236.out)) hb)
          clear HO_237002 HO_237003 BK222 BK223 BK236 HB
          have HO_237002 := n0_
          have HO_237003 := n1_
          have BK222 := n2_
          have BK223 := n3_
          have BK236 := n4_
          have HB := n5_
          clear n0_ n1_ n2_ n3_ n4_ n5_
          (try clear hb)
          (try clear hb2)
          (try clear hk)
          (try clear hi)
          obtain ⟨i0141, hi0141, _, hsz141, _⟩ := info_parts info3
          obtain ⟨hcut141, hA141, hC141⟩ := print_take_of (P := Try.prog) (Value.int .i64) 0 23 3 .i64 Try.underlying23 hi0141 hsz141 (some ad239) c2_3 l2_3 x11_4 (of_decide_eq_true (by first | (with_reducible assumption) | assumption)) (of_decide_eq_true (by first | (with_reducible assumption) | assumption)) HC2_3.out
          have HR243 := ak (Kd.C_of_reads (h1 := fun _ => rfl) (hA141 _ (Kd.reads_of_C HR2_3.out)))
          have HC243 := ak hC141
          clear hA141 hC141 hi0141 hsz141
          refine hK.out _ _ ⟨(blk_cell BK222.out 0).trans rfl, (blk_cell BK222.out 1).trans rfl, (blk_cell BK223.out 0).trans rfl, (blk_cell BK223.out 1).trans rfl, (blk_cell BK223.out 2).trans rfl, (blk_cell BK223.out 3).trans rfl, (blk_cell BK223.out 4).trans rfl, (blk_cell BK223.out 5).trans rfl, (blk_cell BK223.out 6).trans rfl, ((HB.out.cell (World.block_lt_of_cell? w _ hw239_0)).trans hw239_0), ((HB.out.cell (World.block_lt_of_cell? w _ hw241_0)).trans hw241_0), ((HB.out.cell (World.block_lt_of_cell? w _ hw242_0)).trans hw242_0), ((HB.out.cell (World.block_lt_of_cell? w _ hw244_0)).trans hw244_0)⟩ (fun hHeld => ?_)
          clear hK K
          refine norm_ (a' := ?_) ?_ ?_
          rotate_left
          ·show Act.put _ (some 133) _ = _
           simp only [Act.put, sq0, sq1, sq2, sq3, sq4]
           rfl
          iterate 3 (refine pL (N := some _) rfl rfl (by kernel_rfl) (fun _ _ _ h => h) (by rfl) (v := ?_) (a' := ?_) ?_ ?_ ?_; rotate_left; (intro w'; go_simp; with_reducible rfl); rotate_left; (simp only [Act.put, sq0, sq1, sq2, sq3, sq4]; rfl))
          (refine tL (N := some _) rfl rfl (by kernel_rfl) (fun _ _ _ h => h) hHeld (by rfl) (v := ?_) (a' := ?_) ?_ ?_ ?_; rotate_left; (rintro w' ⟨s0, s1, s2, s3, s4, s5, s6, s7, s8, s9, s10, s11, s12⟩; go_simp; with_reducible rfl); rotate_left; (simp only [Act.put, sq0, sq1, sq2, sq3, sq4]; rfl))
          (refine pL (N := some _) rfl rfl (by kernel_rfl) (fun _ _ _ h => h) (by rfl) (v := ?_) (a' := ?_) ?_ ?_ ?_; rotate_left; (intro w'; go_simp; with_reducible rfl); rotate_left; (simp only [Act.put, sq0, sq1, sq2, sq3, sq4]; rfl))
          (refine tL (N := some _) rfl rfl (by kernel_rfl) (fun _ _ _ h => h) hHeld (by rfl) (v := ?_) (a' := ?_) ?_ ?_ ?_; rotate_left; (rintro w' ⟨s0, s1, s2, s3, s4, s5, s6, s7, s8, s9, s10, s11, s12⟩; go_simp; with_reducible rfl); rotate_left; (simp only [Act.put, sq0, sq1, sq2, sq3, sq4]; rfl))
          iterate 2 (refine pL (N := some _) rfl rfl (by kernel_rfl) (fun _ _ _ h => h) (by rfl) (v := ?_) (a' := ?_) ?_ ?_ ?_; rotate_left; (intro w'; go_simp; with_reducible rfl); rotate_left; (simp only [Act.put, sq0, sq1, sq2, sq3, sq4]; rfl))
          (refine tL (N := some _) rfl rfl (by kernel_rfl) (fun _ _ _ h => h) hHeld (by rfl) (v := ?_) (a' := ?_) ?_ ?_ ?_; rotate_left; (rintro w' ⟨s0, s1, s2, s3, s4, s5, s6, s7, s8, s9, s10, s11, s12⟩; go_simp; with_reducible rfl); rotate_left; (simp only [Act.put, sq0, sq1, sq2, sq3, sq4]; rfl))
          (refine pL (N := some _) rfl rfl (by kernel_rfl) (fun _ _ _ h => h) (by rfl) (v := ?_) (a' := ?_) ?_ ?_ ?_; rotate_left; (intro w'; go_simp; with_reducible rfl); rotate_left; (simp only [Act.put, sq0, sq1, sq2, sq3, sq4]; rfl))
          (refine tL (N := some _) rfl rfl (by kernel_rfl) (fun _ _ _ h => h) hHeld (by rfl) (v := ?_) (a' := ?_) ?_ ?_ ?_; rotate_left; (rintro w' ⟨s0, s1, s2, s3, s4, s5, s6, s7, s8, s9, s10, s11, s12⟩; go_simp; with_reducible rfl); rotate_left; (simp only [Act.put, sq0, sq1, sq2, sq3, sq4]; rfl))
          iterate 4 (refine pL (N := some _) rfl rfl (by kernel_rfl) (fun _ _ _ h => h) (by rfl) (v := ?_) (a' := ?_) ?_ ?_ ?_; rotate_left; (intro w'; go_simp; with_reducible rfl); rotate_left; (simp only [Act.put, sq0, sq1, sq2, sq3, sq4]; rfl))
          (refine tL (N := some _) rfl rfl (by kernel_rfl) (fun _ _ _ h => h) hHeld (by rfl) (v := ?_) (a' := ?_) ?_ ?_ ?_; rotate_left; (rintro w' ⟨s0, s1, s2, s3, s4, s5, s6, s7, s8, s9, s10, s11, s12⟩; go_simp; with_reducible rfl); rotate_left; (simp only [Act.put, sq0, sq1, sq2, sq3, sq4]; rfl))
          iterate 3 (refine pL (N := some _) rfl rfl (by kernel_rfl) (fun _ _ _ h => h) (by rfl) (v := ?_) (a' := ?_) ?_ ?_ ?_; rotate_left; (intro w'; go_simp; with_reducible rfl); rotate_left; (simp only [Act.put, sq0, sq1, sq2, sq3, sq4]; rfl))
          (refine tL (N := some _) rfl rfl (by kernel_rfl) (fun _ _ _ h => h) hHeld (by rfl) (v := ?_) (a' := ?_) ?_ ?_ ?_; rotate_left; (rintro w' ⟨s0, s1, s2, s3, s4, s5, s6, s7, s8, s9, s10, s11, s12⟩; go_simp; with_reducible rfl); rotate_left; (simp only [Act.put, sq0, sq1, sq2, sq3, sq4]; rfl))
          iterate 2 (refine pL (N := some _) rfl rfl (by kernel_rfl) (fun _ _ _ h => h) (by rfl) (v := ?_) (a' := ?_) ?_ ?_ ?_; rotate_left; (intro w'; go_simp; with_reducible rfl); rotate_left; (simp only [Act.put, sq0, sq1, sq2, sq3, sq4]; rfl))
          (refine tL (N := some _) rfl rfl (by kernel_rfl) (fun _ _ _ h => h) hHeld (by rfl) (v := ?_) (a' := ?_) ?_ ?_ ?_; rotate_left; (rintro w' ⟨s0, s1, s2, s3, s4, s5, s6, s7, s8, s9, s10, s11, s12⟩; go_simp; with_reducible rfl); rotate_left; (simp only [Act.put, sq0, sq1, sq2, sq3, sq4]; rfl))
          refine nL (N := some 157) rfl rfl (by kernel_rfl) (by decide) (fun K hK => ?_)
          refine goes_ Try.func44 (by kernel_rfl) rfl #[.slice (some ad239) (l2_3.take (x11_4 : Int).toNat).length c2_3, .int .i64 (rd l2_3 x11_4)] (by rfl) rfl rfl (by (try simp only [List.map_toArray, List.map_cons, List.map_nil]); first | done | (rw [show (l2_3.take (x11_4 : Int).toNat).length = x11_4.toNat from (by rw [List.length_take]; have h_ : (x11_4 : Int) ≤ (l2_3.length : Int) := of_decide_eq_true (by first | (with_reducible assumption) | assumption); omega)] <;> rfl) | rfl | (simp only [List.length_drop, List.length_take]; rfl)) ?_
          with_reducible refine (atticref19_has.calls k4 _ _ (l2_3.take (x11_4 : Int).toNat) (rd l2_3 x11_4) true _ ?side1 ?side2 A134.out).mono ?_
          (case side1 => repeat (first | exact (Kd.C_below HR243.out HB.out) | (with_reducible first | refine ca_ ?_ _ | refine cn_ ?_ _ | refine cd_ ?_)))
          (case side2 => exact HC243.out)
          rintro e w' ⟨rfl, ⟨nd, rfl⟩⟩
          refine ⟨_, rfl, ?_⟩
          refine hK.out _ _ ⟨(blk_cell BK222.out 0).trans rfl, (blk_cell BK222.out 1).trans rfl, (blk_cell BK223.out 0).trans rfl, (blk_cell BK223.out 1).trans rfl, (blk_cell BK223.out 2).trans rfl, (blk_cell BK223.out 3).trans rfl, (blk_cell BK223.out 4).trans rfl, (blk_cell BK223.out 5).trans rfl, (blk_cell BK223.out 6).trans rfl, ((HB.out.cell (World.block_lt_of_cell? w _ hw239_0)).trans hw239_0), ((HB.out.cell (World.block_lt_of_cell? w _ hw241_0)).trans hw241_0), ((HB.out.cell (World.block_lt_of_cell? w _ hw242_0)).trans hw242_0), ((HB.out.cell (World.block_lt_of_cell? w _ hw244_0)).trans hw244_0)⟩ (fun hHeld => ?_)
          clear hK K
          refine norm_ (a' := ?_) ?_ ?_
          rotate_left
          ·show Act.put _ (some 157) _ = _
           simp only [Act.put, sq0, sq1, sq2, sq3, sq4]
           rfl
          (refine pL (N := some _) rfl rfl (by kernel_rfl) (fun _ _ _ h => h) (by rfl) (v := ?_) (a' := ?_) ?_ ?_ ?_; rotate_left; (intro w'; go_simp; with_reducible rfl); rotate_left; (simp only [Act.put, sq0, sq1, sq2, sq3, sq4]; rfl))
          refine dL (by kernel_rfl) ?_
          try go_wp2
          go_ret
          exact ⟨by first | rfl | (simp [errW_none, errW_some] <;> rfl) | (simp [*, errW_none, errW_some] <;> rfl) | (simp [Int.tdiv_eq_ediv_of_nonneg]; done), by repeat (with_reducible first | exact HB.out | apply ba_ | apply bn_ | apply b1_ | refine bs_ ?_ GE222.out | refine bs_ ?_ GE223.out | refine bs_ ?_ GE236.out)⟩
         replace c135 := Bool.eq_false_iff.mpr c135
         subst c135
         have H1 : (atticref19_Check.l1 k4 (wrap64 (x11_4 + 1)) l0_0 l0_1 a2_0 a2_1 l2_2 l2_3 a2_4 a2_5 a2_6) = some r := by rw [if_neg (show ¬ (false = true) by decide)] at H; exact H
         clear H
         have H := H1
         clear H1
         have H' := ak H
         clear H
         have hnb142 := NB223_222.out
         have hnc142 := NB222_223.out
         have hnb143 := NB223_236.out
         have hnc143 := NB236_223.out
         obtain ⟨z144_0, z144_1, z144_2, z144_3, z144_4, z144_5, z144_6, f144_0, f144_1, f144_2, f144_3, f144_4, f144_5, f144_6⟩ := kk7 BK223.out
         try go_wp2
         have n0_ := ak (Kd.R_drew HO_237002.out)
         have n1_ := ak (Kd.R_drew HO_237003.out)
         have n2_ := ak (blk_drew BK222.out)
         have n3_ := ak (blk_drew BK223.out)
         have n4_ := ak (blk_drew BK236.out)
         have n5_ := ak (below_drew1 HB.out)
         clear HO_237002 HO_237003 BK222 BK223 BK236 HB
         have HO_237002 := n0_
         have HO_237003 := n1_
         have BK222 := n2_
         have BK223 := n3_
         have BK236 := n4_
         have HB := n5_
         clear n0_ n1_ n2_ n3_ n4_ n5_
         have p239 : 0 ≤ (x11_4 : Int) := of_decide_eq_true (by first | (with_reducible assumption) | assumption)
         have q239 : x11_4 < (l2_3.length : Int) := of_decide_eq_true (by first | (with_reducible assumption) | assumption)
         obtain ⟨ad239, e239, hx239_0⟩ := Kd.at_int HR2_3.out x11_4 p239 q239
         have hw239_0 := hx239_0
         cases e239
         replace hx239_0 := (HB.out.cell (World.block_lt_of_cell? w _ hx239_0)).trans hx239_0
         replace p239 := eq_true p239
         replace q239 := eq_true q239
         have p241 : 0 ≤ (x11_4 : Int) := of_decide_eq_true (by first | (with_reducible assumption) | assumption)
         have q241 : x11_4 < (l2_3.length : Int) := of_decide_eq_true (by first | (with_reducible assumption) | assumption)
         obtain ⟨ad241, e241, hx241_0⟩ := Kd.at_int HR2_3.out x11_4 p241 q241
         have hw241_0 := hx241_0
         obtain rfl : ad239 = ad241 := (by injection e241)
         replace hx241_0 := (HB.out.cell (World.block_lt_of_cell? w _ hx241_0)).trans hx241_0
         replace p241 := eq_true p241
         replace q241 := eq_true q241
         have p242 : 0 ≤ ((rd l2_3 x11_4) : Int) := of_decide_eq_true (by first | (with_reducible assumption) | assumption)
         have q242 : (rd l2_3 x11_4) < (l2_2.length : Int) := of_decide_eq_true (by first | (with_reducible assumption) | assumption)
         obtain ⟨ad242, e242, hx242_0⟩ := Kd.at_bool HR2_2.out (rd l2_3 x11_4) p242 q242
         (try rw [← Nbq130.out] at hx242_0)
         have hw242_0 := hx242_0
         cases e242
         replace hx242_0 := (HB.out.cell (World.block_lt_of_cell? w _ hx242_0)).trans hx242_0
         replace p242 := eq_true p242
         replace q242 := eq_true q242
         have p244 : 0 ≤ (x11_4 : Int) := of_decide_eq_true (by first | (with_reducible assumption) | assumption)
         have q244 : x11_4 < (l2_3.length : Int) := of_decide_eq_true (by first | (with_reducible assumption) | assumption)
         obtain ⟨ad244, e244, hx244_0⟩ := Kd.at_int HR2_3.out x11_4 p244 q244
         have hw244_0 := hx244_0
         obtain rfl : ad239 = ad244 := (by injection e244)
         replace hx244_0 := (HB.out.cell (World.block_lt_of_cell? w _ hx244_0)).trans hx244_0
         replace p244 := eq_true p244
         replace q244 := eq_true q244
         as_aux_lemma =>
         refine sL (n := 32) (S := fun w' => w'.cell? ⟨gb222, 0, none⟩ = some (.slice A0_0 l0_0.length c0_0) ∧ w'.cell? ⟨gb222, 1, none⟩ = some (.slice A0_1 l0_1.length c0_1) ∧ w'.cell? ⟨gb223, 0, none⟩ = some (.int .i64 a2_0) ∧ w'.cell? ⟨gb223, 1, none⟩ = some (.int .i64 a2_1) ∧ w'.cell? ⟨gb223, 2, none⟩ = some (.slice (some ad242) l2_2.length c2_2) ∧ w'.cell? ⟨gb223, 3, none⟩ = some (.slice (some ad239) l2_3.length c2_3) ∧ w'.cell? ⟨gb223, 4, none⟩ = some (.bool a2_4) ∧ w'.cell? ⟨gb223, 5, none⟩ = some (.bool a2_5) ∧ w'.cell? ⟨gb223, 6, none⟩ = some (.bool a2_6) ∧ w'.cell? (ad239.add (x11_4).toNat) = some (.int .i64 (rd l2_3 x11_4)) ∧ w'.cell? (ad239.add (x11_4).toNat) = some (.int .i64 (rd l2_3 x11_4)) ∧ w'.cell? (ad242.add ((rd l2_3 x11_4)).toNat) = some (.bool true) ∧ w'.cell? (ad239.add (x11_4).toNat) = some (.int .i64 (rd l2_3 x11_4))) (ds := []) (by kernel_rfl) rfl ⟨(blk_cell BK222.out 0).trans rfl, (blk_cell BK222.out 1).trans rfl, (blk_cell BK223.out 0).trans rfl, (blk_cell BK223.out 1).trans rfl, (blk_cell BK223.out 2).trans rfl, (blk_cell BK223.out 3).trans rfl, (blk_cell BK223.out 4).trans rfl, (blk_cell BK223.out 5).trans rfl, (blk_cell BK223.out 6).trans rfl, ((HB.out.cell (World.block_lt_of_cell? w _ hw239_0)).trans hw239_0), ((HB.out.cell (World.block_lt_of_cell? w _ hw241_0)).trans hw241_0), ((HB.out.cell (World.block_lt_of_cell? w _ hw242_0)).trans hw242_0), ((HB.out.cell (World.block_lt_of_cell? w _ hw244_0)).trans hw244_0)⟩ (fun hHeld => ?_)
         generalize wr.drew = w145 at HO_237002 HO_237003 BK222 BK223 BK236 HB hx239_0 hx241_0 hx242_0 hx244_0 hHeld ⊢
         (refine tL (N := some _) rfl rfl (by kernel_rfl) (fun _ _ _ h => h) hHeld (by rfl) (v := ?_) (a' := ?_) ?_ ?_ ?_; rotate_left; (rintro w' ⟨s0, s1, s2, s3, s4, s5, s6, s7, s8, s9, s10, s11, s12⟩; go_simp; with_reducible rfl); rotate_left; (simp only [Act.put, sq0, sq1, sq2, sq3, sq4]; rfl))
         (refine pL (N := some _) rfl rfl (by kernel_rfl) (fun _ _ _ h => h) (by rfl) (v := ?_) (a' := ?_) ?_ ?_ ?_; rotate_left; (intro w'; go_simp; with_reducible rfl); rotate_left; (simp only [Act.put, sq0, sq1, sq2, sq3, sq4]; rfl))
         (refine tL (N := some _) rfl rfl (by kernel_rfl) (fun _ _ _ h => h) hHeld (by rfl) (v := ?_) (a' := ?_) ?_ ?_ ?_; rotate_left; (rintro w' ⟨s0, s1, s2, s3, s4, s5, s6, s7, s8, s9, s10, s11, s12⟩; go_simp; with_reducible rfl); rotate_left; (simp only [Act.put, sq0, sq1, sq2, sq3, sq4]; rfl))
         iterate 2 (refine pL (N := some _) rfl rfl (by kernel_rfl) (fun _ _ _ h => h) (by rfl) (v := ?_) (a' := ?_) ?_ ?_ ?_; rotate_left; (intro w'; go_simp; with_reducible rfl); rotate_left; (simp only [Act.put, sq0, sq1, sq2, sq3, sq4]; rfl))
         (refine tL (N := some _) rfl rfl (by kernel_rfl) (fun _ _ _ h => h) hHeld (by rfl) (v := ?_) (a' := ?_) ?_ ?_ ?_; rotate_left; (rintro w' ⟨s0, s1, s2, s3, s4, s5, s6, s7, s8, s9, s10, s11, s12⟩; go_simp; with_reducible rfl); rotate_left; (simp only [Act.put, sq0, sq1, sq2, sq3, sq4]; rfl))
         refine nL (N := some 133) rfl rfl (by kernel_rfl) (by decide) (fun K hK => ?_)
         refine goes_ Try.func42 (by kernel_rfl) rfl #[.agg #[.slice A0_0 l0_0.length c0_0, .slice A0_1 l0_1.length c0_1], .int .i64 (rd l2_3 x11_4)] (by rfl) rfl rfl (by (try simp only [List.map_toArray, List.map_cons, List.map_nil]); first | done | rfl | (simp only [List.length_drop, List.length_take]; rfl)) ?_
         with_reducible refine (atticref19_cell.calls _ _ l0_0 _ _ l0_1 (rd l2_3 x11_4) true _ ?side1 ?side2 ?side3 ?side4 A126.out).mono ?_
         (case side1 => repeat (first | exact (Kd.C_below HR0_0.out HB.out) | (with_reducible first | refine ca_ ?_ _ | refine cn_ ?_ _ | refine cd_ ?_)))
         (case side2 => exact HC0_0.out)
         (case side3 => repeat (first | exact (Kd.C_below HR0_1.out HB.out) | (with_reducible first | refine ca_ ?_ _ | refine cn_ ?_ _ | refine cd_ ?_)))
         (case side4 => exact HC0_1.out)
         rintro e w146 ⟨rfl, hb⟩
         refine ⟨_, rfl, ?_⟩
         have n0_ := ak (Kd.R_below (by (with_reducible repeat (first | apply Kd.R_alloc | apply Kd.R_drewN | apply Kd.R_drew)); exact HO_237002.out) hb)
         have n1_ := ak (Kd.R_below (by (with_reducible repeat (first | apply Kd.R_alloc | apply Kd.R_drewN | apply Kd.R_drew)); exact HO_237003.out) hb)
         have n2_ := ak (blk_below (by (with_reducible repeat first | apply kn_ | apply kd_ | apply ka_); exact BK222.out) hb)
         have n3_ := ak (blk_below (by (with_reducible repeat first | apply kn_ | apply kd_ | apply ka_); exact BK223.out) hb)
         have n4_ := ak (blk_below (by (with_reducible repeat first | apply kn_ | apply kd_ | apply ka_); exact BK236.out) hb)
         have n5_ := ak (below_step (by repeat (with_reducible first | exact HB.out | apply ba_ | apply bn_ | apply b1_ | refine bs_ ?_ GE222.out | refine bs_ ?_ GE223.out | refine bs_ ?_ GE236.out)) hb)
         clear HO_237002 HO_237003 BK222 BK223 BK236 HB
         have HO_237002 := n0_
         have HO_237003 := n1_
         have BK222 := n2_
         have BK223 := n3_
         have BK236 := n4_
         have HB := n5_
         clear n0_ n1_ n2_ n3_ n4_ n5_
         (try clear hb)
         (try clear hb2)
         (try clear hk)
         (try clear hi)
         obtain ⟨i0147, hi0147, _, hsz147, _⟩ := info_parts info3
         obtain ⟨hcut147, hA147, hC147⟩ := print_take_of (P := Try.prog) (Value.int .i64) 0 23 3 .i64 Try.underlying23 hi0147 hsz147 (some ad239) c2_3 l2_3 x11_4 (of_decide_eq_true (by first | (with_reducible assumption) | assumption)) (of_decide_eq_true (by first | (with_reducible assumption) | assumption)) HC2_3.out
         have HR243 := ak (Kd.C_of_reads (h1 := fun _ => rfl) (hA147 _ (Kd.reads_of_C HR2_3.out)))
         have HC243 := ak hC147
         clear hA147 hC147 hi0147 hsz147
         refine hK.out _ _ ⟨(blk_cell BK222.out 0).trans rfl, (blk_cell BK222.out 1).trans rfl, (blk_cell BK223.out 0).trans rfl, (blk_cell BK223.out 1).trans rfl, (blk_cell BK223.out 2).trans rfl, (blk_cell BK223.out 3).trans rfl, (blk_cell BK223.out 4).trans rfl, (blk_cell BK223.out 5).trans rfl, (blk_cell BK223.out 6).trans rfl, ((HB.out.cell (World.block_lt_of_cell? w _ hw239_0)).trans hw239_0), ((HB.out.cell (World.block_lt_of_cell? w _ hw241_0)).trans hw241_0), ((HB.out.cell (World.block_lt_of_cell? w _ hw242_0)).trans hw242_0), ((HB.out.cell (World.block_lt_of_cell? w _ hw244_0)).trans hw244_0)⟩ (fun hHeld => ?_)
         clear hK K
         refine norm_ (a' := ?_) ?_ ?_
         rotate_left
         ·show Act.put _ (some 133) _ = _
          simp only [Act.put, sq0, sq1, sq2, sq3, sq4]
          rfl
         iterate 3 (refine pL (N := some _) rfl rfl (by kernel_rfl) (fun _ _ _ h => h) (by rfl) (v := ?_) (a' := ?_) ?_ ?_ ?_; rotate_left; (intro w'; go_simp; with_reducible rfl); rotate_left; (simp only [Act.put, sq0, sq1, sq2, sq3, sq4]; rfl))
         (refine tL (N := some _) rfl rfl (by kernel_rfl) (fun _ _ _ h => h) hHeld (by rfl) (v := ?_) (a' := ?_) ?_ ?_ ?_; rotate_left; (rintro w' ⟨s0, s1, s2, s3, s4, s5, s6, s7, s8, s9, s10, s11, s12⟩; go_simp; with_reducible rfl); rotate_left; (simp only [Act.put, sq0, sq1, sq2, sq3, sq4]; rfl))
         (refine pL (N := some _) rfl rfl (by kernel_rfl) (fun _ _ _ h => h) (by rfl) (v := ?_) (a' := ?_) ?_ ?_ ?_; rotate_left; (intro w'; go_simp; with_reducible rfl); rotate_left; (simp only [Act.put, sq0, sq1, sq2, sq3, sq4]; rfl))
         (refine tL (N := some _) rfl rfl (by kernel_rfl) (fun _ _ _ h => h) hHeld (by rfl) (v := ?_) (a' := ?_) ?_ ?_ ?_; rotate_left; (rintro w' ⟨s0, s1, s2, s3, s4, s5, s6, s7, s8, s9, s10, s11, s12⟩; go_simp; with_reducible rfl); rotate_left; (simp only [Act.put, sq0, sq1, sq2, sq3, sq4]; rfl))
         iterate 2 (refine pL (N := some _) rfl rfl (by kernel_rfl) (fun _ _ _ h => h) (by rfl) (v := ?_) (a' := ?_) ?_ ?_ ?_; rotate_left; (intro w'; go_simp; with_reducible rfl); rotate_left; (simp only [Act.put, sq0, sq1, sq2, sq3, sq4]; rfl))
         (refine tL (N := some _) rfl rfl (by kernel_rfl) (fun _ _ _ h => h) hHeld (by rfl) (v := ?_) (a' := ?_) ?_ ?_ ?_; rotate_left; (rintro w' ⟨s0, s1, s2, s3, s4, s5, s6, s7, s8, s9, s10, s11, s12⟩; go_simp; with_reducible rfl); rotate_left; (simp only [Act.put, sq0, sq1, sq2, sq3, sq4]; rfl))
         (refine pL (N := some _) rfl rfl (by kernel_rfl) (fun _ _ _ h => h) (by rfl) (v := ?_) (a' := ?_) ?_ ?_ ?_; rotate_left; (intro w'; go_simp; with_reducible rfl); rotate_left; (simp only [Act.put, sq0, sq1, sq2, sq3, sq4]; rfl))
         (refine tL (N := some _) rfl rfl (by kernel_rfl) (fun _ _ _ h => h) hHeld (by rfl) (v := ?_) (a' := ?_) ?_ ?_ ?_; rotate_left; (rintro w' ⟨s0, s1, s2, s3, s4, s5, s6, s7, s8, s9, s10, s11, s12⟩; go_simp; with_reducible rfl); rotate_left; (simp only [Act.put, sq0, sq1, sq2, sq3, sq4]; rfl))
         iterate 4 (refine pL (N := some _) rfl rfl (by kernel_rfl) (fun _ _ _ h => h) (by rfl) (v := ?_) (a' := ?_) ?_ ?_ ?_; rotate_left; (intro w'; go_simp; with_reducible rfl); rotate_left; (simp only [Act.put, sq0, sq1, sq2, sq3, sq4]; rfl))
         (refine tL (N := some _) rfl rfl (by kernel_rfl) (fun _ _ _ h => h) hHeld (by rfl) (v := ?_) (a' := ?_) ?_ ?_ ?_; rotate_left; (rintro w' ⟨s0, s1, s2, s3, s4, s5, s6, s7, s8, s9, s10, s11, s12⟩; go_simp; with_reducible rfl); rotate_left; (simp only [Act.put, sq0, sq1, sq2, sq3, sq4]; rfl))
         iterate 3 (refine pL (N := some _) rfl rfl (by kernel_rfl) (fun _ _ _ h => h) (by rfl) (v := ?_) (a' := ?_) ?_ ?_ ?_; rotate_left; (intro w'; go_simp; with_reducible rfl); rotate_left; (simp only [Act.put, sq0, sq1, sq2, sq3, sq4]; rfl))
         (refine tL (N := some _) rfl rfl (by kernel_rfl) (fun _ _ _ h => h) hHeld (by rfl) (v := ?_) (a' := ?_) ?_ ?_ ?_; rotate_left; (rintro w' ⟨s0, s1, s2, s3, s4, s5, s6, s7, s8, s9, s10, s11, s12⟩; go_simp; with_reducible rfl); rotate_left; (simp only [Act.put, sq0, sq1, sq2, sq3, sq4]; rfl))
         iterate 2 (refine pL (N := some _) rfl rfl (by kernel_rfl) (fun _ _ _ h => h) (by rfl) (v := ?_) (a' := ?_) ?_ ?_ ?_; rotate_left; (intro w'; go_simp; with_reducible rfl); rotate_left; (simp only [Act.put, sq0, sq1, sq2, sq3, sq4]; rfl))
         (refine tL (N := some _) rfl rfl (by kernel_rfl) (fun _ _ _ h => h) hHeld (by rfl) (v := ?_) (a' := ?_) ?_ ?_ ?_; rotate_left; (rintro w' ⟨s0, s1, s2, s3, s4, s5, s6, s7, s8, s9, s10, s11, s12⟩; go_simp; with_reducible rfl); rotate_left; (simp only [Act.put, sq0, sq1, sq2, sq3, sq4]; rfl))
         refine nL (N := some 157) rfl rfl (by kernel_rfl) (by decide) (fun K hK => ?_)
         refine goes_ Try.func44 (by kernel_rfl) rfl #[.slice (some ad239) (l2_3.take (x11_4 : Int).toNat).length c2_3, .int .i64 (rd l2_3 x11_4)] (by rfl) rfl rfl (by (try simp only [List.map_toArray, List.map_cons, List.map_nil]); first | done | (rw [show (l2_3.take (x11_4 : Int).toNat).length = x11_4.toNat from (by rw [List.length_take]; have h_ : (x11_4 : Int) ≤ (l2_3.length : Int) := of_decide_eq_true (by first | (with_reducible assumption) | assumption); omega)] <;> rfl) | rfl | (simp only [List.length_drop, List.length_take]; rfl)) ?_
         with_reducible refine (atticref19_has.calls k4 _ _ (l2_3.take (x11_4 : Int).toNat) (rd l2_3 x11_4) false _ ?side1 ?side2 A134.out).mono ?_
         (case side1 => repeat (first | exact (Kd.C_below HR243.out HB.out) | (with_reducible first | refine ca_ ?_ _ | refine cn_ ?_ _ | refine cd_ ?_)))
         (case side2 => exact HC243.out)
         rintro e w' ⟨rfl, ⟨nd, rfl⟩⟩
         refine ⟨_, rfl, ?_⟩
         refine hK.out _ _ ⟨(blk_cell BK222.out 0).trans rfl, (blk_cell BK222.out 1).trans rfl, (blk_cell BK223.out 0).trans rfl, (blk_cell BK223.out 1).trans rfl, (blk_cell BK223.out 2).trans rfl, (blk_cell BK223.out 3).trans rfl, (blk_cell BK223.out 4).trans rfl, (blk_cell BK223.out 5).trans rfl, (blk_cell BK223.out 6).trans rfl, ((HB.out.cell (World.block_lt_of_cell? w _ hw239_0)).trans hw239_0), ((HB.out.cell (World.block_lt_of_cell? w _ hw241_0)).trans hw241_0), ((HB.out.cell (World.block_lt_of_cell? w _ hw242_0)).trans hw242_0), ((HB.out.cell (World.block_lt_of_cell? w _ hw244_0)).trans hw244_0)⟩ (fun hHeld => ?_)
         clear hK K
         refine norm_ (a' := ?_) ?_ ?_
         rotate_left
         ·show Act.put _ (some 157) _ = _
          simp only [Act.put, sq0, sq1, sq2, sq3, sq4]
          rfl
         (refine pL (N := some _) rfl rfl (by kernel_rfl) (fun _ _ _ h => h) (by rfl) (v := ?_) (a' := ?_) ?_ ?_ ?_; rotate_left; (intro w'; go_simp; with_reducible rfl); rotate_left; (simp only [Act.put, sq0, sq1, sq2, sq3, sq4]; rfl))
         refine dL (by kernel_rfl) ?_
         try go_wp2
         go_roundg k4
         case measure => have := HJ5.out; have := HJ42.out; have := HK3.out; have := HK4.out; omega
         case rel => exact ⟨(wrap64 (x11_4 + 1)), (by first | rfl | (simp; done) | (simp [*]; done) | (simp [Int.tdiv_eq_ediv_of_nonneg]; done)), H', ⟨by have := HJ5.out; have := HJ42.out; have := HK3.out; have := HK4.out; omega⟩, ⟨by (with_reducible repeat (first | apply Kd.R_alloc | apply Kd.R_drewN | apply Kd.R_drew)); exact HO_237002.out⟩, ⟨by (with_reducible repeat (first | apply Kd.R_alloc | apply Kd.R_drewN | apply Kd.R_drew)); exact HO_237003.out⟩, ⟨by (with_reducible repeat first | apply kn_ | apply kd_ | apply ka_); exact BK222.out⟩, ⟨by (with_reducible repeat first | apply kn_ | apply kd_ | apply ka_); exact BK223.out⟩, ⟨by (with_reducible repeat first | apply kn_ | apply kd_ | apply ka_); exact BK236.out⟩, ⟨by repeat (with_reducible first | exact HB.out | apply ba_ | apply bn_ | apply b1_ | refine bs_ ?_ GE222.out | refine bs_ ?_ GE223.out | refine bs_ ?_ GE236.out)⟩⟩
end Go.Proofs.Ytnmpmjbkelogaaa.Print
