-- Written by a program of this session (wip/xprint.py, by way of the print): Lean functions and proofs that the Go functions come to them.
import Derived.Test.YtnmpmjbkelogaaaPrint0
import Derived.Test.YtnmpmjbkelogaaaPrint1
import Derived.Test.YtnmpmjbkelogaaaPrint2
import Derived.Test.YtnmpmjbkelogaaaPrint3
namespace Go.Proofs.Ytnmpmjbkelogaaa.Print
open Go.RowKit Go.Proofs.YtnmpmjbkelogaaaW.PrintWords Go.Proofs.YtnmpmjbkelogaaaW.PrintLast Go.Proofs.YtnmpmjbkelogaaaW.PrintMore
attribute [local go_sem] max2_int min2_int max_two min_two max_three min_three max_four min_four   -- for this text's walks alone
set_option linter.unusedVariables false
set_option linter.unusedSimpArgs false
/-! ### mark_Step: function 26 -/
def mark_Step.f (k : Nat) (lc : List S56) (lr : List Int) (room ph at_ : Int) (m : List Bool) (st : List Int) (ov ag sc : Bool) : Option (Int × Int × List Bool × List Int × Bool × Bool × Bool × Bool) :=
 if m.length * 1 ≤ 140737488355328 ∧ st.length * 8 ≤ 140737488355328 then
  (mark_Check.f k lc lr room ph at_ m st ov ag sc).bind fun e =>
   if e = 0 then (MS.unit (fun m j => mark_counts.f k lc lr m j) (fun m => pairedL lc m) lc.length lr room ⟨ph, at_, m, st, ov, ag, sc⟩).bind fun x => some (x.tup (x.ph == 3))
   else some (MS.tup ⟨ph, at_, m, st, ov, ag, sc⟩ true)
 else none
theorem mark_Step.mono : ∀ a0 a1 a2 a3 a4 a5 a6 a7 a8 a9 k, LeO (mark_Step.f k a0 a1 a2 a3 a4 a5 a6 a7 a8 a9) (mark_Step.f (k + 1) a0 a1 a2 a3 a4 a5 a6 a7 a8 a9) :=
 fun a0 a1 a2 a3 a4 a5 a6 a7 a8 a9 k => LeO.ite (LeO.bind (mark_Check.mono _ _ _ _ _ _ _ _ _ _ k) (fun _ => LeO.ite (LeO.bind (MS.unit_mono (fun _ _ => mark_counts.mono _ _ _ _ k) _ _ _ _) (fun _ => LeO.refl _)) (LeO.refl _))) (LeO.refl _)
set_option maxHeartbeats 8000000 in
set_option maxRecDepth 100000 in
theorem mark_Step.calls (k : Nat) (A0 : Option Addr) (c0 : Nat) (lc : List S56) (A1 : Option Addr) (c1 : Nat) (lr : List Int) (room ph at_ : Int) (A2 : Option Addr) (c2 : Nat) (m : List Bool) (A3 : Option Addr) (c3 : Nat) (st : List Int) (ov ag sc : Bool) (r1 r2 : Int) (r3 : List Bool) (r4 : List Int) (r5 r6 r7 : Bool) (r8 : Bool) (w : World)
  (hr0 : Kd.C k56 w A0 lc.length lc) (hc0 : lc.length ≤ c0) (hr1 : Kd.C (Kd.int .i64) w A1 lr.length lr) (hc1 : lr.length ≤ c1) (hr2 : Kd.C Kd.bool w A2 m.length m) (hc2 : m.length ≤ c2) (hr3 : Kd.C (Kd.int .i64) w A3 st.length st) (hc3 : st.length ≤ c3)
  (h : mark_Step.f k lc lr room ph at_ m st ov ag sc = some (r1, r2, r3, r4, r5, r6, r7, r8)) :
  Calls Try.prog 26 #[.agg #[.slice A0 lc.length c0, .slice A1 lr.length c1], .int .i64 room, .agg #[.int .i64 ph, .int .i64 at_, .slice A2 m.length c2, .slice A3 st.length c3, .bool ov, .bool ag, .bool sc]] w fun e w' => ∃ v2_ v3_ : Value, e = .returned (.tuple #[.agg #[.int .i64 r1, .int .i64 r2, v2_, v3_, .bool r5, .bool r6, .bool r7], .bool r8]) ∧ Kd.R Kd.bool 4 w' w.heap.size (fun _ => True) v2_ r3 ∧ Kd.R (Kd.int .i64) 3 w' w.heap.size (fun _ => True) v3_ r4 ∧ Below w.heap.size w w' := by
 have hu25 := Try.underlying25
 have hu28 := Try.underlying28
 have hu63 := Try.underlying63
 unfold mark_Step.f at h
 by_cases hbd : m.length * 1 ≤ 140737488355328 ∧ st.length * 8 ≤ 140737488355328
 case neg => rw [if_neg hbd] at h; cases h
 rw [if_pos hbd] at h
 obtain ⟨e0, he0, h⟩ := Option.bind_eq_some_iff.1 h
 have HBG := ak (fun wd (hd : Below w.heap.size w wd) => wk_begun k A0 c0 lc A1 c1 lr room ph at_ A2 c2 m A3 c3 st ov ag sc e0 wd (Kd.C_below hr0 hd) hc0 (Kd.C_below hr1 hd) hc1 (Kd.C_below hr2 hd) hc2 (Kd.C_below hr3 hd) hc3 hbd.1 hbd.2 he0)
 have HR0 := ak hr0
 have HR1 := ak hr1
 have HC0 := ak hc0
 have HC1 := ak hc1
 have HH := ak h
 clear hr0 hr1 hr2 hr3 hc0 hc1 hc2 hc3 hbd he0 h
 by_cases hz : e0 = 0
 ·have hh := HH.out
  rw [if_pos hz] at hh
  obtain ⟨x', hu, hh⟩ := Option.bind_eq_some_iff.1 hh
  have hh := Option.some.inj hh
  unfold MS.tup at hh
  simp only [Prod.mk.injEq] at hh
  obtain ⟨rfl, rfl, rfl, rfl, rfl, rfl, rfl, rfl⟩ := hh
  subst hz
  have HU := ak hu
  clear hu HH
  go_enter Try.func26, Try.ntmps26
  go_wp2_with (first | ((with_reducible refine gate_dst (N := 3) rfl ?_); refine box_event ?hg (N := 3) ?hd (cs := #[.slice A0 lc.length c0, .slice A1 lr.length c1]) (t := 25) ?hr ?_; (case hd => rfl); (case hg => rfl); (case hr => first | (go_simp; done) | (go_simp; rfl)); intro gb hg w1 hb1 hx1; have HB1 := ak hx1; have BK := ak hb1; clear hg hb1 hx1; have q0 : w1.cell? ⟨gb, 0, none⟩ = some (.slice A0 lc.length c0) := (blk_cell BK.out 0).trans rfl; have q1 : w1.cell? ⟨gb, 1, none⟩ = some (.slice A1 lr.length c1) := (blk_cell BK.out 1).trans rfl) | ((with_reducible refine gate_dst (N := 5) rfl ?_); refine box_event ?hg (N := 5) ?hd (cs := #[.int .i64 ph, .int .i64 at_, .slice A2 m.length c2, .slice A3 st.length c3, .bool ov, .bool ag, .bool sc]) (t := 28) ?hr ?_; (case hd => rfl); (case hg => rfl); (case hr => first | (go_simp; done) | (go_simp; rfl)); intro gs hg w2 hb2 hx2; have HB2 := ak (HB1.out.trans (hx2.mono HB1.out.size)); have BK2 := ak (blk_below BK.out hx2); have BS2 := ak hb2; clear hg hb2 hx2 q0 q1) | ((with_reducible refine gate_dst (N := 6) rfl ?_); refine box_event ?hg (N := 6) ?hd (cs := #[.int .i64 0, .int .i64 0, .slice none 0 0, .slice none 0 0, .bool false, .bool false, .bool false]) (t := 28) ?hr ?_; (case hd => rfl); (case hg => rfl); (case hr => first | (go_simp; done) | (go_simp; rfl)); intro gr hg w3 hb3 hx3; have HB3 := ak (HB2.out.trans (hx3.mono HB2.out.size)); have BK3 := ak (blk_below BK2.out hx3); have BS3 := ak (blk_below BS2.out hx3); have BR3 := ak hb3; have GR := ak (show w.heap.size ≤ gr from by rw [hg]; exact HB2.out.size); clear hg hb3 hx3 HB1 BK HB2 BK2 BS2; have q0 : w3.cell? ⟨gb, 0, none⟩ = some (.slice A0 lc.length c0) := (blk_cell BK3.out 0).trans rfl; have q1 : w3.cell? ⟨gb, 1, none⟩ = some (.slice A1 lr.length c1) := (blk_cell BK3.out 1).trans rfl; have s0 : w3.cell? ⟨gs, 0, none⟩ = some (.int .i64 ph) := (blk_cell BS3.out 0).trans rfl; have s1 : w3.cell? ⟨gs, 1, none⟩ = some (.int .i64 at_) := (blk_cell BS3.out 1).trans rfl; have s2 : w3.cell? ⟨gs, 2, none⟩ = some (.slice A2 m.length c2) := (blk_cell BS3.out 2).trans rfl; have s3 : w3.cell? ⟨gs, 3, none⟩ = some (.slice A3 st.length c3) := (blk_cell BS3.out 3).trans rfl; have s4 : w3.cell? ⟨gs, 4, none⟩ = some (.bool ov) := (blk_cell BS3.out 4).trans rfl; have s5 : w3.cell? ⟨gs, 5, none⟩ = some (.bool ag) := (blk_cell BS3.out 5).trans rfl; have s6 : w3.cell? ⟨gs, 6, none⟩ = some (.bool sc) := (blk_cell BS3.out 6).trans rfl) | (go_at_call 36; (with_reducible refine (HBG.out _ HB3.out).mono ?_); rintro e w4 ⟨g, vm, vs, rfl, hw4, hb4⟩; have HB4 := ak (HB3.out.trans (hb4.mono HB3.out.size)); have HV := ak hb4; have BR4 := ak (blk_below BR3.out hb4); have HW4 := ak hw4; have GL := ak (blk_lt BR3.out); clear q0 q1 s0 s1 s2 s3 s4 s5 s6 hw4 hb4) | (go_at_call 37; (with_reducible refine (wk_unit k w3 A0 c0 lc A1 c1 lr room (fun k => k < w3.heap.size) w4 w3.heap.size g vm vs _ _ (Kd.C_below HR0.out HB3.out) HC0.out (Kd.C_below HR1.out HB3.out) HC1.out HV.out (fun _ hk => hk) HW4.out (fun _ hk => Nat.lt_of_lt_of_le hk HV.out.size) HV.out.size HU.out).mono ?_); rintro e w5 ⟨⟨v, rfl⟩, vm5, vs5, hw5, hk5⟩; have hv5 := hk5.below (fun _ hk => hk) HV.out.size; have HV5 := ak (HV.out.trans hv5); have HB5 := ak (HB3.out.trans (HV5.out.mono HB3.out.size)); have BR5 := ak (blk_below BR3.out HV5.out); have HW5 := ak hw5; clear hw5 hk5 hv5))
  obtain ⟨Am, cm, rfl⟩ := Kd.R_slice HW5.out.m
  obtain ⟨As, cs, rfl⟩ := Kd.R_slice HW5.out.s
  refine start_ (n := 16) (S := fun w' => w'.cell? ⟨g, 3, none⟩ = some (.int .i64 x'.ph) ∧ w'.cell? ⟨g, 4, none⟩ = some (.int .i64 x'.at_) ∧ w'.cell? ⟨g, 5, none⟩ = some (.slice Am x'.marks.length cm) ∧ w'.cell? ⟨g, 6, none⟩ = some (.slice As x'.stack.length cs) ∧ w'.cell? ⟨g, 7, none⟩ = some (.bool x'.over) ∧ w'.cell? ⟨g, 8, none⟩ = some (.bool x'.again) ∧ w'.cell? ⟨g, 9, none⟩ = some (.bool x'.scan)) (ds := []) #[false, false, false, false, false, false, false, false, false, false, false, false, false, false, false, false] (by kernel_rfl) rfl rfl ⟨(blk_cell HW5.out.blk 3).trans rfl, (blk_cell HW5.out.blk 4).trans rfl, (blk_cell HW5.out.blk 5).trans rfl, (blk_cell HW5.out.blk 6).trans rfl, (blk_cell HW5.out.blk 7).trans rfl, (blk_cell HW5.out.blk 8).trans rfl, (blk_cell HW5.out.blk 9).trans rfl⟩ (fun hHeld => ?_)
  have HW8 := ak HW5.out.drew
  have BR8 := ak (blk_drew BR5.out)
  have HB8 := ak (below_drew HB5.out)
  generalize w5.drew = w8 at hHeld HW8 BR8 HB8 ⊢
  refine pure_ (i := 0) (N := some 20) (v := ?_) (a' := ?_) #[true, false, false, false, false, false, false, false, false, false, false, false, false, false, false, false] rfl rfl (by kernel_rfl) (fun _ _ _ h => h) (Or.inl ⟨by rfl, ?_⟩) ?_ ?_; rotate_left; (intro w'; go_simp; with_reducible rfl); rotate_left; (simp only [Act.put, sq0, sq1, sq2, sq3, sq4]; rfl)
  refine pure_ (i := 1) (N := some 21) (v := ?_) (a' := ?_) #[true, true, false, false, false, false, false, false, false, false, false, false, false, false, false, false] rfl rfl (by kernel_rfl) (fun _ _ _ h => h) (Or.inl ⟨by rfl, ?_⟩) ?_ ?_; rotate_left; (intro w'; go_simp; with_reducible rfl); rotate_left; (simp only [Act.put, sq0, sq1, sq2, sq3, sq4]; rfl)
  refine pure_ (i := 2) (N := some 22) (v := ?_) (a' := ?_) #[true, true, true, false, false, false, false, false, false, false, false, false, false, false, false, false] rfl rfl (by kernel_rfl) (fun _ _ _ h => h) (Or.inl ⟨by rfl, ?_⟩) ?_ ?_; rotate_left; (intro w'; go_simp; with_reducible rfl); rotate_left; (simp only [Act.put, sq0, sq1, sq2, sq3, sq4]; rfl)
  refine take_ (i := 3) (N := some 23) (v := ?_) (a' := ?_) #[true, true, true, true, false, false, false, false, false, false, false, false, false, false, false, false] rfl rfl (by kernel_rfl) (fun _ _ _ h => h) (Or.inl ⟨by rfl, ?_⟩) hHeld ?_ ?_; rotate_left; (rintro w' ⟨z0, z1, z2, z3, z4, z5, z6⟩; go_simp; with_reducible rfl); rotate_left; (simp only [Act.put, sq0, sq1, sq2, sq3, sq4]; rfl)
  refine pure_ (i := 4) (N := some 24) (v := ?_) (a' := ?_) #[true, true, true, true, true, false, false, false, false, false, false, false, false, false, false, false] rfl rfl (by kernel_rfl) (fun _ _ _ h => h) (Or.inl ⟨by rfl, ?_⟩) ?_ ?_; rotate_left; (intro w'; go_simp; with_reducible rfl); rotate_left; (simp only [Act.put, sq0, sq1, sq2, sq3, sq4]; rfl)
  refine pure_ (i := 5) (N := some 25) (v := ?_) (a' := ?_) #[true, true, true, true, true, true, false, false, false, false, false, false, false, false, false, false] rfl rfl (by kernel_rfl) (fun _ _ _ h => h) (Or.inl ⟨by rfl, ?_⟩) ?_ ?_; rotate_left; (intro w'; go_simp; with_reducible rfl); rotate_left; (simp only [Act.put, sq0, sq1, sq2, sq3, sq4]; rfl)
  refine pure_ (i := 6) (N := some 26) (v := ?_) (a' := ?_) #[true, true, true, true, true, true, true, false, false, false, false, false, false, false, false, false] rfl rfl (by kernel_rfl) (fun _ _ _ h => h) (Or.inl ⟨by rfl, ?_⟩) ?_ ?_; rotate_left; (intro w'; go_simp; with_reducible rfl); rotate_left; (simp only [Act.put, sq0, sq1, sq2, sq3, sq4]; rfl)
  refine pure_ (i := 7) (N := some 27) (v := ?_) (a' := ?_) #[true, true, true, true, true, true, true, true, false, false, false, false, false, false, false, false] rfl rfl (by kernel_rfl) (fun _ _ _ h => h) (Or.inl ⟨by rfl, ?_⟩) ?_ ?_; rotate_left; (intro w'; go_simp; with_reducible rfl); rotate_left; (simp only [Act.put, sq0, sq1, sq2, sq3, sq4]; rfl)
  refine pure_ (i := 8) (N := some 28) (v := ?_) (a' := ?_) #[true, true, true, true, true, true, true, true, true, false, false, false, false, false, false, false] rfl rfl (by kernel_rfl) (fun _ _ _ h => h) (Or.inl ⟨by rfl, ?_⟩) ?_ ?_; rotate_left; (intro w'; go_simp; with_reducible rfl); rotate_left; (simp only [Act.put, sq0, sq1, sq2, sq3, sq4]; rfl)
  refine pure_ (i := 9) (N := some 29) (v := ?_) (a' := ?_) #[true, true, true, true, true, true, true, true, true, true, false, false, false, false, false, false] rfl rfl (by kernel_rfl) (fun _ _ _ h => h) (Or.inl ⟨by rfl, ?_⟩) ?_ ?_; rotate_left; (intro w'; go_simp; with_reducible rfl); rotate_left; (simp only [Act.put, sq0, sq1, sq2, sq3, sq4]; rfl)
  refine pure_ (i := 10) (N := some 30) (v := ?_) (a' := ?_) #[true, true, true, true, true, true, true, true, true, true, true, false, false, false, false, false] rfl rfl (by kernel_rfl) (fun _ _ _ h => h) (Or.inl ⟨by rfl, ?_⟩) ?_ ?_; rotate_left; (intro w'; go_simp; with_reducible rfl); rotate_left; (simp only [Act.put, sq0, sq1, sq2, sq3, sq4]; rfl)
  refine take_ (i := 11) (N := some 31) (v := ?_) (a' := ?_) #[true, true, true, true, true, true, true, true, true, true, true, true, false, false, false, false] rfl rfl (by kernel_rfl) (fun _ _ _ h => h) (Or.inl ⟨by rfl, ?_⟩) hHeld ?_ ?_; rotate_left; (rintro w' ⟨z0, z1, z2, z3, z4, z5, z6⟩; go_simp; with_reducible rfl); rotate_left; (simp only [Act.put, sq0, sq1, sq2, sq3, sq4]; rfl)
  refine pure_ (i := 12) (N := some 32) (v := ?_) (a' := ?_) #[true, true, true, true, true, true, true, true, true, true, true, true, true, false, false, false] rfl rfl (by kernel_rfl) (fun _ _ _ h => h) (Or.inl ⟨by rfl, ?_⟩) ?_ ?_; rotate_left; (intro w'; go_simp; with_reducible rfl); rotate_left; (simp only [Act.put, sq0, sq1, sq2, sq3, sq4]; rfl)
  refine pure_ (i := 13) (N := some 33) (v := ?_) (a' := ?_) #[true, true, true, true, true, true, true, true, true, true, true, true, true, true, false, false] rfl rfl (by kernel_rfl) (fun _ _ _ h => h) (Or.inl ⟨by rfl, ?_⟩) ?_ ?_; rotate_left; (intro w'; go_simp; with_reducible rfl); rotate_left; (simp only [Act.put, sq0, sq1, sq2, sq3, sq4]; rfl)
  refine one_ (i := 14) (N := none) #[true, true, true, true, true, true, true, true, true, true, true, true, true, true, true, false] rfl rfl (by kernel_rfl) (by decide) (fun K hK => ?_)
  have y0 : w8.cell? ⟨gr, 0, none⟩ = some (.int .i64 0) := (blk_cell BR8.out 0).trans rfl
  have fy0 := blk_frozen BR8.out 0
  have y1 : w8.cell? ⟨gr, 1, none⟩ = some (.int .i64 0) := (blk_cell BR8.out 1).trans rfl
  have fy1 := blk_frozen BR8.out 1
  have y2 : w8.cell? ⟨gr, 2, none⟩ = some (.slice none 0 0) := (blk_cell BR8.out 2).trans rfl
  have fy2 := blk_frozen BR8.out 2
  have y3 : w8.cell? ⟨gr, 3, none⟩ = some (.slice none 0 0) := (blk_cell BR8.out 3).trans rfl
  have fy3 := blk_frozen BR8.out 3
  have y4 : w8.cell? ⟨gr, 4, none⟩ = some (.bool false) := (blk_cell BR8.out 4).trans rfl
  have fy4 := blk_frozen BR8.out 4
  have y5 : w8.cell? ⟨gr, 5, none⟩ = some (.bool false) := (blk_cell BR8.out 5).trans rfl
  have fy5 := blk_frozen BR8.out 5
  have y6 : w8.cell? ⟨gr, 6, none⟩ = some (.bool false) := (blk_cell BR8.out 6).trans rfl
  have fy6 := blk_frozen BR8.out 6
  refine skip_ (w1 := ?_) (by rfl) rfl ?_ ?_; rotate_left; (go_simp; rfl)
  clear y0 y1 y2 y3 y4 y5 y6 fy0 fy1 fy2 fy3 fy4 fy5 fy6
  have br0 := blk_put (cs' := #[.int .i64 x'.ph, .int .i64 0, .slice none 0 0, .slice none 0 0, .bool false, .bool false, .bool false]) BR8.out 0 (.int .i64 x'.ph) rfl
  have hm0 := Kd.R_set HW8.out.m BR8.out (fun q hq => by rw [List.mem_singleton.1 hq]; decide) 0 (.int .i64 x'.ph)
  have hs0 := Kd.R_set HW8.out.s BR8.out (fun q hq => by rw [List.mem_singleton.1 hq]; decide) 0 (.int .i64 x'.ph)
  have hb0 := below_set HB8.out GR.out (j := 0) (v := .int .i64 x'.ph)
  have br1 := blk_put (cs' := #[.int .i64 x'.ph, .int .i64 x'.at_, .slice none 0 0, .slice none 0 0, .bool false, .bool false, .bool false]) br0 1 (.int .i64 x'.at_) rfl
  have hm1 := Kd.R_set hm0 br0 (fun q hq => by rw [List.mem_singleton.1 hq]; decide) 1 (.int .i64 x'.at_)
  have hs1 := Kd.R_set hs0 br0 (fun q hq => by rw [List.mem_singleton.1 hq]; decide) 1 (.int .i64 x'.at_)
  have hb1 := below_set hb0 GR.out (j := 1) (v := .int .i64 x'.at_)
  have br2 := blk_put (cs' := #[.int .i64 x'.ph, .int .i64 x'.at_, .slice Am x'.marks.length cm, .slice none 0 0, .bool false, .bool false, .bool false]) br1 2 (.slice Am x'.marks.length cm) rfl
  have hm2 := Kd.R_set hm1 br1 (fun q hq => by rw [List.mem_singleton.1 hq]; decide) 2 (.slice Am x'.marks.length cm)
  have hs2 := Kd.R_set hs1 br1 (fun q hq => by rw [List.mem_singleton.1 hq]; decide) 2 (.slice Am x'.marks.length cm)
  have hb2 := below_set hb1 GR.out (j := 2) (v := .slice Am x'.marks.length cm)
  have br3 := blk_put (cs' := #[.int .i64 x'.ph, .int .i64 x'.at_, .slice Am x'.marks.length cm, .slice As x'.stack.length cs, .bool false, .bool false, .bool false]) br2 3 (.slice As x'.stack.length cs) rfl
  have hm3 := Kd.R_set hm2 br2 (fun q hq => by rw [List.mem_singleton.1 hq]; decide) 3 (.slice As x'.stack.length cs)
  have hs3 := Kd.R_set hs2 br2 (fun q hq => by rw [List.mem_singleton.1 hq]; decide) 3 (.slice As x'.stack.length cs)
  have hb3 := below_set hb2 GR.out (j := 3) (v := .slice As x'.stack.length cs)
  have br4 := blk_put (cs' := #[.int .i64 x'.ph, .int .i64 x'.at_, .slice Am x'.marks.length cm, .slice As x'.stack.length cs, .bool x'.over, .bool false, .bool false]) br3 4 (.bool x'.over) rfl
  have hm4 := Kd.R_set hm3 br3 (fun q hq => by rw [List.mem_singleton.1 hq]; decide) 4 (.bool x'.over)
  have hs4 := Kd.R_set hs3 br3 (fun q hq => by rw [List.mem_singleton.1 hq]; decide) 4 (.bool x'.over)
  have hb4 := below_set hb3 GR.out (j := 4) (v := .bool x'.over)
  have br5 := blk_put (cs' := #[.int .i64 x'.ph, .int .i64 x'.at_, .slice Am x'.marks.length cm, .slice As x'.stack.length cs, .bool x'.over, .bool x'.again, .bool false]) br4 5 (.bool x'.again) rfl
  have hm5 := Kd.R_set hm4 br4 (fun q hq => by rw [List.mem_singleton.1 hq]; decide) 5 (.bool x'.again)
  have hs5 := Kd.R_set hs4 br4 (fun q hq => by rw [List.mem_singleton.1 hq]; decide) 5 (.bool x'.again)
  have hb5 := below_set hb4 GR.out (j := 5) (v := .bool x'.again)
  have br6 := blk_put (cs' := #[.int .i64 x'.ph, .int .i64 x'.at_, .slice Am x'.marks.length cm, .slice As x'.stack.length cs, .bool x'.over, .bool x'.again, .bool x'.scan]) br5 6 (.bool x'.scan) rfl
  have hm6 := Kd.R_set hm5 br5 (fun q hq => by rw [List.mem_singleton.1 hq]; decide) 6 (.bool x'.scan)
  have hs6 := Kd.R_set hs5 br5 (fun q hq => by rw [List.mem_singleton.1 hq]; decide) 6 (.bool x'.scan)
  have hb6 := below_set hb5 GR.out (j := 6) (v := .bool x'.scan)
  have ngr := blk_ne HW8.out.blk BR8.out (by decide)
  have bw := (blk_far (blk_far (blk_far (blk_far (blk_far (blk_far (blk_far HW8.out.blk (p := ⟨gr, 0, none⟩) ngr (.int .i64 x'.ph)) (p := ⟨gr, 1, none⟩) ngr (.int .i64 x'.at_)) (p := ⟨gr, 2, none⟩) ngr (.slice Am x'.marks.length cm)) (p := ⟨gr, 3, none⟩) ngr (.slice As x'.stack.length cs)) (p := ⟨gr, 4, none⟩) ngr (.bool x'.over)) (p := ⟨gr, 5, none⟩) ngr (.bool x'.again)) (p := ⟨gr, 6, none⟩) ngr (.bool x'.scan))
  have BR9 := ak br6
  have HM9 := ak hm6
  have HS9 := ak hs6
  have HB9 := ak hb6
  clear br0 br1 br2 br3 br4 br5 br6 hm0 hm1 hm2 hm3 hm4 hm5 hm6 hs0 hs1 hs2 hs3 hs4 hs5 hs6 hb0 hb1 hb2 hb3 hb4 hb5 hb6
  refine hK.out _ _ ⟨(blk_cell bw 3).trans rfl, (blk_cell bw 4).trans rfl, (blk_cell bw 5).trans rfl, (blk_cell bw 6).trans rfl, (blk_cell bw 7).trans rfl, (blk_cell bw 8).trans rfl, (blk_cell bw 9).trans rfl⟩ (fun hHeld => ?_)
  clear hK K bw
  refine pure_ (i := 15) (N := some 7) (v := ?_) (a' := ?_) #[true, true, true, true, true, true, true, true, true, true, true, true, true, true, true, true] rfl rfl (by kernel_rfl) (fun _ _ _ h => h) (Or.inl ⟨by rfl, ?_⟩) ?_ ?_; rotate_left; (intro w'; go_simp; with_reducible rfl); rotate_left; (simp only [Act.put, sq0, sq1, sq2, sq3, sq4]; rfl)
  refine done_ (by kernel_rfl) ?_
  go_wp2
  refine bodyPost_ret (results_ct rfl _ _ gr 28 #[.int .i64 x'.ph, .int .i64 x'.at_, .slice Am x'.marks.length cm, .slice As x'.stack.length cs, .bool x'.over, .bool x'.again, .bool x'.scan] (0, 0) _ rfl BR9.out Try.underlying28 rfl (by kernel_rfl)) rfl ?_
  exact ⟨_, _, by first | rfl | (simp; done), Kd.R_lower (Kd.R_mono HM9.out (fun _ _ => trivial)) HB3.out.size, Kd.R_lower (Kd.R_mono HS9.out (fun _ _ => trivial)) HB3.out.size, HB9.out⟩
 ·have hh := HH.out
  rw [if_neg hz] at hh
  have hh := Option.some.inj hh
  unfold MS.tup at hh
  simp only [Prod.mk.injEq] at hh
  obtain ⟨rfl, rfl, rfl, rfl, rfl, rfl, rfl, rfl⟩ := hh
  have hzb : (e0 == 0) = false := beq_eq_false_iff_ne.2 hz
  rw [hzb] at HBG
  clear HH hz hzb
  go_enter Try.func26, Try.ntmps26
  go_wp2_with (first | ((with_reducible refine gate_dst (N := 3) rfl ?_); refine box_event ?hg (N := 3) ?hd (cs := #[.slice A0 lc.length c0, .slice A1 lr.length c1]) (t := 25) ?hr ?_; (case hd => rfl); (case hg => rfl); (case hr => first | (go_simp; done) | (go_simp; rfl)); intro gb hg w1 hb1 hx1; have HB1 := ak hx1; have BK := ak hb1; clear hg hb1 hx1; have q0 : w1.cell? ⟨gb, 0, none⟩ = some (.slice A0 lc.length c0) := (blk_cell BK.out 0).trans rfl; have q1 : w1.cell? ⟨gb, 1, none⟩ = some (.slice A1 lr.length c1) := (blk_cell BK.out 1).trans rfl) | ((with_reducible refine gate_dst (N := 5) rfl ?_); refine box_event ?hg (N := 5) ?hd (cs := #[.int .i64 ph, .int .i64 at_, .slice A2 m.length c2, .slice A3 st.length c3, .bool ov, .bool ag, .bool sc]) (t := 28) ?hr ?_; (case hd => rfl); (case hg => rfl); (case hr => first | (go_simp; done) | (go_simp; rfl)); intro gs hg w2 hb2 hx2; have HB2 := ak (HB1.out.trans (hx2.mono HB1.out.size)); have BK2 := ak (blk_below BK.out hx2); have BS2 := ak hb2; clear hg hb2 hx2 q0 q1) | ((with_reducible refine gate_dst (N := 6) rfl ?_); refine box_event ?hg (N := 6) ?hd (cs := #[.int .i64 0, .int .i64 0, .slice none 0 0, .slice none 0 0, .bool false, .bool false, .bool false]) (t := 28) ?hr ?_; (case hd => rfl); (case hg => rfl); (case hr => first | (go_simp; done) | (go_simp; rfl)); intro gr hg w3 hb3 hx3; have HB3 := ak (HB2.out.trans (hx3.mono HB2.out.size)); have BK3 := ak (blk_below BK2.out hx3); have BS3 := ak (blk_below BS2.out hx3); have BR3 := ak hb3; have GR := ak (show w.heap.size ≤ gr from by rw [hg]; exact HB2.out.size); clear hg hb3 hx3 HB1 BK HB2 BK2 BS2; have q0 : w3.cell? ⟨gb, 0, none⟩ = some (.slice A0 lc.length c0) := (blk_cell BK3.out 0).trans rfl; have q1 : w3.cell? ⟨gb, 1, none⟩ = some (.slice A1 lr.length c1) := (blk_cell BK3.out 1).trans rfl; have s0 : w3.cell? ⟨gs, 0, none⟩ = some (.int .i64 ph) := (blk_cell BS3.out 0).trans rfl; have s1 : w3.cell? ⟨gs, 1, none⟩ = some (.int .i64 at_) := (blk_cell BS3.out 1).trans rfl; have s2 : w3.cell? ⟨gs, 2, none⟩ = some (.slice A2 m.length c2) := (blk_cell BS3.out 2).trans rfl; have s3 : w3.cell? ⟨gs, 3, none⟩ = some (.slice A3 st.length c3) := (blk_cell BS3.out 3).trans rfl; have s4 : w3.cell? ⟨gs, 4, none⟩ = some (.bool ov) := (blk_cell BS3.out 4).trans rfl; have s5 : w3.cell? ⟨gs, 5, none⟩ = some (.bool ag) := (blk_cell BS3.out 5).trans rfl; have s6 : w3.cell? ⟨gs, 6, none⟩ = some (.bool sc) := (blk_cell BS3.out 6).trans rfl) | (go_at_call 36; (with_reducible refine (HBG.out _ HB3.out).mono ?_); rintro e w4 ⟨g, vm, vs, rfl, hw4, hb4⟩; have HB4 := ak (HB3.out.trans (hb4.mono HB3.out.size)); have HV := ak hb4; have BR4 := ak (blk_below BR3.out hb4); have HW4 := ak hw4; have GL := ak (blk_lt BR3.out); clear q0 q1 s0 s1 s2 s3 s4 s5 s6 hw4 hb4))
  obtain ⟨Am, cm, rfl⟩ := Kd.R_slice HW4.out.m
  obtain ⟨As, cs, rfl⟩ := Kd.R_slice HW4.out.s
  refine start_ (n := 16) (S := fun w' => w'.cell? ⟨g, 3, none⟩ = some (.int .i64 ph) ∧ w'.cell? ⟨g, 4, none⟩ = some (.int .i64 at_) ∧ w'.cell? ⟨g, 5, none⟩ = some (.slice Am m.length cm) ∧ w'.cell? ⟨g, 6, none⟩ = some (.slice As st.length cs) ∧ w'.cell? ⟨g, 7, none⟩ = some (.bool ov) ∧ w'.cell? ⟨g, 8, none⟩ = some (.bool ag) ∧ w'.cell? ⟨g, 9, none⟩ = some (.bool sc)) (ds := []) #[false, false, false, false, false, false, false, false, false, false, false, false, false, false, false, false] (by kernel_rfl) rfl rfl ⟨(blk_cell HW4.out.blk 3).trans rfl, (blk_cell HW4.out.blk 4).trans rfl, (blk_cell HW4.out.blk 5).trans rfl, (blk_cell HW4.out.blk 6).trans rfl, (blk_cell HW4.out.blk 7).trans rfl, (blk_cell HW4.out.blk 8).trans rfl, (blk_cell HW4.out.blk 9).trans rfl⟩ (fun hHeld => ?_)
  have HW8 := ak HW4.out.drew
  have BR8 := ak (blk_drew BR4.out)
  have HB8 := ak (below_drew HB4.out)
  generalize w4.drew = w8 at hHeld HW8 BR8 HB8 ⊢
  refine pure_ (i := 0) (N := some 20) (v := ?_) (a' := ?_) #[true, false, false, false, false, false, false, false, false, false, false, false, false, false, false, false] rfl rfl (by kernel_rfl) (fun _ _ _ h => h) (Or.inl ⟨by rfl, ?_⟩) ?_ ?_; rotate_left; (intro w'; go_simp; with_reducible rfl); rotate_left; (simp only [Act.put, sq0, sq1, sq2, sq3, sq4]; rfl)
  refine pure_ (i := 1) (N := some 21) (v := ?_) (a' := ?_) #[true, true, false, false, false, false, false, false, false, false, false, false, false, false, false, false] rfl rfl (by kernel_rfl) (fun _ _ _ h => h) (Or.inl ⟨by rfl, ?_⟩) ?_ ?_; rotate_left; (intro w'; go_simp; with_reducible rfl); rotate_left; (simp only [Act.put, sq0, sq1, sq2, sq3, sq4]; rfl)
  refine pure_ (i := 2) (N := some 22) (v := ?_) (a' := ?_) #[true, true, true, false, false, false, false, false, false, false, false, false, false, false, false, false] rfl rfl (by kernel_rfl) (fun _ _ _ h => h) (Or.inl ⟨by rfl, ?_⟩) ?_ ?_; rotate_left; (intro w'; go_simp; with_reducible rfl); rotate_left; (simp only [Act.put, sq0, sq1, sq2, sq3, sq4]; rfl)
  refine take_ (i := 3) (N := some 23) (v := ?_) (a' := ?_) #[true, true, true, true, false, false, false, false, false, false, false, false, false, false, false, false] rfl rfl (by kernel_rfl) (fun _ _ _ h => h) (Or.inl ⟨by rfl, ?_⟩) hHeld ?_ ?_; rotate_left; (rintro w' ⟨z0, z1, z2, z3, z4, z5, z6⟩; go_simp; with_reducible rfl); rotate_left; (simp only [Act.put, sq0, sq1, sq2, sq3, sq4]; rfl)
  refine pure_ (i := 4) (N := some 24) (v := ?_) (a' := ?_) #[true, true, true, true, true, false, false, false, false, false, false, false, false, false, false, false] rfl rfl (by kernel_rfl) (fun _ _ _ h => h) (Or.inl ⟨by rfl, ?_⟩) ?_ ?_; rotate_left; (intro w'; go_simp; with_reducible rfl); rotate_left; (simp only [Act.put, sq0, sq1, sq2, sq3, sq4]; rfl)
  refine pure_ (i := 5) (N := some 25) (v := ?_) (a' := ?_) #[true, true, true, true, true, true, false, false, false, false, false, false, false, false, false, false] rfl rfl (by kernel_rfl) (fun _ _ _ h => h) (Or.inl ⟨by rfl, ?_⟩) ?_ ?_; rotate_left; (intro w'; go_simp; with_reducible rfl); rotate_left; (simp only [Act.put, sq0, sq1, sq2, sq3, sq4]; rfl)
  refine pure_ (i := 6) (N := some 26) (v := ?_) (a' := ?_) #[true, true, true, true, true, true, true, false, false, false, false, false, false, false, false, false] rfl rfl (by kernel_rfl) (fun _ _ _ h => h) (Or.inl ⟨by rfl, ?_⟩) ?_ ?_; rotate_left; (intro w'; go_simp; with_reducible rfl); rotate_left; (simp only [Act.put, sq0, sq1, sq2, sq3, sq4]; rfl)
  refine pure_ (i := 7) (N := some 27) (v := undef) (a' := ?_) #[true, true, true, true, true, true, true, true, false, false, false, false, false, false, false, false] rfl rfl (by kernel_rfl) (fun _ _ _ h => h) (Or.inr ⟨by rfl, rfl⟩) ?_ ?_; rotate_left; (simp only [Act.put, sq0, sq1, sq2, sq3, sq4]; rfl)
  refine pure_ (i := 8) (N := some 28) (v := undef) (a' := ?_) #[true, true, true, true, true, true, true, true, true, false, false, false, false, false, false, false] rfl rfl (by kernel_rfl) (fun _ _ _ h => h) (Or.inr ⟨by rfl, rfl⟩) ?_ ?_; rotate_left; (simp only [Act.put, sq0, sq1, sq2, sq3, sq4]; rfl)
  refine pure_ (i := 9) (N := some 29) (v := undef) (a' := ?_) #[true, true, true, true, true, true, true, true, true, true, false, false, false, false, false, false] rfl rfl (by kernel_rfl) (fun _ _ _ h => h) (Or.inr ⟨by rfl, rfl⟩) ?_ ?_; rotate_left; (simp only [Act.put, sq0, sq1, sq2, sq3, sq4]; rfl)
  refine pure_ (i := 10) (N := some 30) (v := undef) (a' := ?_) #[true, true, true, true, true, true, true, true, true, true, true, false, false, false, false, false] rfl rfl (by kernel_rfl) (fun _ _ _ h => h) (Or.inr ⟨by rfl, rfl⟩) ?_ ?_; rotate_left; (simp only [Act.put, sq0, sq1, sq2, sq3, sq4]; rfl)
  refine pure_ (i := 11) (N := some 31) (v := undef) (a' := ?_) #[true, true, true, true, true, true, true, true, true, true, true, true, false, false, false, false] rfl rfl (by kernel_rfl) (fun _ _ _ h => h) (Or.inr ⟨by rfl, rfl⟩) ?_ ?_; rotate_left; (simp only [Act.put, sq0, sq1, sq2, sq3, sq4]; rfl)
  refine pure_ (i := 12) (N := some 32) (v := undef) (a' := ?_) #[true, true, true, true, true, true, true, true, true, true, true, true, true, false, false, false] rfl rfl (by kernel_rfl) (fun _ _ _ h => h) (Or.inr ⟨by rfl, rfl⟩) ?_ ?_; rotate_left; (simp only [Act.put, sq0, sq1, sq2, sq3, sq4]; rfl)
  refine pure_ (i := 13) (N := some 33) (v := ?_) (a' := ?_) #[true, true, true, true, true, true, true, true, true, true, true, true, true, true, false, false] rfl rfl (by kernel_rfl) (fun _ _ _ h => h) (Or.inl ⟨by rfl, ?_⟩) ?_ ?_; rotate_left; (intro w'; go_simp; with_reducible rfl); rotate_left; (simp only [Act.put, sq0, sq1, sq2, sq3, sq4]; rfl)
  refine one_ (i := 14) (N := none) #[true, true, true, true, true, true, true, true, true, true, true, true, true, true, true, false] rfl rfl (by kernel_rfl) (by decide) (fun K hK => ?_)
  have y0 : w8.cell? ⟨gr, 0, none⟩ = some (.int .i64 0) := (blk_cell BR8.out 0).trans rfl
  have fy0 := blk_frozen BR8.out 0
  have y1 : w8.cell? ⟨gr, 1, none⟩ = some (.int .i64 0) := (blk_cell BR8.out 1).trans rfl
  have fy1 := blk_frozen BR8.out 1
  have y2 : w8.cell? ⟨gr, 2, none⟩ = some (.slice none 0 0) := (blk_cell BR8.out 2).trans rfl
  have fy2 := blk_frozen BR8.out 2
  have y3 : w8.cell? ⟨gr, 3, none⟩ = some (.slice none 0 0) := (blk_cell BR8.out 3).trans rfl
  have fy3 := blk_frozen BR8.out 3
  have y4 : w8.cell? ⟨gr, 4, none⟩ = some (.bool false) := (blk_cell BR8.out 4).trans rfl
  have fy4 := blk_frozen BR8.out 4
  have y5 : w8.cell? ⟨gr, 5, none⟩ = some (.bool false) := (blk_cell BR8.out 5).trans rfl
  have fy5 := blk_frozen BR8.out 5
  have y6 : w8.cell? ⟨gr, 6, none⟩ = some (.bool false) := (blk_cell BR8.out 6).trans rfl
  have fy6 := blk_frozen BR8.out 6
  refine skip_ (w1 := ?_) (by rfl) rfl ?_ ?_; rotate_left; (go_simp; rfl)
  clear y0 y1 y2 y3 y4 y5 y6 fy0 fy1 fy2 fy3 fy4 fy5 fy6
  have br0 := blk_put (cs' := #[.int .i64 ph, .int .i64 0, .slice none 0 0, .slice none 0 0, .bool false, .bool false, .bool false]) BR8.out 0 (.int .i64 ph) rfl
  have hm0 := Kd.R_set HW8.out.m BR8.out (fun q hq => by rw [List.mem_singleton.1 hq]; decide) 0 (.int .i64 ph)
  have hs0 := Kd.R_set HW8.out.s BR8.out (fun q hq => by rw [List.mem_singleton.1 hq]; decide) 0 (.int .i64 ph)
  have hb0 := below_set HB8.out GR.out (j := 0) (v := .int .i64 ph)
  have br1 := blk_put (cs' := #[.int .i64 ph, .int .i64 at_, .slice none 0 0, .slice none 0 0, .bool false, .bool false, .bool false]) br0 1 (.int .i64 at_) rfl
  have hm1 := Kd.R_set hm0 br0 (fun q hq => by rw [List.mem_singleton.1 hq]; decide) 1 (.int .i64 at_)
  have hs1 := Kd.R_set hs0 br0 (fun q hq => by rw [List.mem_singleton.1 hq]; decide) 1 (.int .i64 at_)
  have hb1 := below_set hb0 GR.out (j := 1) (v := .int .i64 at_)
  have br2 := blk_put (cs' := #[.int .i64 ph, .int .i64 at_, .slice Am m.length cm, .slice none 0 0, .bool false, .bool false, .bool false]) br1 2 (.slice Am m.length cm) rfl
  have hm2 := Kd.R_set hm1 br1 (fun q hq => by rw [List.mem_singleton.1 hq]; decide) 2 (.slice Am m.length cm)
  have hs2 := Kd.R_set hs1 br1 (fun q hq => by rw [List.mem_singleton.1 hq]; decide) 2 (.slice Am m.length cm)
  have hb2 := below_set hb1 GR.out (j := 2) (v := .slice Am m.length cm)
  have br3 := blk_put (cs' := #[.int .i64 ph, .int .i64 at_, .slice Am m.length cm, .slice As st.length cs, .bool false, .bool false, .bool false]) br2 3 (.slice As st.length cs) rfl
  have hm3 := Kd.R_set hm2 br2 (fun q hq => by rw [List.mem_singleton.1 hq]; decide) 3 (.slice As st.length cs)
  have hs3 := Kd.R_set hs2 br2 (fun q hq => by rw [List.mem_singleton.1 hq]; decide) 3 (.slice As st.length cs)
  have hb3 := below_set hb2 GR.out (j := 3) (v := .slice As st.length cs)
  have br4 := blk_put (cs' := #[.int .i64 ph, .int .i64 at_, .slice Am m.length cm, .slice As st.length cs, .bool ov, .bool false, .bool false]) br3 4 (.bool ov) rfl
  have hm4 := Kd.R_set hm3 br3 (fun q hq => by rw [List.mem_singleton.1 hq]; decide) 4 (.bool ov)
  have hs4 := Kd.R_set hs3 br3 (fun q hq => by rw [List.mem_singleton.1 hq]; decide) 4 (.bool ov)
  have hb4 := below_set hb3 GR.out (j := 4) (v := .bool ov)
  have br5 := blk_put (cs' := #[.int .i64 ph, .int .i64 at_, .slice Am m.length cm, .slice As st.length cs, .bool ov, .bool ag, .bool false]) br4 5 (.bool ag) rfl
  have hm5 := Kd.R_set hm4 br4 (fun q hq => by rw [List.mem_singleton.1 hq]; decide) 5 (.bool ag)
  have hs5 := Kd.R_set hs4 br4 (fun q hq => by rw [List.mem_singleton.1 hq]; decide) 5 (.bool ag)
  have hb5 := below_set hb4 GR.out (j := 5) (v := .bool ag)
  have br6 := blk_put (cs' := #[.int .i64 ph, .int .i64 at_, .slice Am m.length cm, .slice As st.length cs, .bool ov, .bool ag, .bool sc]) br5 6 (.bool sc) rfl
  have hm6 := Kd.R_set hm5 br5 (fun q hq => by rw [List.mem_singleton.1 hq]; decide) 6 (.bool sc)
  have hs6 := Kd.R_set hs5 br5 (fun q hq => by rw [List.mem_singleton.1 hq]; decide) 6 (.bool sc)
  have hb6 := below_set hb5 GR.out (j := 6) (v := .bool sc)
  have ngr := blk_ne HW8.out.blk BR8.out (by decide)
  have bw := (blk_far (blk_far (blk_far (blk_far (blk_far (blk_far (blk_far HW8.out.blk (p := ⟨gr, 0, none⟩) ngr (.int .i64 ph)) (p := ⟨gr, 1, none⟩) ngr (.int .i64 at_)) (p := ⟨gr, 2, none⟩) ngr (.slice Am m.length cm)) (p := ⟨gr, 3, none⟩) ngr (.slice As st.length cs)) (p := ⟨gr, 4, none⟩) ngr (.bool ov)) (p := ⟨gr, 5, none⟩) ngr (.bool ag)) (p := ⟨gr, 6, none⟩) ngr (.bool sc))
  have BR9 := ak br6
  have HM9 := ak hm6
  have HS9 := ak hs6
  have HB9 := ak hb6
  clear br0 br1 br2 br3 br4 br5 br6 hm0 hm1 hm2 hm3 hm4 hm5 hm6 hs0 hs1 hs2 hs3 hs4 hs5 hs6 hb0 hb1 hb2 hb3 hb4 hb5 hb6
  refine hK.out _ _ ⟨(blk_cell bw 3).trans rfl, (blk_cell bw 4).trans rfl, (blk_cell bw 5).trans rfl, (blk_cell bw 6).trans rfl, (blk_cell bw 7).trans rfl, (blk_cell bw 8).trans rfl, (blk_cell bw 9).trans rfl⟩ (fun hHeld => ?_)
  clear hK K bw
  refine pure_ (i := 15) (N := some 7) (v := ?_) (a' := ?_) #[true, true, true, true, true, true, true, true, true, true, true, true, true, true, true, true] rfl rfl (by kernel_rfl) (fun _ _ _ h => h) (Or.inl ⟨by rfl, ?_⟩) ?_ ?_; rotate_left; (intro w'; go_simp; with_reducible rfl); rotate_left; (simp only [Act.put, sq0, sq1, sq2, sq3, sq4]; rfl)
  refine done_ (by kernel_rfl) ?_
  go_wp2
  refine bodyPost_ret (results_ct rfl _ _ gr 28 #[.int .i64 ph, .int .i64 at_, .slice Am m.length cm, .slice As st.length cs, .bool ov, .bool ag, .bool sc] (0, 0) _ rfl BR9.out Try.underlying28 rfl (by kernel_rfl)) rfl ?_
  exact ⟨_, _, by first | rfl | (simp; done), Kd.R_lower (Kd.R_mono HM9.out (fun _ _ => trivial)) HB3.out.size, Kd.R_lower (Kd.R_mono HS9.out (fun _ _ => trivial)) HB3.out.size, HB9.out⟩
/-! ### atticlaw19_MarkBlack: function 9 -/
mutual
def atticlaw19_MarkBlack.j0 : Nat → Int → Int → Bool → List (S56) → List Int → Int → Int → List Bool → List Int → Bool → Bool → Bool → Option (Bool)
 | 0, _, _, _, _, _, _, _, _, _, _, _, _ => none
 | k + 1, x5, x7, x31, x221000, x221001, x234000, x234001, x234002, x234003, x234004, x234005, x234006 => if x31 = true then ((atticlaw19_live.f k).bind fun t236 => (if t236 = true then (if x7 = 0 then (some true) else ((atticref19_CheckView.f k x221000 x221001).bind fun t237 => (some (t237 == x7)))) else (some false))) else ((mark_Bound.f x221000 x221001).bind fun t238 => (atticlaw19_MarkBlack.l0 k x5 t238 0 x221000 x221001 x234000 x234001 x234002 x234003 x234004 x234005 x234006))
def atticlaw19_MarkBlack.l0 : Nat → Int → Int → Int → List (S56) → List Int → Int → Int → List Bool → List Int → Bool → Bool → Bool → Option (Bool)
 | 0, _, _, _, _, _, _, _, _, _, _, _, _ => none
 | k + 1, x5, x44, x45, x221000, x221001, x234000, x234001, x234002, x234003, x234004, x234005, x234006 => if x45 < x44 then (if x234000 > 1 then (atticlaw19_MarkBlack.j2 k x5 x44 x45 true x221000 x221001 x234000 x234001 x234002 x234003 x234004 x234005 x234006) else (if x234004 = true then (atticlaw19_MarkBlack.j2 k x5 x44 x45 true x221000 x221001 x234000 x234001 x234002 x234003 x234004 x234005 x234006) else (atticlaw19_MarkBlack.j2 k x5 x44 x45 x234006 x221000 x221001 x234000 x234001 x234002 x234003 x234004 x234005 x234006))) else (if x234000 > 1 then (some true) else (if x234004 = true then (some true) else (some x234006)))
def atticlaw19_MarkBlack.j2 : Nat → Int → Int → Int → Bool → List (S56) → List Int → Int → Int → List Bool → List Int → Bool → Bool → Bool → Option (Bool)
 | 0, _, _, _, _, _, _, _, _, _, _, _, _, _ => none
 | k + 1, x5, x44, x45, x57, x221000, x221001, x234000, x234001, x234002, x234003, x234004, x234005, x234006 => if x57 = true then (some true) else (atticlaw19_MarkBlack.l1 k x5 x44 x45 x221000 (x221000.length : Int) 0 x221000 x221001 x234000 x234001 x234002 x234003 x234004 x234005 x234006)
def atticlaw19_MarkBlack.l1 : Nat → Int → Int → Int → List (S56) → Int → Int → List (S56) → List Int → Int → Int → List Bool → List Int → Bool → Bool → Bool → Option (Bool)
 | 0, _, _, _, _, _, _, _, _, _, _, _, _, _, _, _ => none
 | k + 1, x5, x44, x45, x59, x60, x61, x221000, x221001, x234000, x234001, x234002, x234003, x234004, x234005, x234006 => if x61 < x60 then (if 0 ≤ x61 then (if x61 < (x59.length : Int) then (if ((rd_T56 x59 x61).f0) = 1 then (if x61 ≥ (x234002.length : Int) then (atticlaw19_MarkBlack.j4 k x5 x44 x45 x59 x60 x61 true x221000 x221001 x234000 x234001 x234002 x234003 x234004 x234005 x234006 ((rd_T56 x59 x61).f0) ((rd_T56 x59 x61).f1)) else (if x61 < (x234002.length : Int) then (if rdOf false x234002 x61 = true then ((slices_Contains_int_int.f k x234003 x61).bind fun t254 => (atticlaw19_MarkBlack.j4 k x5 x44 x45 x59 x60 x61 t254 x221000 x221001 x234000 x234001 x234002 x234003 x234004 x234005 x234006 ((rd_T56 x59 x61).f0) ((rd_T56 x59 x61).f1))) else (atticlaw19_MarkBlack.j4 k x5 x44 x45 x59 x60 x61 true x221000 x221001 x234000 x234001 x234002 x234003 x234004 x234005 x234006 ((rd_T56 x59 x61).f0) ((rd_T56 x59 x61).f1))) else (none))) else (atticlaw19_MarkBlack.j4 k x5 x44 x45 x59 x60 x61 true x221000 x221001 x234000 x234001 x234002 x234003 x234004 x234005 x234006 ((rd_T56 x59 x61).f0) ((rd_T56 x59 x61).f1))) else (none)) else (none)) else ((mark_Step.f k x221000 x221001 x5 x234000 x234001 x234002 x234003 x234004 x234005 x234006).bind fun bt239 => (atticlaw19_MarkBlack.l0 k x5 x44 (wrap64 (x45 + 1)) x221000 x221001 bt239.1 bt239.2.1 bt239.2.2.1 bt239.2.2.2.1 bt239.2.2.2.2.1 bt239.2.2.2.2.2.1 bt239.2.2.2.2.2.2.1))
def atticlaw19_MarkBlack.j4 : Nat → Int → Int → Int → List (S56) → Int → Int → Bool → List (S56) → List Int → Int → Int → List Bool → List Int → Bool → Bool → Bool → Int → List Int → Option (Bool)
 | 0, _, _, _, _, _, _, _, _, _, _, _, _, _, _, _, _, _, _ => none
 | k + 1, x5, x44, x45, x59, x60, x61, x89, x221000, x221001, x234000, x234001, x234002, x234003, x234004, x234005, x234006, x253000, x253001 => if x89 = true then (atticlaw19_MarkBlack.l1 k x5 x44 x45 x59 x60 (wrap64 (x61 + 1)) x221000 x221001 x234000 x234001 x234002 x234003 x234004 x234005 x234006) else (atticlaw19_MarkBlack.l2 k x5 x44 x45 x59 x60 x61 x253001 (x253001.length : Int) 0 x221000 x221001 x234000 x234001 x234002 x234003 x234004 x234005 x234006)
def atticlaw19_MarkBlack.l2 : Nat → Int → Int → Int → List (S56) → Int → Int → List Int → Int → Int → List (S56) → List Int → Int → Int → List Bool → List Int → Bool → Bool → Bool → Option (Bool)
 | 0, _, _, _, _, _, _, _, _, _, _, _, _, _, _, _, _, _, _ => none
 | k + 1, x5, x44, x45, x59, x60, x61, x91, x92, x93, x221000, x221001, x234000, x234001, x234002, x234003, x234004, x234005, x234006 => if x93 < x92 then (if 0 ≤ x93 then (if x93 < (x91.length : Int) then (if (rd x91 x93) ≥ 0 then (if (rd x91 x93) < (x234002.length : Int) then (if 0 ≤ (rd x91 x93) then (if (rdOf false x234002 (rd x91 x93) = true) then (atticlaw19_MarkBlack.l2 k x5 x44 x45 x59 x60 x61 x91 x92 (wrap64 (x93 + 1)) x221000 x221001 x234000 x234001 x234002 x234003 x234004 x234005 x234006) else (some false)) else (none)) else (atticlaw19_MarkBlack.l2 k x5 x44 x45 x59 x60 x61 x91 x92 (wrap64 (x93 + 1)) x221000 x221001 x234000 x234001 x234002 x234003 x234004 x234005 x234006)) else (atticlaw19_MarkBlack.l2 k x5 x44 x45 x59 x60 x61 x91 x92 (wrap64 (x93 + 1)) x221000 x221001 x234000 x234001 x234002 x234003 x234004 x234005 x234006)) else (none)) else (none)) else (atticlaw19_MarkBlack.l1 k x5 x44 x45 x59 x60 (wrap64 (x61 + 1)) x221000 x221001 x234000 x234001 x234002 x234003 x234004 x234005 x234006)
end
def atticlaw19_MarkBlack.f (k : Nat) (l0_0 : List (S56)) (l0_1 : List Int) (a1 : Int) : Option (Bool) := (mark_New.f k l0_0 l0_1 (wrap64 (1 + (wrap64 (a1))))).bind fun bt221 => ((atticlaw19_live.f k).bind fun t234 => (if t234 = true then (if bt221.2.2.2.2.2.2.2 = 0 then ((atticlaw19_few.f l0_0 l0_1).bind fun t235 => (atticlaw19_MarkBlack.j0 k (wrap64 (1 + (wrap64 (a1)))) bt221.2.2.2.2.2.2.2 (!t235) l0_0 l0_1 bt221.1 bt221.2.1 bt221.2.2.1 bt221.2.2.2.1 bt221.2.2.2.2.1 bt221.2.2.2.2.2.1 bt221.2.2.2.2.2.2.1)) else (atticlaw19_MarkBlack.j0 k (wrap64 (1 + (wrap64 (a1)))) bt221.2.2.2.2.2.2.2 true l0_0 l0_1 bt221.1 bt221.2.1 bt221.2.2.1 bt221.2.2.2.1 bt221.2.2.2.2.1 bt221.2.2.2.2.2.1 bt221.2.2.2.2.2.2.1)) else (atticlaw19_MarkBlack.j0 k (wrap64 (1 + (wrap64 (a1)))) bt221.2.2.2.2.2.2.2 true l0_0 l0_1 bt221.1 bt221.2.1 bt221.2.2.1 bt221.2.2.2.1 bt221.2.2.2.2.1 bt221.2.2.2.2.2.1 bt221.2.2.2.2.2.2.1)))
theorem atticlaw19_MarkBlack.mono_l : ∀ k, (∀ y0 y1 y2 y3 y4 y5 y6 y7 y8 y9 y10 y11, LeO (atticlaw19_MarkBlack.j0 k y0 y1 y2 y3 y4 y5 y6 y7 y8 y9 y10 y11) (atticlaw19_MarkBlack.j0 (k + 1) y0 y1 y2 y3 y4 y5 y6 y7 y8 y9 y10 y11)) ∧ (∀ y0 y1 y2 y3 y4 y5 y6 y7 y8 y9 y10 y11, LeO (atticlaw19_MarkBlack.l0 k y0 y1 y2 y3 y4 y5 y6 y7 y8 y9 y10 y11) (atticlaw19_MarkBlack.l0 (k + 1) y0 y1 y2 y3 y4 y5 y6 y7 y8 y9 y10 y11)) ∧ (∀ y0 y1 y2 y3 y4 y5 y6 y7 y8 y9 y10 y11 y12, LeO (atticlaw19_MarkBlack.j2 k y0 y1 y2 y3 y4 y5 y6 y7 y8 y9 y10 y11 y12) (atticlaw19_MarkBlack.j2 (k + 1) y0 y1 y2 y3 y4 y5 y6 y7 y8 y9 y10 y11 y12)) ∧ (∀ y0 y1 y2 y3 y4 y5 y6 y7 y8 y9 y10 y11 y12 y13 y14, LeO (atticlaw19_MarkBlack.l1 k y0 y1 y2 y3 y4 y5 y6 y7 y8 y9 y10 y11 y12 y13 y14) (atticlaw19_MarkBlack.l1 (k + 1) y0 y1 y2 y3 y4 y5 y6 y7 y8 y9 y10 y11 y12 y13 y14)) ∧ (∀ y0 y1 y2 y3 y4 y5 y6 y7 y8 y9 y10 y11 y12 y13 y14 y15 y16 y17, LeO (atticlaw19_MarkBlack.j4 k y0 y1 y2 y3 y4 y5 y6 y7 y8 y9 y10 y11 y12 y13 y14 y15 y16 y17) (atticlaw19_MarkBlack.j4 (k + 1) y0 y1 y2 y3 y4 y5 y6 y7 y8 y9 y10 y11 y12 y13 y14 y15 y16 y17)) ∧ (∀ y0 y1 y2 y3 y4 y5 y6 y7 y8 y9 y10 y11 y12 y13 y14 y15 y16 y17, LeO (atticlaw19_MarkBlack.l2 k y0 y1 y2 y3 y4 y5 y6 y7 y8 y9 y10 y11 y12 y13 y14 y15 y16 y17) (atticlaw19_MarkBlack.l2 (k + 1) y0 y1 y2 y3 y4 y5 y6 y7 y8 y9 y10 y11 y12 y13 y14 y15 y16 y17))
 | 0 => ⟨fun _ _ _ _ _ _ _ _ _ _ _ _ r h => by simp [atticlaw19_MarkBlack.j0] at h, fun _ _ _ _ _ _ _ _ _ _ _ _ r h => by simp [atticlaw19_MarkBlack.l0] at h, fun _ _ _ _ _ _ _ _ _ _ _ _ _ r h => by simp [atticlaw19_MarkBlack.j2] at h, fun _ _ _ _ _ _ _ _ _ _ _ _ _ _ _ r h => by simp [atticlaw19_MarkBlack.l1] at h, fun _ _ _ _ _ _ _ _ _ _ _ _ _ _ _ _ _ _ r h => by simp [atticlaw19_MarkBlack.j4] at h, fun _ _ _ _ _ _ _ _ _ _ _ _ _ _ _ _ _ _ r h => by simp [atticlaw19_MarkBlack.l2] at h⟩
 | k + 1 => by
  obtain ⟨ih0, ih1, ih2, ih3, ih4, ih5⟩ := atticlaw19_MarkBlack.mono_l k
  refine ⟨?_, ?_, ?_, ?_, ?_, ?_⟩
  ·intro y0 y1 y2 y3 y4 y5 y6 y7 y8 y9 y10 y11
   unfold atticlaw19_MarkBlack.j0
   repeat' first | (with_reducible first | exact ih0 _ _ _ _ _ _ _ _ _ _ _ _ | exact ih1 _ _ _ _ _ _ _ _ _ _ _ _ | exact ih2 _ _ _ _ _ _ _ _ _ _ _ _ _ | exact ih3 _ _ _ _ _ _ _ _ _ _ _ _ _ _ _ | exact ih4 _ _ _ _ _ _ _ _ _ _ _ _ _ _ _ _ _ _ | exact ih5 _ _ _ _ _ _ _ _ _ _ _ _ _ _ _ _ _ _ | exact atticlaw19_live.mono _ | exact atticref19_CheckView.mono _ _ _ | exact mark_New.mono _ _ _ _ | exact mark_Step.mono _ _ _ _ _ _ _ _ _ _ _ | exact slices_Contains_int_int.mono _ _ _ | exact LeO.refl _ | exact LeO.none _ | refine LeO.ite ?_ ?_ | refine LeO.bind ?_ (fun _ => ?_)) | exact ih0 _ _ _ _ _ _ _ _ _ _ _ _ | exact ih1 _ _ _ _ _ _ _ _ _ _ _ _ | exact ih2 _ _ _ _ _ _ _ _ _ _ _ _ _ | exact ih3 _ _ _ _ _ _ _ _ _ _ _ _ _ _ _ | exact ih4 _ _ _ _ _ _ _ _ _ _ _ _ _ _ _ _ _ _ | exact ih5 _ _ _ _ _ _ _ _ _ _ _ _ _ _ _ _ _ _ | exact atticlaw19_live.mono _ | exact atticref19_CheckView.mono _ _ _ | exact mark_New.mono _ _ _ _ | exact mark_Step.mono _ _ _ _ _ _ _ _ _ _ _ | exact slices_Contains_int_int.mono _ _ _ | exact LeO.none _ | refine LeO.ite ?_ ?_ | refine LeO.bind ?_ (fun _ => ?_)
  ·intro y0 y1 y2 y3 y4 y5 y6 y7 y8 y9 y10 y11
   unfold atticlaw19_MarkBlack.l0
   repeat' first | (with_reducible first | exact ih0 _ _ _ _ _ _ _ _ _ _ _ _ | exact ih1 _ _ _ _ _ _ _ _ _ _ _ _ | exact ih2 _ _ _ _ _ _ _ _ _ _ _ _ _ | exact ih3 _ _ _ _ _ _ _ _ _ _ _ _ _ _ _ | exact ih4 _ _ _ _ _ _ _ _ _ _ _ _ _ _ _ _ _ _ | exact ih5 _ _ _ _ _ _ _ _ _ _ _ _ _ _ _ _ _ _ | exact atticlaw19_live.mono _ | exact atticref19_CheckView.mono _ _ _ | exact mark_New.mono _ _ _ _ | exact mark_Step.mono _ _ _ _ _ _ _ _ _ _ _ | exact slices_Contains_int_int.mono _ _ _ | exact LeO.refl _ | exact LeO.none _ | refine LeO.ite ?_ ?_ | refine LeO.bind ?_ (fun _ => ?_)) | exact ih0 _ _ _ _ _ _ _ _ _ _ _ _ | exact ih1 _ _ _ _ _ _ _ _ _ _ _ _ | exact ih2 _ _ _ _ _ _ _ _ _ _ _ _ _ | exact ih3 _ _ _ _ _ _ _ _ _ _ _ _ _ _ _ | exact ih4 _ _ _ _ _ _ _ _ _ _ _ _ _ _ _ _ _ _ | exact ih5 _ _ _ _ _ _ _ _ _ _ _ _ _ _ _ _ _ _ | exact atticlaw19_live.mono _ | exact atticref19_CheckView.mono _ _ _ | exact mark_New.mono _ _ _ _ | exact mark_Step.mono _ _ _ _ _ _ _ _ _ _ _ | exact slices_Contains_int_int.mono _ _ _ | exact LeO.none _ | refine LeO.ite ?_ ?_ | refine LeO.bind ?_ (fun _ => ?_)
  ·intro y0 y1 y2 y3 y4 y5 y6 y7 y8 y9 y10 y11 y12
   unfold atticlaw19_MarkBlack.j2
   repeat' first | (with_reducible first | exact ih0 _ _ _ _ _ _ _ _ _ _ _ _ | exact ih1 _ _ _ _ _ _ _ _ _ _ _ _ | exact ih2 _ _ _ _ _ _ _ _ _ _ _ _ _ | exact ih3 _ _ _ _ _ _ _ _ _ _ _ _ _ _ _ | exact ih4 _ _ _ _ _ _ _ _ _ _ _ _ _ _ _ _ _ _ | exact ih5 _ _ _ _ _ _ _ _ _ _ _ _ _ _ _ _ _ _ | exact atticlaw19_live.mono _ | exact atticref19_CheckView.mono _ _ _ | exact mark_New.mono _ _ _ _ | exact mark_Step.mono _ _ _ _ _ _ _ _ _ _ _ | exact slices_Contains_int_int.mono _ _ _ | exact LeO.refl _ | exact LeO.none _ | refine LeO.ite ?_ ?_ | refine LeO.bind ?_ (fun _ => ?_)) | exact ih0 _ _ _ _ _ _ _ _ _ _ _ _ | exact ih1 _ _ _ _ _ _ _ _ _ _ _ _ | exact ih2 _ _ _ _ _ _ _ _ _ _ _ _ _ | exact ih3 _ _ _ _ _ _ _ _ _ _ _ _ _ _ _ | exact ih4 _ _ _ _ _ _ _ _ _ _ _ _ _ _ _ _ _ _ | exact ih5 _ _ _ _ _ _ _ _ _ _ _ _ _ _ _ _ _ _ | exact atticlaw19_live.mono _ | exact atticref19_CheckView.mono _ _ _ | exact mark_New.mono _ _ _ _ | exact mark_Step.mono _ _ _ _ _ _ _ _ _ _ _ | exact slices_Contains_int_int.mono _ _ _ | exact LeO.none _ | refine LeO.ite ?_ ?_ | refine LeO.bind ?_ (fun _ => ?_)
  ·intro y0 y1 y2 y3 y4 y5 y6 y7 y8 y9 y10 y11 y12 y13 y14
   unfold atticlaw19_MarkBlack.l1
   repeat' first | (with_reducible first | exact ih0 _ _ _ _ _ _ _ _ _ _ _ _ | exact ih1 _ _ _ _ _ _ _ _ _ _ _ _ | exact ih2 _ _ _ _ _ _ _ _ _ _ _ _ _ | exact ih3 _ _ _ _ _ _ _ _ _ _ _ _ _ _ _ | exact ih4 _ _ _ _ _ _ _ _ _ _ _ _ _ _ _ _ _ _ | exact ih5 _ _ _ _ _ _ _ _ _ _ _ _ _ _ _ _ _ _ | exact atticlaw19_live.mono _ | exact atticref19_CheckView.mono _ _ _ | exact mark_New.mono _ _ _ _ | exact mark_Step.mono _ _ _ _ _ _ _ _ _ _ _ | exact slices_Contains_int_int.mono _ _ _ | exact LeO.refl _ | exact LeO.none _ | refine LeO.ite ?_ ?_ | refine LeO.bind ?_ (fun _ => ?_)) | exact ih0 _ _ _ _ _ _ _ _ _ _ _ _ | exact ih1 _ _ _ _ _ _ _ _ _ _ _ _ | exact ih2 _ _ _ _ _ _ _ _ _ _ _ _ _ | exact ih3 _ _ _ _ _ _ _ _ _ _ _ _ _ _ _ | exact ih4 _ _ _ _ _ _ _ _ _ _ _ _ _ _ _ _ _ _ | exact ih5 _ _ _ _ _ _ _ _ _ _ _ _ _ _ _ _ _ _ | exact atticlaw19_live.mono _ | exact atticref19_CheckView.mono _ _ _ | exact mark_New.mono _ _ _ _ | exact mark_Step.mono _ _ _ _ _ _ _ _ _ _ _ | exact slices_Contains_int_int.mono _ _ _ | exact LeO.none _ | refine LeO.ite ?_ ?_ | refine LeO.bind ?_ (fun _ => ?_)
  ·intro y0 y1 y2 y3 y4 y5 y6 y7 y8 y9 y10 y11 y12 y13 y14 y15 y16 y17
   unfold atticlaw19_MarkBlack.j4
   repeat' first | (with_reducible first | exact ih0 _ _ _ _ _ _ _ _ _ _ _ _ | exact ih1 _ _ _ _ _ _ _ _ _ _ _ _ | exact ih2 _ _ _ _ _ _ _ _ _ _ _ _ _ | exact ih3 _ _ _ _ _ _ _ _ _ _ _ _ _ _ _ | exact ih4 _ _ _ _ _ _ _ _ _ _ _ _ _ _ _ _ _ _ | exact ih5 _ _ _ _ _ _ _ _ _ _ _ _ _ _ _ _ _ _ | exact atticlaw19_live.mono _ | exact atticref19_CheckView.mono _ _ _ | exact mark_New.mono _ _ _ _ | exact mark_Step.mono _ _ _ _ _ _ _ _ _ _ _ | exact slices_Contains_int_int.mono _ _ _ | exact LeO.refl _ | exact LeO.none _ | refine LeO.ite ?_ ?_ | refine LeO.bind ?_ (fun _ => ?_)) | exact ih0 _ _ _ _ _ _ _ _ _ _ _ _ | exact ih1 _ _ _ _ _ _ _ _ _ _ _ _ | exact ih2 _ _ _ _ _ _ _ _ _ _ _ _ _ | exact ih3 _ _ _ _ _ _ _ _ _ _ _ _ _ _ _ | exact ih4 _ _ _ _ _ _ _ _ _ _ _ _ _ _ _ _ _ _ | exact ih5 _ _ _ _ _ _ _ _ _ _ _ _ _ _ _ _ _ _ | exact atticlaw19_live.mono _ | exact atticref19_CheckView.mono _ _ _ | exact mark_New.mono _ _ _ _ | exact mark_Step.mono _ _ _ _ _ _ _ _ _ _ _ | exact slices_Contains_int_int.mono _ _ _ | exact LeO.none _ | refine LeO.ite ?_ ?_ | refine LeO.bind ?_ (fun _ => ?_)
  ·intro y0 y1 y2 y3 y4 y5 y6 y7 y8 y9 y10 y11 y12 y13 y14 y15 y16 y17
   unfold atticlaw19_MarkBlack.l2
   repeat' first | (with_reducible first | exact ih0 _ _ _ _ _ _ _ _ _ _ _ _ | exact ih1 _ _ _ _ _ _ _ _ _ _ _ _ | exact ih2 _ _ _ _ _ _ _ _ _ _ _ _ _ | exact ih3 _ _ _ _ _ _ _ _ _ _ _ _ _ _ _ | exact ih4 _ _ _ _ _ _ _ _ _ _ _ _ _ _ _ _ _ _ | exact ih5 _ _ _ _ _ _ _ _ _ _ _ _ _ _ _ _ _ _ | exact atticlaw19_live.mono _ | exact atticref19_CheckView.mono _ _ _ | exact mark_New.mono _ _ _ _ | exact mark_Step.mono _ _ _ _ _ _ _ _ _ _ _ | exact slices_Contains_int_int.mono _ _ _ | exact LeO.refl _ | exact LeO.none _ | refine LeO.ite ?_ ?_ | refine LeO.bind ?_ (fun _ => ?_)) | exact ih0 _ _ _ _ _ _ _ _ _ _ _ _ | exact ih1 _ _ _ _ _ _ _ _ _ _ _ _ | exact ih2 _ _ _ _ _ _ _ _ _ _ _ _ _ | exact ih3 _ _ _ _ _ _ _ _ _ _ _ _ _ _ _ | exact ih4 _ _ _ _ _ _ _ _ _ _ _ _ _ _ _ _ _ _ | exact ih5 _ _ _ _ _ _ _ _ _ _ _ _ _ _ _ _ _ _ | exact atticlaw19_live.mono _ | exact atticref19_CheckView.mono _ _ _ | exact mark_New.mono _ _ _ _ | exact mark_Step.mono _ _ _ _ _ _ _ _ _ _ _ | exact slices_Contains_int_int.mono _ _ _ | exact LeO.none _ | refine LeO.ite ?_ ?_ | refine LeO.bind ?_ (fun _ => ?_)
theorem atticlaw19_MarkBlack.mono : ∀ a0 a1 a2 k, LeO (atticlaw19_MarkBlack.f k a0 a1 a2) (atticlaw19_MarkBlack.f (k + 1) a0 a1 a2) := by
 intro a0 a1 a2 k
 obtain ⟨ih0, ih1, ih2, ih3, ih4, ih5⟩ := atticlaw19_MarkBlack.mono_l k
 unfold atticlaw19_MarkBlack.f
 repeat' first | (with_reducible first | exact ih0 _ _ _ _ _ _ _ _ _ _ _ _ | exact ih1 _ _ _ _ _ _ _ _ _ _ _ _ | exact ih2 _ _ _ _ _ _ _ _ _ _ _ _ _ | exact ih3 _ _ _ _ _ _ _ _ _ _ _ _ _ _ _ | exact ih4 _ _ _ _ _ _ _ _ _ _ _ _ _ _ _ _ _ _ | exact ih5 _ _ _ _ _ _ _ _ _ _ _ _ _ _ _ _ _ _ | exact atticlaw19_live.mono _ | exact atticref19_CheckView.mono _ _ _ | exact mark_New.mono _ _ _ _ | exact mark_Step.mono _ _ _ _ _ _ _ _ _ _ _ | exact slices_Contains_int_int.mono _ _ _ | exact LeO.refl _ | exact LeO.none _ | refine LeO.ite ?_ ?_ | refine LeO.bind ?_ (fun _ => ?_)) | exact ih0 _ _ _ _ _ _ _ _ _ _ _ _ | exact ih1 _ _ _ _ _ _ _ _ _ _ _ _ | exact ih2 _ _ _ _ _ _ _ _ _ _ _ _ _ | exact ih3 _ _ _ _ _ _ _ _ _ _ _ _ _ _ _ | exact ih4 _ _ _ _ _ _ _ _ _ _ _ _ _ _ _ _ _ _ | exact ih5 _ _ _ _ _ _ _ _ _ _ _ _ _ _ _ _ _ _ | exact atticlaw19_live.mono _ | exact atticref19_CheckView.mono _ _ _ | exact mark_New.mono _ _ _ _ | exact mark_Step.mono _ _ _ _ _ _ _ _ _ _ _ | exact slices_Contains_int_int.mono _ _ _ | exact LeO.none _ | refine LeO.ite ?_ ?_ | refine LeO.bind ?_ (fun _ => ?_)
set_option maxHeartbeats 8000000 in
set_option maxRecDepth 100000 in
theorem atticlaw19_MarkBlack.calls (k : Nat) (A0_0 : Option Addr) (c0_0 : Nat) (l0_0 : List (S56)) (A0_1 : Option Addr) (c0_1 : Nat) (l0_1 : List Int) (a1 : Int) (r : Bool) (w : World) (hr0_0 : Kd.C k56 w A0_0 l0_0.length l0_0) (hc0_0 : l0_0.length ≤ c0_0) (hr0_1 : Kd.C (Kd.int .i64) w A0_1 l0_1.length l0_1) (hc0_1 : l0_1.length ≤ c0_1) (hrt_ : Aside0 (r = true)) (h : atticlaw19_MarkBlack.f k l0_0 l0_1 a1 = some r) :
  Calls Try.prog 9 #[.agg #[.slice A0_0 l0_0.length c0_0, .slice A0_1 l0_1.length c0_1], .int .u8 a1] w fun e w' => e = .returned (.bool r) ∧ Below w.heap.size w w' := by
 have hu25 := Try.underlying25
 have hu28 := Try.underlying28
 have hu56 := Try.underlying56
 have HR0_0 := ak hr0_0
 have HC0_0 := ak hc0_0
 clear hr0_0 hc0_0
 have HR0_1 := ak hr0_1
 have HC0_1 := ak hc0_1
 clear hr0_1 hc0_1
 have HB := ak (Below.refl w.heap.size w)
 have H : ((mark_New.f k l0_0 l0_1 (wrap64 (1 + (wrap64 (a1))))).bind fun bt221 => ((atticlaw19_live.f k).bind fun t234 => (if t234 = true then (if bt221.2.2.2.2.2.2.2 = 0 then ((atticlaw19_few.f l0_0 l0_1).bind fun t235 => (atticlaw19_MarkBlack.j0 k (wrap64 (1 + (wrap64 (a1)))) bt221.2.2.2.2.2.2.2 (!t235) l0_0 l0_1 bt221.1 bt221.2.1 bt221.2.2.1 bt221.2.2.2.1 bt221.2.2.2.2.1 bt221.2.2.2.2.2.1 bt221.2.2.2.2.2.2.1)) else (atticlaw19_MarkBlack.j0 k (wrap64 (1 + (wrap64 (a1)))) bt221.2.2.2.2.2.2.2 true l0_0 l0_1 bt221.1 bt221.2.1 bt221.2.2.1 bt221.2.2.2.1 bt221.2.2.2.2.1 bt221.2.2.2.2.2.1 bt221.2.2.2.2.2.2.1)) else (atticlaw19_MarkBlack.j0 k (wrap64 (1 + (wrap64 (a1)))) bt221.2.2.2.2.2.2.2 true l0_0 l0_1 bt221.1 bt221.2.1 bt221.2.2.1 bt221.2.2.2.1 bt221.2.2.2.2.1 bt221.2.2.2.2.2.1 bt221.2.2.2.2.2.2.1)))) = some r := h
 clear h
 replace H := Option.bind_eq_some_iff.mp H
 obtain ⟨⟨t221, t222, t223, t226, t229, t230, t231, t232⟩, A30, H⟩ := H
 replace H : ((atticlaw19_live.f k).bind fun t234 => (if t234 = true then (if t232 = 0 then ((atticlaw19_few.f l0_0 l0_1).bind fun t235 => (atticlaw19_MarkBlack.j0 k (wrap64 (1 + (wrap64 (a1)))) t232 (!t235) l0_0 l0_1 t221 t222 t223 t226 t229 t230 t231)) else (atticlaw19_MarkBlack.j0 k (wrap64 (1 + (wrap64 (a1)))) t232 true l0_0 l0_1 t221 t222 t223 t226 t229 t230 t231)) else (atticlaw19_MarkBlack.j0 k (wrap64 (1 + (wrap64 (a1)))) t232 true l0_0 l0_1 t221 t222 t223 t226 t229 t230 t231))) = some r := H
 have A3 := ak A30
 clear A30
 have HC4 := ak H
 clear H
 go_enter Try.func9, Try.ntmps9
 go_upto_region 3 with (first | ((with_reducible refine gate_dst (N := 2) rfl ?_); (try (refine gate_guard (by rfl) ?_; dsimp only)); refine box_event ?hg (N := 2) ?hd (cs := #[.slice A0_0 l0_0.length c0_0, .slice A0_1 l0_1.length c0_1]) (t := 25) ?hr ?_; (case hd => rfl); (case hg => rfl); (case hr => first | (go_simp; done) | (go_simp; rfl)); intro gb220 hg w5 hbox hb; have n0_ := ak (below_step (by repeat (first | (with_reducible first | exact HB.out | apply ba_ | apply bn_ | apply b1_) | exact HB.out)) hb); have n1_ := ak (hbox); have n2_ := ak ((by rw [hg]; exact (below_size (by repeat (first | (with_reducible first | exact HB.out | apply ba_ | apply bn_ | apply b1_) | exact HB.out))) : w.heap.size ≤ gb220)); have n3_ := ak ((by rw [hg]; exact (below_size (by repeat (first | (with_reducible first | exact HB.out | apply ba_ | apply bn_ | apply b1_) | exact HB.out))) : w.heap.size ≤ gb220)); clear HB; have HB := n0_; have BK220 := n1_; have GW220 := n2_; have GE220 := n3_; clear n0_ n1_ n2_ n3_; clear hb hbox hg; obtain ⟨hcz6_0, hcz6_1, hfz6_0, hfz6_1⟩ := kk2 BK220.out) | ((with_reducible refine gate_callee (f := 14) rfl ?_); refine goesL_ (some 18) rfl rfl Try.func14 (by kernel_rfl) rfl #[.agg #[.slice A0_0 l0_0.length c0_0, .slice A0_1 l0_1.length c0_1], .int .i64 (wrap64 (1 + (wrap64 (a1))))] rfl (by (try simp only [List.map_toArray, List.map_cons, List.map_nil]); first | done | rfl | (simp only [List.length_drop, List.length_take]; rfl)) ?_; (with_reducible refine (mark_New.calls k _ _ l0_0 _ _ l0_1 (wrap64 (1 + (wrap64 (a1)))) t221 t222 t223 t226 t229 t230 t231 t232 _ ?side1 ?side2 ?side3 ?side4 A3.out).mono ?_); (case side1 => repeat (first | exact (Kd.C_below HR0_0.out HB.out) | (with_reducible refine Kd.C_alloc ?_ _) | (with_reducible refine Kd.C_drewN ?_ _) | (with_reducible refine Kd.C_drew ?_))); (case side2 => exact HC0_0.out); (case side3 => repeat (first | exact (Kd.C_below HR0_1.out HB.out) | (with_reducible refine Kd.C_alloc ?_ _) | (with_reducible refine Kd.C_drewN ?_ _) | (with_reducible refine Kd.C_drew ?_))); (case side4 => exact HC0_1.out); rintro e w7 ⟨v224, v227, rfl, ho0, ho1, hb⟩; refine ⟨_, rfl, ?_⟩; have n0_ := ak (Kd.R_lower ho0 (below_size (by repeat (first | (with_reducible first | exact HB.out | apply ba_ | apply bn_ | apply b1_ | refine bs_ ?_ GE220.out) | exact HB.out)))); have n1_ := ak (Kd.R_lower ho1 (below_size (by repeat (first | (with_reducible first | exact HB.out | apply ba_ | apply bn_ | apply b1_ | refine bs_ ?_ GE220.out) | exact HB.out)))); have n2_ := ak (blk_below (g := gb220) (o := .cells #[.slice A0_0 l0_0.length c0_0, .slice A0_1 l0_1.length c0_1] 25 (0, 0)) (by (with_reducible repeat first | apply kn_ | apply kd_ | apply ka_); exact BK220.out) hb); have n3_ := ak (below_step (by repeat (first | (with_reducible first | exact HB.out | apply ba_ | apply bn_ | apply b1_ | refine bs_ ?_ GE220.out) | exact HB.out)) hb); clear BK220; clear HB; have HO225 := n0_; have HO228 := n1_; have BK220 := n2_; have HB := n3_; clear n0_ n1_ n2_ n3_; (try clear hb); (try clear hb2); (try clear hk); (try clear hi); (try clear ho0); (try clear ho1); (try clear A3)) | ((with_reducible refine gate_dst (N := 6) rfl ?_); (try (refine gate_guard (by rfl) ?_; dsimp only)); refine box_event ?hg (N := 6) ?hd (cs := #[.int .i64 0, .int .i64 0, .slice none 0 0, .slice none 0 0, .bool false, .bool false, .bool false]) (t := 28) ?hr ?_; (case hd => rfl); (case hg => rfl); (case hr => first | (go_simp; done) | (go_simp; rfl)); intro gb233 hg w8 hbox hb; have n0_ := ak (Kd.R_below (by (with_reducible repeat (first | apply Kd.R_alloc | apply Kd.R_drewN | apply Kd.R_drew)); exact HO225.out) hb); have n1_ := ak (Kd.R_below (by (with_reducible repeat (first | apply Kd.R_alloc | apply Kd.R_drewN | apply Kd.R_drew)); exact HO228.out) hb); have n2_ := ak (blk_below (g := gb220) (o := .cells #[.slice A0_0 l0_0.length c0_0, .slice A0_1 l0_1.length c0_1] 25 (0, 0)) (by (with_reducible repeat first | apply kn_ | apply kd_ | apply ka_); exact BK220.out) hb); have n3_ := ak (below_step (by repeat (first | (with_reducible first | exact HB.out | apply ba_ | apply bn_ | apply b1_ | refine bs_ ?_ GE220.out) | exact HB.out)) hb); have n4_ := ak (hbox); have n5_ := ak ((by rw [hg]; exact (below_size (by repeat (first | (with_reducible first | exact HB.out | apply ba_ | apply bn_ | apply b1_ | refine bs_ ?_ GE220.out) | exact HB.out))) : w.heap.size ≤ gb233)); have n6_ := ak ((by rw [hg]; exact (below_size (by repeat (first | (with_reducible first | exact HB.out | apply ba_ | apply bn_ | apply b1_ | refine bs_ ?_ GE220.out) | exact HB.out))) : w.heap.size ≤ gb233)); have n7_ := ak ((by rw [hg]; exact Nat.ne_of_lt (blk_lt (g := gb220) (o := .cells #[.slice A0_0 l0_0.length c0_0, .slice A0_1 l0_1.length c0_1] 25 (0, 0)) (by (with_reducible repeat first | apply kn_ | apply kd_ | apply ka_); exact BK220.out)) : gb220 ≠ gb233)); have n8_ := ak ((by rw [hg]; exact Nat.ne_of_gt (blk_lt (g := gb220) (o := .cells #[.slice A0_0 l0_0.length c0_0, .slice A0_1 l0_1.length c0_1] 25 (0, 0)) (by (with_reducible repeat first | apply kn_ | apply kd_ | apply ka_); exact BK220.out)) : gb233 ≠ gb220)); clear HO225; clear HO228; clear BK220; clear HB; have HO225 := n0_; have HO228 := n1_; have BK220 := n2_; have HB := n3_; have BK233 := n4_; have GW233 := n5_; have GE233 := n6_; have NB220_233 := n7_; have NB233_220 := n8_; clear n0_ n1_ n2_ n3_ n4_ n5_ n6_ n7_ n8_; clear hb hbox hg; have hnb9 := NB233_220.out; have hnc9 := NB220_233.out; obtain ⟨hcz10_0, hcz10_1, hcz10_2, hcz10_3, hcz10_4, hcz10_5, hcz10_6, hfz10_0, hfz10_1, hfz10_2, hfz10_3, hfz10_4, hfz10_5, hfz10_6⟩ := kk7 BK233.out; obtain ⟨Ao11, co11, eo11⟩ := Kd.R_slice HO225.out; subst eo11; obtain ⟨Ao12, co12, eo12⟩ := Kd.R_slice HO228.out; subst eo12))
 (try simp only [Act.put, List.setIfInBounds_toArray, List.set_cons_zero, List.set_cons_succ])
 go_cut [31] (fun v31 wc => ∃ (kq : Nat) (x31_3 : Bool), v31 = .bool x31_3 ∧ Aside0 (atticlaw19_MarkBlack.j0 kq (wrap64 (1 + (wrap64 (a1)))) t232 x31_3 l0_0 l0_1 t221 t222 t223 t226 t229 t230 t231 = some r) ∧ Aside0 (kq ≤ k) ∧ Aside0 (Kd.R Kd.bool 4 wc w.heap.size (fun _ => True) (.slice Ao11 t223.length co11) t223) ∧ Aside0 (Kd.R (Kd.int .i64) 3 wc w.heap.size (fun _ => True) (.slice Ao12 t226.length co12) t226) ∧ Aside0 (wc.heap[gb220]? = some (.cells #[(.slice A0_0 l0_0.length c0_0), (.slice A0_1 l0_1.length c0_1)] 25 (0, 0))) ∧ Aside0 (wc.heap[gb233]? = some (.cells #[.int .i64 t221, .int .i64 t222, (.slice Ao11 t223.length co11), (.slice Ao12 t226.length co12), .bool t229, .bool t230, .bool t231] 28 (0, 0))) ∧ Aside0 (Below w.heap.size w wc))
 case first =>
  have H := HC4.out
  clear HC4
  replace H := Option.bind_eq_some_iff.mp H
  obtain ⟨t234, A130, H⟩ := H
  replace H : (if t234 = true then (if t232 = 0 then ((atticlaw19_few.f l0_0 l0_1).bind fun t235 => (atticlaw19_MarkBlack.j0 k (wrap64 (1 + (wrap64 (a1)))) t232 (!t235) l0_0 l0_1 t221 t222 t223 t226 t229 t230 t231)) else (atticlaw19_MarkBlack.j0 k (wrap64 (1 + (wrap64 (a1)))) t232 true l0_0 l0_1 t221 t222 t223 t226 t229 t230 t231)) else (atticlaw19_MarkBlack.j0 k (wrap64 (1 + (wrap64 (a1)))) t232 true l0_0 l0_1 t221 t222 t223 t226 t229 t230 t231)) = some r := H
  have A13 := ak A130
  clear A130
  by_cases c14 : t234 = true
  ·subst c14
   have H1 : (if t232 = 0 then ((atticlaw19_few.f l0_0 l0_1).bind fun t235 => (atticlaw19_MarkBlack.j0 k (wrap64 (1 + (wrap64 (a1)))) t232 (!t235) l0_0 l0_1 t221 t222 t223 t226 t229 t230 t231)) else (atticlaw19_MarkBlack.j0 k (wrap64 (1 + (wrap64 (a1)))) t232 true l0_0 l0_1 t221 t222 t223 t226 t229 t230 t231)) = some r := by rw [if_pos rfl] at H; exact H
   clear H
   have H := H1
   clear H1
   by_cases c15 : t232 = 0
   ·rw [if_pos c15] at H
    have c15b0 : (t232 == 0) = true := beq_iff_eq.mpr c15
    have c15b1 : (t232 != 0) = false := bne_eq_false_iff_eq.mpr c15
    clear c15
    (first | rw [c15b0] | (simp only [i64_w, i32_w]; rw [c15b0]) | skip)
    replace H := Option.bind_eq_some_iff.mp H
    obtain ⟨t235, A160, H⟩ := H
    replace H : (atticlaw19_MarkBlack.j0 k (wrap64 (1 + (wrap64 (a1)))) t232 (!t235) l0_0 l0_1 t221 t222 t223 t226 t229 t230 t231) = some r := H
    have A16 := ak A160
    clear A160
    have H' := ak H
    clear H
    go_wp2_with (first | ((with_reducible refine gate_callee (f := 10) rfl ?_); refine goesL_ (some 21) rfl rfl Try.func10 (by kernel_rfl) rfl #[] rfl (by (try simp only [List.map_toArray, List.map_cons, List.map_nil]); first | done | rfl | (simp only [List.length_drop, List.length_take]; rfl)) ?_; (with_reducible refine (atticlaw19_live.calls k  true _ A13.out).mono ?_); rintro e w17 ⟨rfl, hb⟩; refine ⟨_, rfl, ?_⟩; have n0_ := ak (Kd.R_below (by (with_reducible repeat (first | apply Kd.R_alloc | apply Kd.R_drewN | apply Kd.R_drew)); exact (Kd.R_mono (Kd.R_far (p := ⟨gb233, 6, none⟩) (Kd.R_far (p := ⟨gb233, 5, none⟩) (Kd.R_far (p := ⟨gb233, 4, none⟩) (Kd.R_far (p := ⟨gb233, 3, none⟩) (Kd.R_far (p := ⟨gb233, 2, none⟩) (Kd.R_far (p := ⟨gb233, 1, none⟩) (Kd.R_far (p := ⟨gb233, 0, none⟩) (Kd.R_types HO225.out BK233.out (by decide)) (fun _ hk => hk.2) (.int .i64 t221)) (fun _ hk => hk.2) (.int .i64 t222)) (fun _ hk => hk.2) (.slice Ao11 t223.length co11)) (fun _ hk => hk.2) (.slice Ao12 t226.length co12)) (fun _ hk => hk.2) (.bool t229)) (fun _ hk => hk.2) (.bool t230)) (fun _ hk => hk.2) (.bool t231)) (fun _ h_ => h_.1))) hb); have n1_ := ak (Kd.R_below (by (with_reducible repeat (first | apply Kd.R_alloc | apply Kd.R_drewN | apply Kd.R_drew)); exact (Kd.R_mono (Kd.R_far (p := ⟨gb233, 6, none⟩) (Kd.R_far (p := ⟨gb233, 5, none⟩) (Kd.R_far (p := ⟨gb233, 4, none⟩) (Kd.R_far (p := ⟨gb233, 3, none⟩) (Kd.R_far (p := ⟨gb233, 2, none⟩) (Kd.R_far (p := ⟨gb233, 1, none⟩) (Kd.R_far (p := ⟨gb233, 0, none⟩) (Kd.R_types HO228.out BK233.out (by decide)) (fun _ hk => hk.2) (.int .i64 t221)) (fun _ hk => hk.2) (.int .i64 t222)) (fun _ hk => hk.2) (.slice Ao11 t223.length co11)) (fun _ hk => hk.2) (.slice Ao12 t226.length co12)) (fun _ hk => hk.2) (.bool t229)) (fun _ hk => hk.2) (.bool t230)) (fun _ hk => hk.2) (.bool t231)) (fun _ h_ => h_.1))) hb); have n2_ := ak (blk_below (g := gb220) (o := .cells #[.slice A0_0 l0_0.length c0_0, .slice A0_1 l0_1.length c0_1] 25 (0, 0)) (by (with_reducible repeat first | apply kn_ | apply kd_ | apply ka_); refine blk_far ?_ NB220_233.out _; (with_reducible repeat first | apply kn_ | apply kd_ | apply ka_); refine blk_far ?_ NB220_233.out _; (with_reducible repeat first | apply kn_ | apply kd_ | apply ka_); refine blk_far ?_ NB220_233.out _; (with_reducible repeat first | apply kn_ | apply kd_ | apply ka_); refine blk_far ?_ NB220_233.out _; (with_reducible repeat first | apply kn_ | apply kd_ | apply ka_); refine blk_far ?_ NB220_233.out _; (with_reducible repeat first | apply kn_ | apply kd_ | apply ka_); refine blk_far ?_ NB220_233.out _; (with_reducible repeat first | apply kn_ | apply kd_ | apply ka_); refine blk_far ?_ NB220_233.out _; (with_reducible repeat first | apply kn_ | apply kd_ | apply ka_); exact BK220.out) hb); have n3_ := ak (blk_below (g := gb233) (o := .cells #[.int .i64 t221, .int .i64 t222, .slice Ao11 t223.length co11, .slice Ao12 t226.length co12, .bool t229, .bool t230, .bool t231] 28 (0, 0)) (by (with_reducible repeat first | apply kn_ | apply kd_ | apply ka_); refine blk_put (cs := #[.int .i64 t221, .int .i64 t222, .slice Ao11 t223.length co11, .slice Ao12 t226.length co12, .bool t229, .bool t230, .bool false]) ?_ 6 _ rfl; (with_reducible repeat first | apply kn_ | apply kd_ | apply ka_); refine blk_put (cs := #[.int .i64 t221, .int .i64 t222, .slice Ao11 t223.length co11, .slice Ao12 t226.length co12, .bool t229, .bool false, .bool false]) ?_ 5 _ rfl; (with_reducible repeat first | apply kn_ | apply kd_ | apply ka_); refine blk_put (cs := #[.int .i64 t221, .int .i64 t222, .slice Ao11 t223.length co11, .slice Ao12 t226.length co12, .bool false, .bool false, .bool false]) ?_ 4 _ rfl; (with_reducible repeat first | apply kn_ | apply kd_ | apply ka_); refine blk_put (cs := #[.int .i64 t221, .int .i64 t222, .slice Ao11 t223.length co11, .slice none 0 0, .bool false, .bool false, .bool false]) ?_ 3 _ rfl; (with_reducible repeat first | apply kn_ | apply kd_ | apply ka_); refine blk_put (cs := #[.int .i64 t221, .int .i64 t222, .slice none 0 0, .slice none 0 0, .bool false, .bool false, .bool false]) ?_ 2 _ rfl; (with_reducible repeat first | apply kn_ | apply kd_ | apply ka_); refine blk_put (cs := #[.int .i64 t221, .int .i64 0, .slice none 0 0, .slice none 0 0, .bool false, .bool false, .bool false]) ?_ 1 _ rfl; (with_reducible repeat first | apply kn_ | apply kd_ | apply ka_); refine blk_put (cs := #[.int .i64 0, .int .i64 0, .slice none 0 0, .slice none 0 0, .bool false, .bool false, .bool false]) ?_ 0 _ rfl; (with_reducible repeat first | apply kn_ | apply kd_ | apply ka_); exact BK233.out) hb); have n4_ := ak (below_step (by repeat (first | (with_reducible first | exact HB.out | apply ba_ | apply bn_ | apply b1_ | refine bs_ ?_ GE220.out | refine bs_ ?_ GE233.out) | exact HB.out)) hb); clear HO225; clear HO228; clear BK220; clear BK233; clear HB; have HO225 := n0_; have HO228 := n1_; have BK220 := n2_; have BK233 := n3_; have HB := n4_; clear n0_ n1_ n2_ n3_ n4_; (try clear hb); (try clear hb2); (try clear hk); (try clear hi); (try clear A13); have hnb18 := NB220_233.out; have hnc18 := NB233_220.out; obtain ⟨hcz19_0, hcz19_1, hfz19_0, hfz19_1⟩ := kk2 BK220.out) | (go_at_call 11; (with_reducible refine (atticlaw19_few.calls _ _ l0_0 _ _ l0_1 t235 _ ?side1 ?side2 ?side3 ?side4 A16.out).mono ?_); (case side1 => repeat (first | exact (Kd.C_below HR0_0.out HB.out) | (with_reducible refine Kd.C_alloc ?_ _) | (with_reducible refine Kd.C_drewN ?_ _) | (with_reducible refine Kd.C_drew ?_))); (case side2 => exact HC0_0.out); (case side3 => repeat (first | exact (Kd.C_below HR0_1.out HB.out) | (with_reducible refine Kd.C_alloc ?_ _) | (with_reducible refine Kd.C_drewN ?_ _) | (with_reducible refine Kd.C_drew ?_))); (case side4 => exact HC0_1.out); rintro e w20 ⟨rfl, hb⟩; have n0_ := ak (Kd.R_below (by (with_reducible repeat (first | apply Kd.R_alloc | apply Kd.R_drewN | apply Kd.R_drew)); exact HO225.out) hb); have n1_ := ak (Kd.R_below (by (with_reducible repeat (first | apply Kd.R_alloc | apply Kd.R_drewN | apply Kd.R_drew)); exact HO228.out) hb); have n2_ := ak (blk_below (g := gb220) (o := .cells #[.slice A0_0 l0_0.length c0_0, .slice A0_1 l0_1.length c0_1] 25 (0, 0)) (by (with_reducible repeat first | apply kn_ | apply kd_ | apply ka_); exact BK220.out) hb); have n3_ := ak (blk_below (g := gb233) (o := .cells #[.int .i64 t221, .int .i64 t222, .slice Ao11 t223.length co11, .slice Ao12 t226.length co12, .bool t229, .bool t230, .bool t231] 28 (0, 0)) (by (with_reducible repeat first | apply kn_ | apply kd_ | apply ka_); exact BK233.out) hb); have n4_ := ak (below_step (by repeat (first | (with_reducible first | exact HB.out | apply ba_ | apply bn_ | apply b1_ | refine bs_ ?_ GE220.out | refine bs_ ?_ GE233.out) | exact HB.out)) hb); clear HO225; clear HO228; clear BK220; clear BK233; clear HB; have HO225 := n0_; have HO228 := n1_; have BK220 := n2_; have BK233 := n3_; have HB := n4_; clear n0_ n1_ n2_ n3_ n4_; (try clear hb); (try clear hb2); (try clear hk); (try clear hi); (try clear A16)))
    go_meet
    case rel => exact ⟨_, (!t235), (by first | rfl | (simp; done) | (simp [*]; done) | (simp [Int.tdiv_eq_ediv_of_nonneg]; done)), H', ⟨by first | omega | exact Nat.le_refl _⟩, ⟨by (with_reducible repeat (first | apply Kd.R_alloc | apply Kd.R_drewN | apply Kd.R_drew)); exact HO225.out⟩, ⟨by (with_reducible repeat (first | apply Kd.R_alloc | apply Kd.R_drewN | apply Kd.R_drew)); exact HO228.out⟩, ⟨by (with_reducible repeat first | apply kn_ | apply kd_ | apply ka_); exact BK220.out⟩, ⟨by (with_reducible repeat first | apply kn_ | apply kd_ | apply ka_); exact BK233.out⟩, ⟨by repeat (first | (with_reducible first | exact HB.out | apply ba_ | apply bn_ | apply b1_ | refine bs_ ?_ GE220.out | refine bs_ ?_ GE233.out) | exact HB.out)⟩⟩
   ·rw [if_neg c15] at H
    have c15b0 : (t232 == 0) = false := beq_eq_false_iff_ne.mpr c15
    have c15b1 : (t232 != 0) = true := bne_iff_ne.mpr c15
    (first | rw [c15b0] | (simp only [i64_w, i32_w]; rw [c15b0]) | skip)
    have H' := ak H
    clear H
    go_wp2_with (first | ((with_reducible refine gate_callee (f := 10) rfl ?_); refine goesL_ (some 21) rfl rfl Try.func10 (by kernel_rfl) rfl #[] rfl (by (try simp only [List.map_toArray, List.map_cons, List.map_nil]); first | done | rfl | (simp only [List.length_drop, List.length_take]; rfl)) ?_; (with_reducible refine (atticlaw19_live.calls k  true _ A13.out).mono ?_); rintro e w21 ⟨rfl, hb⟩; refine ⟨_, rfl, ?_⟩; have n0_ := ak (Kd.R_below (by (with_reducible repeat (first | apply Kd.R_alloc | apply Kd.R_drewN | apply Kd.R_drew)); exact (Kd.R_mono (Kd.R_far (p := ⟨gb233, 6, none⟩) (Kd.R_far (p := ⟨gb233, 5, none⟩) (Kd.R_far (p := ⟨gb233, 4, none⟩) (Kd.R_far (p := ⟨gb233, 3, none⟩) (Kd.R_far (p := ⟨gb233, 2, none⟩) (Kd.R_far (p := ⟨gb233, 1, none⟩) (Kd.R_far (p := ⟨gb233, 0, none⟩) (Kd.R_types HO225.out BK233.out (by decide)) (fun _ hk => hk.2) (.int .i64 t221)) (fun _ hk => hk.2) (.int .i64 t222)) (fun _ hk => hk.2) (.slice Ao11 t223.length co11)) (fun _ hk => hk.2) (.slice Ao12 t226.length co12)) (fun _ hk => hk.2) (.bool t229)) (fun _ hk => hk.2) (.bool t230)) (fun _ hk => hk.2) (.bool t231)) (fun _ h_ => h_.1))) hb); have n1_ := ak (Kd.R_below (by (with_reducible repeat (first | apply Kd.R_alloc | apply Kd.R_drewN | apply Kd.R_drew)); exact (Kd.R_mono (Kd.R_far (p := ⟨gb233, 6, none⟩) (Kd.R_far (p := ⟨gb233, 5, none⟩) (Kd.R_far (p := ⟨gb233, 4, none⟩) (Kd.R_far (p := ⟨gb233, 3, none⟩) (Kd.R_far (p := ⟨gb233, 2, none⟩) (Kd.R_far (p := ⟨gb233, 1, none⟩) (Kd.R_far (p := ⟨gb233, 0, none⟩) (Kd.R_types HO228.out BK233.out (by decide)) (fun _ hk => hk.2) (.int .i64 t221)) (fun _ hk => hk.2) (.int .i64 t222)) (fun _ hk => hk.2) (.slice Ao11 t223.length co11)) (fun _ hk => hk.2) (.slice Ao12 t226.length co12)) (fun _ hk => hk.2) (.bool t229)) (fun _ hk => hk.2) (.bool t230)) (fun _ hk => hk.2) (.bool t231)) (fun _ h_ => h_.1))) hb); have n2_ := ak (blk_below (g := gb220) (o := .cells #[.slice A0_0 l0_0.length c0_0, .slice A0_1 l0_1.length c0_1] 25 (0, 0)) (by (with_reducible repeat first | apply kn_ | apply kd_ | apply ka_); refine blk_far ?_ NB220_233.out _; (with_reducible repeat first | apply kn_ | apply kd_ | apply ka_); refine blk_far ?_ NB220_233.out _; (with_reducible repeat first | apply kn_ | apply kd_ | apply ka_); refine blk_far ?_ NB220_233.out _; (with_reducible repeat first | apply kn_ | apply kd_ | apply ka_); refine blk_far ?_ NB220_233.out _; (with_reducible repeat first | apply kn_ | apply kd_ | apply ka_); refine blk_far ?_ NB220_233.out _; (with_reducible repeat first | apply kn_ | apply kd_ | apply ka_); refine blk_far ?_ NB220_233.out _; (with_reducible repeat first | apply kn_ | apply kd_ | apply ka_); refine blk_far ?_ NB220_233.out _; (with_reducible repeat first | apply kn_ | apply kd_ | apply ka_); exact BK220.out) hb); have n3_ := ak (blk_below (g := gb233) (o := .cells #[.int .i64 t221, .int .i64 t222, .slice Ao11 t223.length co11, .slice Ao12 t226.length co12, .bool t229, .bool t230, .bool t231] 28 (0, 0)) (by (with_reducible repeat first | apply kn_ | apply kd_ | apply ka_); refine blk_put (cs := #[.int .i64 t221, .int .i64 t222, .slice Ao11 t223.length co11, .slice Ao12 t226.length co12, .bool t229, .bool t230, .bool false]) ?_ 6 _ rfl; (with_reducible repeat first | apply kn_ | apply kd_ | apply ka_); refine blk_put (cs := #[.int .i64 t221, .int .i64 t222, .slice Ao11 t223.length co11, .slice Ao12 t226.length co12, .bool t229, .bool false, .bool false]) ?_ 5 _ rfl; (with_reducible repeat first | apply kn_ | apply kd_ | apply ka_); refine blk_put (cs := #[.int .i64 t221, .int .i64 t222, .slice Ao11 t223.length co11, .slice Ao12 t226.length co12, .bool false, .bool false, .bool false]) ?_ 4 _ rfl; (with_reducible repeat first | apply kn_ | apply kd_ | apply ka_); refine blk_put (cs := #[.int .i64 t221, .int .i64 t222, .slice Ao11 t223.length co11, .slice none 0 0, .bool false, .bool false, .bool false]) ?_ 3 _ rfl; (with_reducible repeat first | apply kn_ | apply kd_ | apply ka_); refine blk_put (cs := #[.int .i64 t221, .int .i64 t222, .slice none 0 0, .slice none 0 0, .bool false, .bool false, .bool false]) ?_ 2 _ rfl; (with_reducible repeat first | apply kn_ | apply kd_ | apply ka_); refine blk_put (cs := #[.int .i64 t221, .int .i64 0, .slice none 0 0, .slice none 0 0, .bool false, .bool false, .bool false]) ?_ 1 _ rfl; (with_reducible repeat first | apply kn_ | apply kd_ | apply ka_); refine blk_put (cs := #[.int .i64 0, .int .i64 0, .slice none 0 0, .slice none 0 0, .bool false, .bool false, .bool false]) ?_ 0 _ rfl; (with_reducible repeat first | apply kn_ | apply kd_ | apply ka_); exact BK233.out) hb); have n4_ := ak (below_step (by repeat (first | (with_reducible first | exact HB.out | apply ba_ | apply bn_ | apply b1_ | refine bs_ ?_ GE220.out | refine bs_ ?_ GE233.out) | exact HB.out)) hb); clear HO225; clear HO228; clear BK220; clear BK233; clear HB; have HO225 := n0_; have HO228 := n1_; have BK220 := n2_; have BK233 := n3_; have HB := n4_; clear n0_ n1_ n2_ n3_ n4_; (try clear hb); (try clear hb2); (try clear hk); (try clear hi); (try clear A13)))
    go_meet
    case rel => exact ⟨_, (true), (by first | rfl | (simp; done) | (simp [*]; done) | (simp [Int.tdiv_eq_ediv_of_nonneg]; done)), H', ⟨by first | omega | exact Nat.le_refl _⟩, ⟨by (with_reducible repeat (first | apply Kd.R_alloc | apply Kd.R_drewN | apply Kd.R_drew)); exact HO225.out⟩, ⟨by (with_reducible repeat (first | apply Kd.R_alloc | apply Kd.R_drewN | apply Kd.R_drew)); exact HO228.out⟩, ⟨by (with_reducible repeat first | apply kn_ | apply kd_ | apply ka_); exact BK220.out⟩, ⟨by (with_reducible repeat first | apply kn_ | apply kd_ | apply ka_); exact BK233.out⟩, ⟨by repeat (first | (with_reducible first | exact HB.out | apply ba_ | apply bn_ | apply b1_ | refine bs_ ?_ GE220.out | refine bs_ ?_ GE233.out) | exact HB.out)⟩⟩
  ·replace c14 := Bool.eq_false_iff.mpr c14
   subst c14
   have H1 : (atticlaw19_MarkBlack.j0 k (wrap64 (1 + (wrap64 (a1)))) t232 true l0_0 l0_1 t221 t222 t223 t226 t229 t230 t231) = some r := by rw [if_neg (show ¬ (false = true) by decide)] at H; exact H
   clear H
   have H := H1
   clear H1
   have H' := ak H
   clear H
   go_wp2_with (first | ((with_reducible refine gate_callee (f := 10) rfl ?_); refine goesL_ (some 21) rfl rfl Try.func10 (by kernel_rfl) rfl #[] rfl (by (try simp only [List.map_toArray, List.map_cons, List.map_nil]); first | done | rfl | (simp only [List.length_drop, List.length_take]; rfl)) ?_; (with_reducible refine (atticlaw19_live.calls k  false _ A13.out).mono ?_); rintro e w22 ⟨rfl, hb⟩; refine ⟨_, rfl, ?_⟩; have n0_ := ak (Kd.R_below (by (with_reducible repeat (first | apply Kd.R_alloc | apply Kd.R_drewN | apply Kd.R_drew)); exact (Kd.R_mono (Kd.R_far (p := ⟨gb233, 6, none⟩) (Kd.R_far (p := ⟨gb233, 5, none⟩) (Kd.R_far (p := ⟨gb233, 4, none⟩) (Kd.R_far (p := ⟨gb233, 3, none⟩) (Kd.R_far (p := ⟨gb233, 2, none⟩) (Kd.R_far (p := ⟨gb233, 1, none⟩) (Kd.R_far (p := ⟨gb233, 0, none⟩) (Kd.R_types HO225.out BK233.out (by decide)) (fun _ hk => hk.2) (.int .i64 t221)) (fun _ hk => hk.2) (.int .i64 t222)) (fun _ hk => hk.2) (.slice Ao11 t223.length co11)) (fun _ hk => hk.2) (.slice Ao12 t226.length co12)) (fun _ hk => hk.2) (.bool t229)) (fun _ hk => hk.2) (.bool t230)) (fun _ hk => hk.2) (.bool t231)) (fun _ h_ => h_.1))) hb); have n1_ := ak (Kd.R_below (by (with_reducible repeat (first | apply Kd.R_alloc | apply Kd.R_drewN | apply Kd.R_drew)); exact (Kd.R_mono (Kd.R_far (p := ⟨gb233, 6, none⟩) (Kd.R_far (p := ⟨gb233, 5, none⟩) (Kd.R_far (p := ⟨gb233, 4, none⟩) (Kd.R_far (p := ⟨gb233, 3, none⟩) (Kd.R_far (p := ⟨gb233, 2, none⟩) (Kd.R_far (p := ⟨gb233, 1, none⟩) (Kd.R_far (p := ⟨gb233, 0, none⟩) (Kd.R_types HO228.out BK233.out (by decide)) (fun _ hk => hk.2) (.int .i64 t221)) (fun _ hk => hk.2) (.int .i64 t222)) (fun _ hk => hk.2) (.slice Ao11 t223.length co11)) (fun _ hk => hk.2) (.slice Ao12 t226.length co12)) (fun _ hk => hk.2) (.bool t229)) (fun _ hk => hk.2) (.bool t230)) (fun _ hk => hk.2) (.bool t231)) (fun _ h_ => h_.1))) hb); have n2_ := ak (blk_below (g := gb220) (o := .cells #[.slice A0_0 l0_0.length c0_0, .slice A0_1 l0_1.length c0_1] 25 (0, 0)) (by (with_reducible repeat first | apply kn_ | apply kd_ | apply ka_); refine blk_far ?_ NB220_233.out _; (with_reducible repeat first | apply kn_ | apply kd_ | apply ka_); refine blk_far ?_ NB220_233.out _; (with_reducible repeat first | apply kn_ | apply kd_ | apply ka_); refine blk_far ?_ NB220_233.out _; (with_reducible repeat first | apply kn_ | apply kd_ | apply ka_); refine blk_far ?_ NB220_233.out _; (with_reducible repeat first | apply kn_ | apply kd_ | apply ka_); refine blk_far ?_ NB220_233.out _; (with_reducible repeat first | apply kn_ | apply kd_ | apply ka_); refine blk_far ?_ NB220_233.out _; (with_reducible repeat first | apply kn_ | apply kd_ | apply ka_); refine blk_far ?_ NB220_233.out _; (with_reducible repeat first | apply kn_ | apply kd_ | apply ka_); exact BK220.out) hb); have n3_ := ak (blk_below (g := gb233) (o := .cells #[.int .i64 t221, .int .i64 t222, .slice Ao11 t223.length co11, .slice Ao12 t226.length co12, .bool t229, .bool t230, .bool t231] 28 (0, 0)) (by (with_reducible repeat first | apply kn_ | apply kd_ | apply ka_); refine blk_put (cs := #[.int .i64 t221, .int .i64 t222, .slice Ao11 t223.length co11, .slice Ao12 t226.length co12, .bool t229, .bool t230, .bool false]) ?_ 6 _ rfl; (with_reducible repeat first | apply kn_ | apply kd_ | apply ka_); refine blk_put (cs := #[.int .i64 t221, .int .i64 t222, .slice Ao11 t223.length co11, .slice Ao12 t226.length co12, .bool t229, .bool false, .bool false]) ?_ 5 _ rfl; (with_reducible repeat first | apply kn_ | apply kd_ | apply ka_); refine blk_put (cs := #[.int .i64 t221, .int .i64 t222, .slice Ao11 t223.length co11, .slice Ao12 t226.length co12, .bool false, .bool false, .bool false]) ?_ 4 _ rfl; (with_reducible repeat first | apply kn_ | apply kd_ | apply ka_); refine blk_put (cs := #[.int .i64 t221, .int .i64 t222, .slice Ao11 t223.length co11, .slice none 0 0, .bool false, .bool false, .bool false]) ?_ 3 _ rfl; (with_reducible repeat first | apply kn_ | apply kd_ | apply ka_); refine blk_put (cs := #[.int .i64 t221, .int .i64 t222, .slice none 0 0, .slice none 0 0, .bool false, .bool false, .bool false]) ?_ 2 _ rfl; (with_reducible repeat first | apply kn_ | apply kd_ | apply ka_); refine blk_put (cs := #[.int .i64 t221, .int .i64 0, .slice none 0 0, .slice none 0 0, .bool false, .bool false, .bool false]) ?_ 1 _ rfl; (with_reducible repeat first | apply kn_ | apply kd_ | apply ka_); refine blk_put (cs := #[.int .i64 0, .int .i64 0, .slice none 0 0, .slice none 0 0, .bool false, .bool false, .bool false]) ?_ 0 _ rfl; (with_reducible repeat first | apply kn_ | apply kd_ | apply ka_); exact BK233.out) hb); have n4_ := ak (below_step (by repeat (first | (with_reducible first | exact HB.out | apply ba_ | apply bn_ | apply b1_ | refine bs_ ?_ GE220.out | refine bs_ ?_ GE233.out) | exact HB.out)) hb); clear HO225; clear HO228; clear BK220; clear BK233; clear HB; have HO225 := n0_; have HO228 := n1_; have BK220 := n2_; have BK233 := n3_; have HB := n4_; clear n0_ n1_ n2_ n3_ n4_; (try clear hb); (try clear hb2); (try clear hk); (try clear hi); (try clear A13)))
   go_meet
   case rel => exact ⟨_, (true), (by first | rfl | (simp; done) | (simp [*]; done) | (simp [Int.tdiv_eq_ediv_of_nonneg]; done)), H', ⟨by first | omega | exact Nat.le_refl _⟩, ⟨by (with_reducible repeat (first | apply Kd.R_alloc | apply Kd.R_drewN | apply Kd.R_drew)); exact HO225.out⟩, ⟨by (with_reducible repeat (first | apply Kd.R_alloc | apply Kd.R_drewN | apply Kd.R_drew)); exact HO228.out⟩, ⟨by (with_reducible repeat first | apply kn_ | apply kd_ | apply ka_); exact BK220.out⟩, ⟨by (with_reducible repeat first | apply kn_ | apply kd_ | apply ka_); exact BK233.out⟩, ⟨by repeat (first | (with_reducible first | exact HB.out | apply ba_ | apply bn_ | apply b1_ | refine bs_ ?_ GE220.out | refine bs_ ?_ GE233.out) | exact HB.out)⟩⟩
 case rest =>
  clear HC4
  (try clear c1); (try clear p2); (try clear p6); (try clear c9); (try clear c10); (try clear c14); (try clear c15); (try clear c15b0); (try clear c15b1); (try clear c18); (try clear hcz10_0); (try clear hcz10_1); (try clear hcz10_2); (try clear hcz10_3); (try clear hcz10_4); (try clear hcz10_5); (try clear hcz10_6); (try clear hcz19_0); (try clear hcz19_1); (try clear hcz6_0); (try clear hcz6_1); (try clear hfz10_0); (try clear hfz10_1); (try clear hfz10_2); (try clear hfz10_3); (try clear hfz10_4); (try clear hfz10_5); (try clear hfz10_6); (try clear hfz19_0); (try clear hfz19_1); (try clear hfz6_0); (try clear hfz6_1)
  obtain ⟨kq, x31_3, rfl, HA, HJ3, HO_234002, HO_234003, BK220, BK233, HB⟩ := hcut
  cases kq with
  | zero => exact absurd HA.out (by simp [atticlaw19_MarkBlack.j0])
  | succ kj3 =>
   have H := HA.out
   clear HA
   simp only [atticlaw19_MarkBlack.j0] at H
   by_cases c23 : x31_3 = true
   ·subst c23
    have H1 : ((atticlaw19_live.f kj3).bind fun t236 => (if t236 = true then (if t232 = 0 then (some true) else ((atticref19_CheckView.f kj3 l0_0 l0_1).bind fun t237 => (some (t237 == t232)))) else (some false))) = some r := by rw [if_pos rfl] at H; exact H
    clear H
    have H := H1
    clear H1
    replace H := Option.bind_eq_some_iff.mp H
    obtain ⟨t236, A240, H⟩ := H
    replace H : (if t236 = true then (if t232 = 0 then (some true) else ((atticref19_CheckView.f kj3 l0_0 l0_1).bind fun t237 => (some (t237 == t232)))) else (some false)) = some r := H
    have A24 := ak A240
    clear A240
    by_cases c25 : t236 = true
    ·subst c25
     have H1 : (if t232 = 0 then (some true) else ((atticref19_CheckView.f kj3 l0_0 l0_1).bind fun t237 => (some (t237 == t232)))) = some r := by rw [if_pos rfl] at H; exact H
     clear H
     have H := H1
     clear H1
     by_cases c26 : t232 = 0
     ·rw [if_pos c26] at H
      have c26b0 : (t232 == 0) = true := beq_iff_eq.mpr c26
      have c26b1 : (t232 != 0) = false := bne_eq_false_iff_eq.mpr c26
      clear c26
      obtain rfl := Option.some.inj H
      go_wp2_with (first | ((with_reducible refine gate_callee (f := 10) rfl ?_); refine goesL_ (some 32) rfl rfl Try.func10 (by kernel_rfl) rfl #[] rfl (by (try simp only [List.map_toArray, List.map_cons, List.map_nil]); first | done | rfl | (simp only [List.length_drop, List.length_take]; rfl)) ?_; (with_reducible refine (atticlaw19_live.calls kj3  true _ A24.out).mono ?_); rintro e w27 ⟨rfl, hb⟩; refine ⟨_, rfl, ?_⟩; have n0_ := ak (Kd.R_below (by (with_reducible repeat (first | apply Kd.R_alloc | apply Kd.R_drewN | apply Kd.R_drew)); exact HO_234002.out) hb); have n1_ := ak (Kd.R_below (by (with_reducible repeat (first | apply Kd.R_alloc | apply Kd.R_drewN | apply Kd.R_drew)); exact HO_234003.out) hb); have n2_ := ak (blk_below (g := gb220) (o := .cells #[.slice A0_0 l0_0.length c0_0, .slice A0_1 l0_1.length c0_1] 25 (0, 0)) (by (with_reducible repeat first | apply kn_ | apply kd_ | apply ka_); exact BK220.out) hb); have n3_ := ak (blk_below (g := gb233) (o := .cells #[.int .i64 t221, .int .i64 t222, .slice Ao11 t223.length co11, .slice Ao12 t226.length co12, .bool t229, .bool t230, .bool t231] 28 (0, 0)) (by (with_reducible repeat first | apply kn_ | apply kd_ | apply ka_); exact BK233.out) hb); have n4_ := ak (below_step (by repeat (first | (with_reducible first | exact HB.out | apply ba_ | apply bn_ | apply b1_ | refine bs_ ?_ GE220.out | refine bs_ ?_ GE233.out) | exact HB.out)) hb); clear HO_234002; clear HO_234003; clear BK220; clear BK233; clear HB; have HO_234002 := n0_; have HO_234003 := n1_; have BK220 := n2_; have BK233 := n3_; have HB := n4_; clear n0_ n1_ n2_ n3_ n4_; (try clear hb); (try clear hb2); (try clear hk); (try clear hi); (try clear A24)))
      go_ret
      exact ⟨by first | rfl | (simp [errW_none, errW_some] <;> rfl) | (simp [*, errW_none, errW_some] <;> rfl) | (simp [Int.tdiv_eq_ediv_of_nonneg]; done), by repeat (first | (with_reducible first | exact HB.out | apply ba_ | apply bn_ | apply b1_ | refine bs_ ?_ GE220.out | refine bs_ ?_ GE233.out) | exact HB.out)⟩
     ·rw [if_neg c26] at H
      have c26b0 : (t232 == 0) = false := beq_eq_false_iff_ne.mpr c26
      have c26b1 : (t232 != 0) = true := bne_iff_ne.mpr c26
      replace H := Option.bind_eq_some_iff.mp H
      obtain ⟨t237, A280, H⟩ := H
      replace H : (some (t237 == t232)) = some r := H
      have A28 := ak A280
      clear A280
      obtain rfl := Option.some.inj H
      go_wp2_with (first | ((with_reducible refine gate_callee (f := 10) rfl ?_); refine goesL_ (some 32) rfl rfl Try.func10 (by kernel_rfl) rfl #[] rfl (by (try simp only [List.map_toArray, List.map_cons, List.map_nil]); first | done | rfl | (simp only [List.length_drop, List.length_take]; rfl)) ?_; (with_reducible refine (atticlaw19_live.calls kj3  true _ A24.out).mono ?_); rintro e w29 ⟨rfl, hb⟩; refine ⟨_, rfl, ?_⟩; have n0_ := ak (Kd.R_below (by (with_reducible repeat (first | apply Kd.R_alloc | apply Kd.R_drewN | apply Kd.R_drew)); exact HO_234002.out) hb); have n1_ := ak (Kd.R_below (by (with_reducible repeat (first | apply Kd.R_alloc | apply Kd.R_drewN | apply Kd.R_drew)); exact HO_234003.out) hb); have n2_ := ak (blk_below (g := gb220) (o := .cells #[.slice A0_0 l0_0.length c0_0, .slice A0_1 l0_1.length c0_1] 25 (0, 0)) (by (with_reducible repeat first | apply kn_ | apply kd_ | apply ka_); exact BK220.out) hb); have n3_ := ak (blk_below (g := gb233) (o := .cells #[.int .i64 t221, .int .i64 t222, .slice Ao11 t223.length co11, .slice Ao12 t226.length co12, .bool t229, .bool t230, .bool t231] 28 (0, 0)) (by (with_reducible repeat first | apply kn_ | apply kd_ | apply ka_); exact BK233.out) hb); have n4_ := ak (below_step (by repeat (first | (with_reducible first | exact HB.out | apply ba_ | apply bn_ | apply b1_ | refine bs_ ?_ GE220.out | refine bs_ ?_ GE233.out) | exact HB.out)) hb); clear HO_234002; clear HO_234003; clear BK220; clear BK233; clear HB; have HO_234002 := n0_; have HO_234003 := n1_; have BK220 := n2_; have BK233 := n3_; have HB := n4_; clear n0_ n1_ n2_ n3_ n4_; (try clear hb); (try clear hb2); (try clear hk); (try clear hi); (try clear A24); have hnb30 := NB220_233.out; have hnc30 := NB233_220.out; obtain ⟨hcz31_0, hcz31_1, hfz31_0, hfz31_1⟩ := kk2 BK220.out) | (go_at_call 17; (with_reducible refine (atticref19_CheckView.calls kj3 _ _ l0_0 _ _ l0_1 t237 _ ?side1 ?side2 ?side3 ?side4 A28.out).mono ?_); (case side1 => repeat (first | exact (Kd.C_below HR0_0.out HB.out) | (with_reducible refine Kd.C_alloc ?_ _) | (with_reducible refine Kd.C_drewN ?_ _) | (with_reducible refine Kd.C_drew ?_))); (case side2 => exact HC0_0.out); (case side3 => repeat (first | exact (Kd.C_below HR0_1.out HB.out) | (with_reducible refine Kd.C_alloc ?_ _) | (with_reducible refine Kd.C_drewN ?_ _) | (with_reducible refine Kd.C_drew ?_))); (case side4 => exact HC0_1.out); rintro e w32 ⟨rfl, hb⟩; have n0_ := ak (Kd.R_below (by (with_reducible repeat (first | apply Kd.R_alloc | apply Kd.R_drewN | apply Kd.R_drew)); exact HO_234002.out) hb); have n1_ := ak (Kd.R_below (by (with_reducible repeat (first | apply Kd.R_alloc | apply Kd.R_drewN | apply Kd.R_drew)); exact HO_234003.out) hb); have n2_ := ak (blk_below (g := gb220) (o := .cells #[.slice A0_0 l0_0.length c0_0, .slice A0_1 l0_1.length c0_1] 25 (0, 0)) (by (with_reducible repeat first | apply kn_ | apply kd_ | apply ka_); exact BK220.out) hb); have n3_ := ak (blk_below (g := gb233) (o := .cells #[.int .i64 t221, .int .i64 t222, .slice Ao11 t223.length co11, .slice Ao12 t226.length co12, .bool t229, .bool t230, .bool t231] 28 (0, 0)) (by (with_reducible repeat first | apply kn_ | apply kd_ | apply ka_); exact BK233.out) hb); have n4_ := ak (below_step (by repeat (first | (with_reducible first | exact HB.out | apply ba_ | apply bn_ | apply b1_ | refine bs_ ?_ GE220.out | refine bs_ ?_ GE233.out) | exact HB.out)) hb); clear HO_234002; clear HO_234003; clear BK220; clear BK233; clear HB; have HO_234002 := n0_; have HO_234003 := n1_; have BK220 := n2_; have BK233 := n3_; have HB := n4_; clear n0_ n1_ n2_ n3_ n4_; (try clear hb); (try clear hb2); (try clear hk); (try clear hi); (try clear A28)))
      go_ret
      exact ⟨by first | rfl | (simp [errW_none, errW_some] <;> rfl) | (simp [*, errW_none, errW_some] <;> rfl) | (simp [Int.tdiv_eq_ediv_of_nonneg]; done), by repeat (first | (with_reducible first | exact HB.out | apply ba_ | apply bn_ | apply b1_ | refine bs_ ?_ GE220.out | refine bs_ ?_ GE233.out) | exact HB.out)⟩
    ·replace c25 := Bool.eq_false_iff.mpr c25
     subst c25
     have H1 : (some false) = some r := by rw [if_neg (show ¬ (false = true) by decide)] at H; exact H
     clear H
     have H := H1
     clear H1
     exact absurd (Option.some.inj H) (by rw [hrt_.out]; decide)
   ·replace c23 := Bool.eq_false_iff.mpr c23
    subst c23
    have H1 : ((mark_Bound.f l0_0 l0_1).bind fun t238 => (atticlaw19_MarkBlack.l0 kj3 (wrap64 (1 + (wrap64 (a1)))) t238 0 l0_0 l0_1 t221 t222 t223 t226 t229 t230 t231)) = some r := by rw [if_neg (show ¬ (false = true) by decide)] at H; exact H
    clear H
    have H := H1
    clear H1
    replace H := Option.bind_eq_some_iff.mp H
    obtain ⟨t238, A330, H⟩ := H
    replace H : (atticlaw19_MarkBlack.l0 kj3 (wrap64 (1 + (wrap64 (a1)))) t238 0 l0_0 l0_1 t221 t222 t223 t226 t229 t230 t231) = some r := H
    have A33 := ak A330
    clear A330
    have H' := ak H
    clear H
    have hnb34 := NB220_233.out
    have hnc34 := NB233_220.out
    obtain ⟨hcz35_0, hcz35_1, hfz35_0, hfz35_1⟩ := kk2 BK220.out
    go_wp2_with (first | ((with_reducible refine gate_callee (f := 21) rfl ?_); refine goesL_ (some 44) rfl rfl Try.func21 (by kernel_rfl) rfl #[.agg #[.slice A0_0 l0_0.length c0_0, .slice A0_1 l0_1.length c0_1]] rfl (by (try simp only [List.map_toArray, List.map_cons, List.map_nil]); first | done | rfl | (simp only [List.length_drop, List.length_take]; rfl)) ?_; (with_reducible refine (mark_Bound.calls _ _ l0_0 _ _ l0_1 t238 _ ?side1 ?side2 ?side3 ?side4 A33.out).mono ?_); (case side1 => repeat (first | exact (Kd.C_below HR0_0.out HB.out) | (with_reducible refine Kd.C_alloc ?_ _) | (with_reducible refine Kd.C_drewN ?_ _) | (with_reducible refine Kd.C_drew ?_))); (case side2 => exact HC0_0.out); (case side3 => repeat (first | exact (Kd.C_below HR0_1.out HB.out) | (with_reducible refine Kd.C_alloc ?_ _) | (with_reducible refine Kd.C_drewN ?_ _) | (with_reducible refine Kd.C_drew ?_))); (case side4 => exact HC0_1.out); rintro e w36 ⟨rfl, hb⟩; refine ⟨_, rfl, ?_⟩; have n0_ := ak (Kd.R_below (by (with_reducible repeat (first | apply Kd.R_alloc | apply Kd.R_drewN | apply Kd.R_drew)); exact HO_234002.out) hb); have n1_ := ak (Kd.R_below (by (with_reducible repeat (first | apply Kd.R_alloc | apply Kd.R_drewN | apply Kd.R_drew)); exact HO_234003.out) hb); have n2_ := ak (blk_below (g := gb220) (o := .cells #[.slice A0_0 l0_0.length c0_0, .slice A0_1 l0_1.length c0_1] 25 (0, 0)) (by (with_reducible repeat first | apply kn_ | apply kd_ | apply ka_); exact BK220.out) hb); have n3_ := ak (blk_below (g := gb233) (o := .cells #[.int .i64 t221, .int .i64 t222, .slice Ao11 t223.length co11, .slice Ao12 t226.length co12, .bool t229, .bool t230, .bool t231] 28 (0, 0)) (by (with_reducible repeat first | apply kn_ | apply kd_ | apply ka_); exact BK233.out) hb); have n4_ := ak (below_step (by repeat (first | (with_reducible first | exact HB.out | apply ba_ | apply bn_ | apply b1_ | refine bs_ ?_ GE220.out | refine bs_ ?_ GE233.out) | exact HB.out)) hb); clear HO_234002; clear HO_234003; clear BK220; clear BK233; clear HB; have HO_234002 := n0_; have HO_234003 := n1_; have BK220 := n2_; have BK233 := n3_; have HB := n4_; clear n0_ n1_ n2_ n3_ n4_; (try clear hb); (try clear hb2); (try clear hk); (try clear hi); (try clear A33)))
    go_loopg [45] kj3 (fun kq v45 w' => ∃ (x45_2 : Int) (x234000_2 : Int) (x234001_2 : Int) (x234002_2 : List Bool) (x234003_2 : List Int) (x234004_2 : Bool) (x234005_2 : Bool) (x234006_2 : Bool) (u234002 : Value) (u234003 : Value), v45 = .int .i64 x45_2 ∧ Aside0 (atticlaw19_MarkBlack.l0 kq (wrap64 (1 + (wrap64 (a1)))) t238 x45_2 l0_0 l0_1 x234000_2 x234001_2 x234002_2 x234003_2 x234004_2 x234005_2 x234006_2 = some r) ∧ Aside0 (kq ≤ kj3) ∧ Aside0 (Kd.R Kd.bool 4 w' w.heap.size (fun _ => True) u234002 x234002_2) ∧ Aside0 (Kd.R (Kd.int .i64) 3 w' w.heap.size (fun _ => True) u234003 x234003_2) ∧ Aside0 (w'.heap[gb220]? = some (.cells #[(.slice A0_0 l0_0.length c0_0), (.slice A0_1 l0_1.length c0_1)] 25 (0, 0))) ∧ Aside0 (w'.heap[gb233]? = some (.cells #[.int .i64 x234000_2, .int .i64 x234001_2, u234002, u234003, .bool x234004_2, .bool x234005_2, .bool x234006_2] 28 (0, 0))) ∧ Aside0 (Below w.heap.size w w'))
    case atStart => exact ⟨(0), (t221), (t222), (t223), (t226), (t229), (t230), (t231), (.slice Ao11 t223.length co11), (.slice Ao12 t226.length co12), (by first | rfl | (simp; done) | (simp [*]; done) | (simp [Int.tdiv_eq_ediv_of_nonneg]; done)), H', ⟨Nat.le_refl _⟩, ⟨by (with_reducible repeat (first | apply Kd.R_alloc | apply Kd.R_drewN | apply Kd.R_drew)); exact HO_234002.out⟩, ⟨by (with_reducible repeat (first | apply Kd.R_alloc | apply Kd.R_drewN | apply Kd.R_drew)); exact HO_234003.out⟩, ⟨by (with_reducible repeat first | apply kn_ | apply kd_ | apply ka_); exact BK220.out⟩, ⟨by (with_reducible repeat first | apply kn_ | apply kd_ | apply ka_); exact BK233.out⟩, ⟨by repeat (first | (with_reducible first | exact HB.out | apply ba_ | apply bn_ | apply b1_ | refine bs_ ?_ GE220.out | refine bs_ ?_ GE233.out) | exact HB.out)⟩⟩
    case round =>
     clear H'
     (try clear c1); (try clear c2); (try clear p2); (try clear c3); (try clear p6); (try clear c9); (try clear c10); (try clear c14); (try clear c15); (try clear c15b0); (try clear c15b1); (try clear c18); (try clear c21); (try clear c23); (try clear c25); (try clear c26); (try clear c26b0); (try clear c26b1); (try clear c30); (try clear c34); (try clear hcz10_0); (try clear hcz10_1); (try clear hcz10_2); (try clear hcz10_3); (try clear hcz10_4); (try clear hcz10_5); (try clear hcz10_6); (try clear hcz19_0); (try clear hcz19_1); (try clear hcz31_0); (try clear hcz31_1); (try clear hcz35_0); (try clear hcz35_1); (try clear hcz6_0); (try clear hcz6_1); (try clear hfz10_0); (try clear hfz10_1); (try clear hfz10_2); (try clear hfz10_3); (try clear hfz10_4); (try clear hfz10_5); (try clear hfz10_6); (try clear hfz19_0); (try clear hfz19_1); (try clear hfz31_0); (try clear hfz31_1); (try clear hfz35_0); (try clear hfz35_1); (try clear hfz6_0); (try clear hfz6_1); (try clear p2); (try clear p6)
     obtain ⟨x45_2, x234000_2, x234001_2, x234002_2, x234003_2, x234004_2, x234005_2, x234006_2, u234002, u234003, rfl, HA, HK2, HO_234002, HO_234003, BK220, BK233, HB⟩ := hrel
     cases gk with
     | zero => exact absurd HA.out (by simp [atticlaw19_MarkBlack.l0])
     | succ k2 =>
      have H := HA.out
      clear HA
      simp only [atticlaw19_MarkBlack.l0] at H
      by_cases c37 : x45_2 < t238
      ·rw [if_pos c37] at H
       have c37b0 : decide (x45_2 < t238) = true := decide_eq_true c37
       clear c37
       have HC38 := ak H
       clear H
       go_upto_region 7 with (fail)
       go_cut [57] (fun v57 wc => ∃ (kq : Nat) (x57_37 : Bool), v57 = .bool x57_37 ∧ Aside0 (atticlaw19_MarkBlack.j2 kq (wrap64 (1 + (wrap64 (a1)))) t238 x45_2 x57_37 l0_0 l0_1 x234000_2 x234001_2 x234002_2 x234003_2 x234004_2 x234005_2 x234006_2 = some r) ∧ Aside0 (kq ≤ k2) ∧ Aside0 (Kd.R Kd.bool 4 wc w.heap.size (fun _ => True) u234002 x234002_2) ∧ Aside0 (Kd.R (Kd.int .i64) 3 wc w.heap.size (fun _ => True) u234003 x234003_2) ∧ Aside0 (wc.heap[gb220]? = some (.cells #[(.slice A0_0 l0_0.length c0_0), (.slice A0_1 l0_1.length c0_1)] 25 (0, 0))) ∧ Aside0 (wc.heap[gb233]? = some (.cells #[.int .i64 x234000_2, .int .i64 x234001_2, u234002, u234003, .bool x234004_2, .bool x234005_2, .bool x234006_2] 28 (0, 0))) ∧ Aside0 (Below w.heap.size w wc))
       case first =>
        have H := HC38.out
        clear HC38
        by_cases c39 : x234000_2 > 1
        ·rw [if_pos c39] at H
         have c39b0 : decide (1 < x234000_2) = true := decide_eq_true c39
         clear c39
         (first | rw [c39b0] | (simp only [i64_w, i32_w]; rw [c39b0]) | skip)
         have H' := ak H
         clear H
         have hnb40 := NB233_220.out
         have hnc40 := NB220_233.out
         obtain ⟨hcz41_0, hcz41_1, hcz41_2, hcz41_3, hcz41_4, hcz41_5, hcz41_6, hfz41_0, hfz41_1, hfz41_2, hfz41_3, hfz41_4, hfz41_5, hfz41_6⟩ := kk7 BK233.out
         go_wp2
         go_meet
         case rel => exact ⟨_, (true), (by first | rfl | (simp; done) | (simp [*]; done) | (simp [Int.tdiv_eq_ediv_of_nonneg]; done)), H', ⟨by have := HJ3.out; have := HK2.out; first | omega | exact Nat.le_refl _⟩, ⟨by (with_reducible repeat (first | apply Kd.R_alloc | apply Kd.R_drewN | apply Kd.R_drew)); exact HO_234002.out⟩, ⟨by (with_reducible repeat (first | apply Kd.R_alloc | apply Kd.R_drewN | apply Kd.R_drew)); exact HO_234003.out⟩, ⟨by (with_reducible repeat first | apply kn_ | apply kd_ | apply ka_); exact BK220.out⟩, ⟨by (with_reducible repeat first | apply kn_ | apply kd_ | apply ka_); exact BK233.out⟩, ⟨by repeat (first | (with_reducible first | exact HB.out | apply ba_ | apply bn_ | apply b1_ | refine bs_ ?_ GE220.out | refine bs_ ?_ GE233.out) | exact HB.out)⟩⟩
        ·rw [if_neg c39] at H
         have c39b0 : decide (1 < x234000_2) = false := decide_eq_false c39
         clear c39
         (first | rw [c39b0] | (simp only [i64_w, i32_w]; rw [c39b0]) | skip)
         by_cases c42 : x234004_2 = true
         ·subst c42
          have H1 : (atticlaw19_MarkBlack.j2 k2 (wrap64 (1 + (wrap64 (a1)))) t238 x45_2 true l0_0 l0_1 x234000_2 x234001_2 x234002_2 x234003_2 true x234005_2 x234006_2) = some r := by rw [if_pos rfl] at H; exact H
          clear H
          have H := H1
          clear H1
          have H' := ak H
          clear H
          have hnb43 := NB233_220.out
          have hnc43 := NB220_233.out
          obtain ⟨hcz44_0, hcz44_1, hcz44_2, hcz44_3, hcz44_4, hcz44_5, hcz44_6, hfz44_0, hfz44_1, hfz44_2, hfz44_3, hfz44_4, hfz44_5, hfz44_6⟩ := kk7 BK233.out
          go_wp2
          go_meet
          case rel => exact ⟨_, (true), (by first | rfl | (simp; done) | (simp [*]; done) | (simp [Int.tdiv_eq_ediv_of_nonneg]; done)), H', ⟨by have := HJ3.out; have := HK2.out; first | omega | exact Nat.le_refl _⟩, ⟨by (with_reducible repeat (first | apply Kd.R_alloc | apply Kd.R_drewN | apply Kd.R_drew)); exact HO_234002.out⟩, ⟨by (with_reducible repeat (first | apply Kd.R_alloc | apply Kd.R_drewN | apply Kd.R_drew)); exact HO_234003.out⟩, ⟨by (with_reducible repeat first | apply kn_ | apply kd_ | apply ka_); exact BK220.out⟩, ⟨by (with_reducible repeat first | apply kn_ | apply kd_ | apply ka_); exact BK233.out⟩, ⟨by repeat (first | (with_reducible first | exact HB.out | apply ba_ | apply bn_ | apply b1_ | refine bs_ ?_ GE220.out | refine bs_ ?_ GE233.out) | exact HB.out)⟩⟩
         ·replace c42 := Bool.eq_false_iff.mpr c42
          subst c42
          have H1 : (atticlaw19_MarkBlack.j2 k2 (wrap64 (1 + (wrap64 (a1)))) t238 x45_2 x234006_2 l0_0 l0_1 x234000_2 x234001_2 x234002_2 x234003_2 false x234005_2 x234006_2) = some r := by rw [if_neg (show ¬ (false = true) by decide)] at H; exact H
          clear H
          have H := H1
          clear H1
          have H' := ak H
          clear H
          have hnb45 := NB233_220.out
          have hnc45 := NB220_233.out
          obtain ⟨hcz46_0, hcz46_1, hcz46_2, hcz46_3, hcz46_4, hcz46_5, hcz46_6, hfz46_0, hfz46_1, hfz46_2, hfz46_3, hfz46_4, hfz46_5, hfz46_6⟩ := kk7 BK233.out
          go_wp2
          go_meet
          case rel => exact ⟨_, (x234006_2), (by first | rfl | (simp; done) | (simp [*]; done) | (simp [Int.tdiv_eq_ediv_of_nonneg]; done)), H', ⟨by have := HJ3.out; have := HK2.out; first | omega | exact Nat.le_refl _⟩, ⟨by (with_reducible repeat (first | apply Kd.R_alloc | apply Kd.R_drewN | apply Kd.R_drew)); exact HO_234002.out⟩, ⟨by (with_reducible repeat (first | apply Kd.R_alloc | apply Kd.R_drewN | apply Kd.R_drew)); exact HO_234003.out⟩, ⟨by (with_reducible repeat first | apply kn_ | apply kd_ | apply ka_); exact BK220.out⟩, ⟨by (with_reducible repeat first | apply kn_ | apply kd_ | apply ka_); exact BK233.out⟩, ⟨by repeat (first | (with_reducible first | exact HB.out | apply ba_ | apply bn_ | apply b1_ | refine bs_ ?_ GE220.out | refine bs_ ?_ GE233.out) | exact HB.out)⟩⟩
       case rest =>
        clear HC38
        (try clear c1); (try clear c2); (try clear p2); (try clear c3); (try clear c4); (try clear p6); (try clear c9); (try clear c10); (try clear c14); (try clear c15); (try clear c15b0); (try clear c15b1); (try clear c18); (try clear c21); (try clear c23); (try clear c25); (try clear c26); (try clear c26b0); (try clear c26b1); (try clear c30); (try clear c34); (try clear c37); (try clear c37b0); (try clear c39); (try clear c39b0); (try clear c40); (try clear c42); (try clear c43); (try clear c45); (try clear hcz10_0); (try clear hcz10_1); (try clear hcz10_2); (try clear hcz10_3); (try clear hcz10_4); (try clear hcz10_5); (try clear hcz10_6); (try clear hcz19_0); (try clear hcz19_1); (try clear hcz31_0); (try clear hcz31_1); (try clear hcz35_0); (try clear hcz35_1); (try clear hcz41_0); (try clear hcz41_1); (try clear hcz41_2); (try clear hcz41_3); (try clear hcz41_4); (try clear hcz41_5); (try clear hcz41_6); (try clear hcz44_0); (try clear hcz44_1); (try clear hcz44_2); (try clear hcz44_3); (try clear hcz44_4); (try clear hcz44_5); (try clear hcz44_6); (try clear hcz46_0); (try clear hcz46_1); (try clear hcz46_2); (try clear hcz46_3); (try clear hcz46_4); (try clear hcz46_5); (try clear hcz46_6); (try clear hcz6_0); (try clear hcz6_1); (try clear hfz10_0); (try clear hfz10_1); (try clear hfz10_2); (try clear hfz10_3); (try clear hfz10_4); (try clear hfz10_5); (try clear hfz10_6); (try clear hfz19_0); (try clear hfz19_1); (try clear hfz31_0); (try clear hfz31_1); (try clear hfz35_0); (try clear hfz35_1); (try clear hfz41_0); (try clear hfz41_1); (try clear hfz41_2); (try clear hfz41_3); (try clear hfz41_4); (try clear hfz41_5); (try clear hfz41_6); (try clear hfz44_0); (try clear hfz44_1); (try clear hfz44_2); (try clear hfz44_3); (try clear hfz44_4); (try clear hfz44_5); (try clear hfz44_6); (try clear hfz46_0); (try clear hfz46_1); (try clear hfz46_2); (try clear hfz46_3); (try clear hfz46_4); (try clear hfz46_5); (try clear hfz46_6); (try clear hfz6_0); (try clear hfz6_1); (try clear p2); (try clear p6)
        obtain ⟨kq, x57_37, rfl, HA, HJ37, HO_234002, HO_234003, BK220, BK233, HB⟩ := hcut
        cases kq with
        | zero => exact absurd HA.out (by simp [atticlaw19_MarkBlack.j2])
        | succ kj37 =>
         have H := HA.out
         clear HA
         simp only [atticlaw19_MarkBlack.j2] at H
         by_cases c47 : x57_37 = true
         ·subst c47
          have H1 : (some true) = some r := by rw [if_pos rfl] at H; exact H
          clear H
          have H := H1
          clear H1
          obtain rfl := Option.some.inj H
          go_wp2
          go_ret
          exact ⟨by first | rfl | (simp [errW_none, errW_some] <;> rfl) | (simp [*, errW_none, errW_some] <;> rfl) | (simp [Int.tdiv_eq_ediv_of_nonneg]; done), by repeat (first | (with_reducible first | exact HB.out | apply ba_ | apply bn_ | apply b1_ | refine bs_ ?_ GE220.out | refine bs_ ?_ GE233.out) | exact HB.out)⟩
         ·replace c47 := Bool.eq_false_iff.mpr c47
          subst c47
          have H1 : (atticlaw19_MarkBlack.l1 kj37 (wrap64 (1 + (wrap64 (a1)))) t238 x45_2 l0_0 (l0_0.length : Int) 0 l0_0 l0_1 x234000_2 x234001_2 x234002_2 x234003_2 x234004_2 x234005_2 x234006_2) = some r := by rw [if_neg (show ¬ (false = true) by decide)] at H; exact H
          clear H
          have H := H1
          clear H1
          have H' := ak H
          clear H
          have hnb48 := NB220_233.out
          have hnc48 := NB233_220.out
          obtain ⟨hcz49_0, hcz49_1, hfz49_0, hfz49_1⟩ := kk2 BK220.out
          go_wp2
          go_loopg [61] kj37 (fun kq v61 w' => ∃ (x61_4 : Int), v61 = .int .i64 x61_4 ∧ Aside0 (atticlaw19_MarkBlack.l1 kq (wrap64 (1 + (wrap64 (a1)))) t238 x45_2 l0_0 (l0_0.length : Int) x61_4 l0_0 l0_1 x234000_2 x234001_2 x234002_2 x234003_2 x234004_2 x234005_2 x234006_2 = some r) ∧ Aside0 (kq ≤ kj37) ∧ Aside0 (Kd.R Kd.bool 4 w' w.heap.size (fun _ => True) u234002 x234002_2) ∧ Aside0 (Kd.R (Kd.int .i64) 3 w' w.heap.size (fun _ => True) u234003 x234003_2) ∧ Aside0 (w'.heap[gb220]? = some (.cells #[(.slice A0_0 l0_0.length c0_0), (.slice A0_1 l0_1.length c0_1)] 25 (0, 0))) ∧ Aside0 (w'.heap[gb233]? = some (.cells #[.int .i64 x234000_2, .int .i64 x234001_2, u234002, u234003, .bool x234004_2, .bool x234005_2, .bool x234006_2] 28 (0, 0))) ∧ Aside0 (Below w.heap.size w w'))
          case atStart => exact ⟨(0), (by first | rfl | (simp; done) | (simp [*]; done) | (simp [Int.tdiv_eq_ediv_of_nonneg]; done)), H', ⟨Nat.le_refl _⟩, ⟨by (with_reducible repeat (first | apply Kd.R_alloc | apply Kd.R_drewN | apply Kd.R_drew)); exact HO_234002.out⟩, ⟨by (with_reducible repeat (first | apply Kd.R_alloc | apply Kd.R_drewN | apply Kd.R_drew)); exact HO_234003.out⟩, ⟨by (with_reducible repeat first | apply kn_ | apply kd_ | apply ka_); exact BK220.out⟩, ⟨by (with_reducible repeat first | apply kn_ | apply kd_ | apply ka_); exact BK233.out⟩, ⟨by repeat (first | (with_reducible first | exact HB.out | apply ba_ | apply bn_ | apply b1_ | refine bs_ ?_ GE220.out | refine bs_ ?_ GE233.out) | exact HB.out)⟩⟩
          case round =>
           clear H'
           (try clear c1); (try clear c2); (try clear p2); (try clear c3); (try clear c4); (try clear p6); (try clear c9); (try clear c10); (try clear c14); (try clear c15); (try clear c15b0); (try clear c15b1); (try clear c18); (try clear c21); (try clear c23); (try clear c25); (try clear c26); (try clear c26b0); (try clear c26b1); (try clear c30); (try clear c34); (try clear c37); (try clear c37b0); (try clear c39); (try clear c39b0); (try clear c40); (try clear c42); (try clear c43); (try clear c45); (try clear c47); (try clear c48); (try clear hcz10_0); (try clear hcz10_1); (try clear hcz10_2); (try clear hcz10_3); (try clear hcz10_4); (try clear hcz10_5); (try clear hcz10_6); (try clear hcz19_0); (try clear hcz19_1); (try clear hcz31_0); (try clear hcz31_1); (try clear hcz35_0); (try clear hcz35_1); (try clear hcz41_0); (try clear hcz41_1); (try clear hcz41_2); (try clear hcz41_3); (try clear hcz41_4); (try clear hcz41_5); (try clear hcz41_6); (try clear hcz44_0); (try clear hcz44_1); (try clear hcz44_2); (try clear hcz44_3); (try clear hcz44_4); (try clear hcz44_5); (try clear hcz44_6); (try clear hcz46_0); (try clear hcz46_1); (try clear hcz46_2); (try clear hcz46_3); (try clear hcz46_4); (try clear hcz46_5); (try clear hcz46_6); (try clear hcz49_0); (try clear hcz49_1); (try clear hcz6_0); (try clear hcz6_1); (try clear hfz10_0); (try clear hfz10_1); (try clear hfz10_2); (try clear hfz10_3); (try clear hfz10_4); (try clear hfz10_5); (try clear hfz10_6); (try clear hfz19_0); (try clear hfz19_1); (try clear hfz31_0); (try clear hfz31_1); (try clear hfz35_0); (try clear hfz35_1); (try clear hfz41_0); (try clear hfz41_1); (try clear hfz41_2); (try clear hfz41_3); (try clear hfz41_4); (try clear hfz41_5); (try clear hfz41_6); (try clear hfz44_0); (try clear hfz44_1); (try clear hfz44_2); (try clear hfz44_3); (try clear hfz44_4); (try clear hfz44_5); (try clear hfz44_6); (try clear hfz46_0); (try clear hfz46_1); (try clear hfz46_2); (try clear hfz46_3); (try clear hfz46_4); (try clear hfz46_5); (try clear hfz46_6); (try clear hfz49_0); (try clear hfz49_1); (try clear hfz6_0); (try clear hfz6_1); (try clear p2); (try clear p6)
           obtain ⟨x61_4, rfl, HA, HK4, HO_234002, HO_234003, BK220, BK233, HB⟩ := hrel
           cases gk with
           | zero => exact absurd HA.out (by simp [atticlaw19_MarkBlack.l1])
           | succ k4 =>
            have H := HA.out
            clear HA
            simp only [atticlaw19_MarkBlack.l1] at H
            by_cases c50 : x61_4 < (l0_0.length : Int)
            ·rw [if_pos c50] at H
             have c50b0 : decide (x61_4 < (l0_0.length : Int)) = true := decide_eq_true c50
             clear c50
             by_cases c51 : 0 ≤ x61_4
             ·rw [if_pos c51] at H
              have c51b0 : decide (0 ≤ x61_4) = true := decide_eq_true c51
              clear c51
              by_cases c52 : x61_4 < (l0_0.length : Int)
              ·rw [if_pos c52] at H
               have c52b0 : decide (x61_4 < (l0_0.length : Int)) = true := decide_eq_true c52
               clear c52
               have HC53 := ak H
               clear H
               have p251 : 0 ≤ (x61_4 : Int) := of_decide_eq_true (by first | (with_reducible assumption) | assumption)
               have q251 : x61_4 < (l0_0.length : Int) := of_decide_eq_true (by first | (with_reducible assumption) | assumption)
               obtain ⟨ad251, A251_1, c251_1, e251, hx251_0, hx251_1, hl251_1, hi251_1⟩ := at_T56 HR0_0.out x61_4 p251 q251
               cases e251
               replace hx251_0 := (HB.out.cell (World.block_lt_of_cell? w _ hx251_0)).trans hx251_0
               replace hx251_1 := (HB.out.cell (World.block_lt_of_cell? w _ hx251_1)).trans hx251_1
               have HR251_1 := ak hi251_1
               have HC251_1 := ak hl251_1
               clear hi251_1 hl251_1
               replace p251 := eq_true p251
               replace q251 := eq_true q251
               go_upto_region 12 with (first | ((with_reducible refine gate_dst (N := 9) rfl ?_); (try (refine gate_guard (by rfl) ?_; dsimp only)); refine box_event ?hg (N := 9) ?hd (cs := #[.int .i64 0, .slice none 0 0]) (t := 56) ?hr ?_; (case hd => rfl); (case hg => rfl); (case hr => first | (go_simp; done) | (go_simp; rfl)); intro gb252 hg w54 hbox hb; have n0_ := ak (Kd.R_below (by (with_reducible repeat (first | apply Kd.R_alloc | apply Kd.R_drewN | apply Kd.R_drew)); exact HO_234002.out) hb); have n1_ := ak (Kd.R_below (by (with_reducible repeat (first | apply Kd.R_alloc | apply Kd.R_drewN | apply Kd.R_drew)); exact HO_234003.out) hb); have n2_ := ak (blk_below (g := gb220) (o := .cells #[.slice (some ad251) l0_0.length c0_0, .slice A0_1 l0_1.length c0_1] 25 (0, 0)) (by (with_reducible repeat first | apply kn_ | apply kd_ | apply ka_); exact BK220.out) hb); have n3_ := ak (blk_below (g := gb233) (o := .cells #[.int .i64 x234000_2, .int .i64 x234001_2, u234002, u234003, .bool x234004_2, .bool x234005_2, .bool x234006_2] 28 (0, 0)) (by (with_reducible repeat first | apply kn_ | apply kd_ | apply ka_); exact BK233.out) hb); have n4_ := ak (below_step (by repeat (first | (with_reducible first | exact HB.out | apply ba_ | apply bn_ | apply b1_ | refine bs_ ?_ GE220.out | refine bs_ ?_ GE233.out) | exact HB.out)) hb); have n5_ := ak (hbox); have n6_ := ak ((by rw [hg]; exact (below_size (by repeat (first | (with_reducible first | exact HB.out | apply ba_ | apply bn_ | apply b1_ | refine bs_ ?_ GE220.out | refine bs_ ?_ GE233.out) | exact HB.out))) : w.heap.size ≤ gb252)); have n7_ := ak ((by rw [hg]; exact (below_size (by repeat (first | (with_reducible first | exact HB.out | apply ba_ | apply bn_ | apply b1_ | refine bs_ ?_ GE220.out | refine bs_ ?_ GE233.out) | exact HB.out))) : w.heap.size ≤ gb252)); have n8_ := ak ((by rw [hg]; exact Nat.ne_of_lt (blk_lt (g := gb220) (o := .cells #[.slice (some ad251) l0_0.length c0_0, .slice A0_1 l0_1.length c0_1] 25 (0, 0)) (by (with_reducible repeat first | apply kn_ | apply kd_ | apply ka_); exact BK220.out)) : gb220 ≠ gb252)); have n9_ := ak ((by rw [hg]; exact Nat.ne_of_gt (blk_lt (g := gb220) (o := .cells #[.slice (some ad251) l0_0.length c0_0, .slice A0_1 l0_1.length c0_1] 25 (0, 0)) (by (with_reducible repeat first | apply kn_ | apply kd_ | apply ka_); exact BK220.out)) : gb252 ≠ gb220)); have n10_ := ak ((by rw [hg]; exact Nat.ne_of_lt (blk_lt (g := gb233) (o := .cells #[.int .i64 x234000_2, .int .i64 x234001_2, u234002, u234003, .bool x234004_2, .bool x234005_2, .bool x234006_2] 28 (0, 0)) (by (with_reducible repeat first | apply kn_ | apply kd_ | apply ka_); exact BK233.out)) : gb233 ≠ gb252)); have n11_ := ak ((by rw [hg]; exact Nat.ne_of_gt (blk_lt (g := gb233) (o := .cells #[.int .i64 x234000_2, .int .i64 x234001_2, u234002, u234003, .bool x234004_2, .bool x234005_2, .bool x234006_2] 28 (0, 0)) (by (with_reducible repeat first | apply kn_ | apply kd_ | apply ka_); exact BK233.out)) : gb252 ≠ gb233)); clear HO_234002; clear HO_234003; clear BK220; clear BK233; clear HB; have HO_234002 := n0_; have HO_234003 := n1_; have BK220 := n2_; have BK233 := n3_; have HB := n4_; have BK252 := n5_; have GW252 := n6_; have GE252 := n7_; have NB220_252 := n8_; have NB252_220 := n9_; have NB233_252 := n10_; have NB252_233 := n11_; clear n0_ n1_ n2_ n3_ n4_ n5_ n6_ n7_ n8_ n9_ n10_ n11_; clear hb hbox hg; have hnb55 := NB252_220.out; have hnc55 := NB220_252.out; have hnb56 := NB252_233.out; have hnc56 := NB233_252.out; obtain ⟨hcz57_0, hcz57_1, hfz57_0, hfz57_1⟩ := kk2 BK252.out))
               (try simp only [Act.put, List.setIfInBounds_toArray, List.set_cons_zero, List.set_cons_succ])
               go_cut [89] (fun v89 wc => ∃ (kq : Nat) (x89_52 : Bool), v89 = .bool x89_52 ∧ Aside0 (atticlaw19_MarkBlack.j4 kq (wrap64 (1 + (wrap64 (a1)))) t238 x45_2 l0_0 (l0_0.length : Int) x61_4 x89_52 l0_0 l0_1 x234000_2 x234001_2 x234002_2 x234003_2 x234004_2 x234005_2 x234006_2 ((rd_T56 l0_0 x61_4).f0) ((rd_T56 l0_0 x61_4).f1) = some r) ∧ Aside0 (kq ≤ k4) ∧ Aside0 (Kd.R Kd.bool 4 wc w.heap.size (fun _ => True) u234002 x234002_2) ∧ Aside0 (Kd.R (Kd.int .i64) 3 wc w.heap.size (fun _ => True) u234003 x234003_2) ∧ Aside0 (wc.heap[gb220]? = some (.cells #[(.slice (some ad251) l0_0.length c0_0), (.slice A0_1 l0_1.length c0_1)] 25 (0, 0))) ∧ Aside0 (wc.heap[gb233]? = some (.cells #[.int .i64 x234000_2, .int .i64 x234001_2, u234002, u234003, .bool x234004_2, .bool x234005_2, .bool x234006_2] 28 (0, 0))) ∧ Aside0 (wc.heap[gb252]? = some (.cells #[.int .i64 ((rd_T56 l0_0 x61_4).f0), (.slice A251_1 ((rd_T56 l0_0 x61_4).f1).length c251_1)] 56 (0, 0))) ∧ Aside0 (Below w.heap.size w wc))
               case first =>
                have H := HC53.out
                clear HC53
                by_cases c58 : ((rd_T56 l0_0 x61_4).f0) = 1
                ·rw [if_pos c58] at H
                 have c58b0 : (((rd_T56 l0_0 x61_4).f0) == 1) = true := beq_iff_eq.mpr c58
                 have c58b1 : (((rd_T56 l0_0 x61_4).f0) != 1) = false := bne_eq_false_iff_eq.mpr c58
                 clear c58
                 (first | rw [c58b0] | (simp only [i64_w, i32_w]; rw [c58b0]) | skip)
                 by_cases c59 : x61_4 ≥ (x234002_2.length : Int)
                 ·rw [if_pos c59] at H
                  have c59b0 : decide ((x234002_2.length : Int) ≤ x61_4) = true := decide_eq_true c59
                  clear c59
                  have H' := ak H
                  clear H
                  have hnb60 := NB252_220.out
                  have hnc60 := NB220_252.out
                  have hnb61 := NB252_233.out
                  have hnc61 := NB233_252.out
                  obtain ⟨hcz62_0, hcz62_1, hfz62_0, hfz62_1⟩ := kk2 BK252.out
                  have hnb63 := NB233_220.out
                  have hnc63 := NB220_233.out
                  obtain ⟨hcz64_0, hcz64_1, hcz64_2, hcz64_3, hcz64_4, hcz64_5, hcz64_6, hfz64_0, hfz64_1, hfz64_2, hfz64_3, hfz64_4, hfz64_5, hfz64_6⟩ := kk7 BK233.out
                  obtain ⟨Ao65, co65, eo65⟩ := Kd.R_slice HO_234002.out
                  subst eo65
                  go_wp2
                  go_meet
                  case rel => exact ⟨_, (true), (by first | rfl | (simp; done) | (simp [*]; done) | (simp [Int.tdiv_eq_ediv_of_nonneg]; done)), H', ⟨by have := HJ3.out; have := HK2.out; have := HJ37.out; have := HK4.out; first | omega | exact Nat.le_refl _⟩, ⟨by (with_reducible repeat (first | apply Kd.R_alloc | apply Kd.R_drewN | apply Kd.R_drew)); exact Kd.R_mono (Kd.R_far (p := ⟨gb252, 1, none⟩) (Kd.R_far (p := ⟨gb252, 0, none⟩) (Kd.R_types HO_234002.out BK252.out (by decide)) (fun _ hk => hk.2) (.int .i64 ((rd_T56 l0_0 x61_4).f0))) (fun _ hk => hk.2) (.slice A251_1 ((rd_T56 l0_0 x61_4).f1).length c251_1)) (fun _ hk => trivial)⟩, ⟨by (with_reducible repeat (first | apply Kd.R_alloc | apply Kd.R_drewN | apply Kd.R_drew)); exact Kd.R_mono (Kd.R_far (p := ⟨gb252, 1, none⟩) (Kd.R_far (p := ⟨gb252, 0, none⟩) (Kd.R_types HO_234003.out BK252.out (by decide)) (fun _ hk => hk.2) (.int .i64 ((rd_T56 l0_0 x61_4).f0))) (fun _ hk => hk.2) (.slice A251_1 ((rd_T56 l0_0 x61_4).f1).length c251_1)) (fun _ hk => trivial)⟩, ⟨by (with_reducible repeat first | apply kn_ | apply kd_ | apply ka_); refine blk_far ?_ NB220_252.out _; (with_reducible repeat first | apply kn_ | apply kd_ | apply ka_); refine blk_far ?_ NB220_252.out _; (with_reducible repeat first | apply kn_ | apply kd_ | apply ka_); exact BK220.out⟩, ⟨by (with_reducible repeat first | apply kn_ | apply kd_ | apply ka_); refine blk_far ?_ NB233_252.out _; (with_reducible repeat first | apply kn_ | apply kd_ | apply ka_); refine blk_far ?_ NB233_252.out _; (with_reducible repeat first | apply kn_ | apply kd_ | apply ka_); exact BK233.out⟩, ⟨by (with_reducible repeat first | apply kn_ | apply kd_ | apply ka_); refine blk_put (cs := #[.int .i64 ((rd_T56 l0_0 x61_4).f0), .slice none 0 0]) ?_ 1 _ rfl; (with_reducible repeat first | apply kn_ | apply kd_ | apply ka_); refine blk_put (cs := #[.int .i64 0, .slice none 0 0]) ?_ 0 _ rfl; (with_reducible repeat first | apply kn_ | apply kd_ | apply ka_); exact BK252.out⟩, ⟨by repeat (first | (with_reducible first | exact HB.out | apply ba_ | apply bn_ | apply b1_ | refine bs_ ?_ GE220.out | refine bs_ ?_ GE233.out | refine bs_ ?_ GE252.out) | exact HB.out)⟩⟩
                 ·rw [if_neg c59] at H
                  have c59b0 : decide ((x234002_2.length : Int) ≤ x61_4) = false := decide_eq_false c59
                  clear c59
                  by_cases c66 : x61_4 < (x234002_2.length : Int)
                  ·rw [if_pos c66] at H
                   have c66b0 : decide (x61_4 < (x234002_2.length : Int)) = true := decide_eq_true c66
                   clear c66
                   obtain ⟨bq67, hbq67⟩ : ∃ b_ : Bool, b_ = (rdOf false x234002_2 x61_4) := ⟨_, rfl⟩
                   replace H : (if bq67 = true then ((slices_Contains_int_int.f k4 x234003_2 x61_4).bind fun t254 => (atticlaw19_MarkBlack.j4 k4 (wrap64 (1 + (wrap64 (a1)))) t238 x45_2 l0_0 (l0_0.length : Int) x61_4 t254 l0_0 l0_1 x234000_2 x234001_2 x234002_2 x234003_2 x234004_2 x234005_2 x234006_2 ((rd_T56 l0_0 x61_4).f0) ((rd_T56 l0_0 x61_4).f1))) else (atticlaw19_MarkBlack.j4 k4 (wrap64 (1 + (wrap64 (a1)))) t238 x45_2 l0_0 (l0_0.length : Int) x61_4 true l0_0 l0_1 x234000_2 x234001_2 x234002_2 x234003_2 x234004_2 x234005_2 x234006_2 ((rd_T56 l0_0 x61_4).f0) ((rd_T56 l0_0 x61_4).f1))) = some r := by rw [← hbq67] at H; exact H
                   have Nbq67 := ak hbq67
                   clear hbq67
                   by_cases c68 : bq67 = true
                   ·subst c68
                    have H1 : ((slices_Contains_int_int.f k4 x234003_2 x61_4).bind fun t254 => (atticlaw19_MarkBlack.j4 k4 (wrap64 (1 + (wrap64 (a1)))) t238 x45_2 l0_0 (l0_0.length : Int) x61_4 t254 l0_0 l0_1 x234000_2 x234001_2 x234002_2 x234003_2 x234004_2 x234005_2 x234006_2 ((rd_T56 l0_0 x61_4).f0) ((rd_T56 l0_0 x61_4).f1))) = some r := by rw [if_pos rfl] at H; exact H
                    clear H
                    have H := H1
                    clear H1
                    replace H := Option.bind_eq_some_iff.mp H
                    obtain ⟨t254, A690, H⟩ := H
                    replace H : (atticlaw19_MarkBlack.j4 k4 (wrap64 (1 + (wrap64 (a1)))) t238 x45_2 l0_0 (l0_0.length : Int) x61_4 t254 l0_0 l0_1 x234000_2 x234001_2 x234002_2 x234003_2 x234004_2 x234005_2 x234006_2 ((rd_T56 l0_0 x61_4).f0) ((rd_T56 l0_0 x61_4).f1)) = some r := H
                    have A69 := ak A690
                    clear A690
                    have H' := ak H
                    clear H
                    have hnb70 := NB252_220.out
                    have hnc70 := NB220_252.out
                    have hnb71 := NB252_233.out
                    have hnc71 := NB233_252.out
                    obtain ⟨hcz72_0, hcz72_1, hfz72_0, hfz72_1⟩ := kk2 BK252.out
                    have hnb73 := NB233_220.out
                    have hnc73 := NB220_233.out
                    obtain ⟨hcz74_0, hcz74_1, hcz74_2, hcz74_3, hcz74_4, hcz74_5, hcz74_6, hfz74_0, hfz74_1, hfz74_2, hfz74_3, hfz74_4, hfz74_5, hfz74_6⟩ := kk7 BK233.out
                    obtain ⟨Ao75, co75, eo75⟩ := Kd.R_slice HO_234002.out
                    subst eo75
                    have p253 : 0 ≤ (x61_4 : Int) := of_decide_eq_true (by first | (with_reducible assumption) | assumption)
                    have q253 : x61_4 < (x234002_2.length : Int) := of_decide_eq_true (by first | (with_reducible assumption) | assumption)
                    obtain ⟨ad253, e253, hx253_0⟩ := Kd.at_bool (Kd.R_reads' HO_234002.out).2.2 x61_4 p253 q253
                    (try rw [← Nbq67.out] at hx253_0)
                    cases e253
                    have hn253_0 : ad253.block ≠ gb252 := Kd.own_blk (Kd.R_ne HO_234002.out BK252.out (by decide))
                    have hn253_1 : ad253.block ≠ gb252 := Kd.own_blk (Kd.R_ne HO_234002.out BK252.out (by decide))
                    replace hx253_0 := (cell_far (p := ⟨gb252, 0, none⟩) (by first | (rw [add_block]; exact hn253_0) | (show (Addr.add _ _).block ≠ _; rw [add_block]; exact hn253_0) | exact hn253_0) (.int .i64 ((rd_T56 l0_0 x61_4).f0))).trans hx253_0
                    replace hx253_0 := (cell_far (p := ⟨gb252, 1, none⟩) (by first | (rw [add_block]; exact hn253_1) | (show (Addr.add _ _).block ≠ _; rw [add_block]; exact hn253_1) | exact hn253_1) (.slice A251_1 ((rd_T56 l0_0 x61_4).f1).length c251_1)).trans hx253_0
                    clear hn253_0
                    clear hn253_1
                    replace p253 := eq_true p253
                    replace q253 := eq_true q253
                    obtain ⟨Ao76, co76, eo76⟩ := Kd.R_slice HO_234003.out
                    subst eo76
                    go_wp2_with (first | (go_at_call 34; (with_reducible refine (slices_Contains_int_int.calls k4 _ _ x234003_2 x61_4 t254 _ ?side1 ?side2 A69.out).mono ?_); (case side1 => refine (Kd.R_reads' (e := 3) (base := w.heap.size) (ok := fun k_ => True) (n := x234003_2.length) (c := co76) ?_).2.2; exact (by (with_reducible repeat (first | apply Kd.R_alloc | apply Kd.R_drewN | apply Kd.R_drew)); exact (Kd.R_mono (Kd.R_far (p := ⟨gb252, 1, none⟩) (Kd.R_far (p := ⟨gb252, 0, none⟩) (Kd.R_types HO_234003.out BK252.out (by decide)) (fun _ hk => hk.2) (.int .i64 ((rd_T56 l0_0 x61_4).f0))) (fun _ hk => hk.2) (.slice A251_1 ((rd_T56 l0_0 x61_4).f1).length c251_1)) (fun _ h_ => h_.1)))); (case side2 => exact (Kd.R_reads' HO_234003.out).2.1); rintro e w' ⟨rfl, ⟨nd, rfl⟩⟩))
                    go_meet
                    case rel => exact ⟨_, (t254), (by first | rfl | (simp; done) | (simp [*]; done) | (simp [Int.tdiv_eq_ediv_of_nonneg]; done)), H', ⟨by have := HJ3.out; have := HK2.out; have := HJ37.out; have := HK4.out; first | omega | exact Nat.le_refl _⟩, ⟨by (with_reducible repeat (first | apply Kd.R_alloc | apply Kd.R_drewN | apply Kd.R_drew)); exact Kd.R_mono (Kd.R_far (p := ⟨gb252, 1, none⟩) (Kd.R_far (p := ⟨gb252, 0, none⟩) (Kd.R_types HO_234002.out BK252.out (by decide)) (fun _ hk => hk.2) (.int .i64 ((rd_T56 l0_0 x61_4).f0))) (fun _ hk => hk.2) (.slice A251_1 ((rd_T56 l0_0 x61_4).f1).length c251_1)) (fun _ hk => trivial)⟩, ⟨by (with_reducible repeat (first | apply Kd.R_alloc | apply Kd.R_drewN | apply Kd.R_drew)); exact Kd.R_mono (Kd.R_far (p := ⟨gb252, 1, none⟩) (Kd.R_far (p := ⟨gb252, 0, none⟩) (Kd.R_types HO_234003.out BK252.out (by decide)) (fun _ hk => hk.2) (.int .i64 ((rd_T56 l0_0 x61_4).f0))) (fun _ hk => hk.2) (.slice A251_1 ((rd_T56 l0_0 x61_4).f1).length c251_1)) (fun _ hk => trivial)⟩, ⟨by (with_reducible repeat first | apply kn_ | apply kd_ | apply ka_); refine blk_far ?_ NB220_252.out _; (with_reducible repeat first | apply kn_ | apply kd_ | apply ka_); refine blk_far ?_ NB220_252.out _; (with_reducible repeat first | apply kn_ | apply kd_ | apply ka_); exact BK220.out⟩, ⟨by (with_reducible repeat first | apply kn_ | apply kd_ | apply ka_); refine blk_far ?_ NB233_252.out _; (with_reducible repeat first | apply kn_ | apply kd_ | apply ka_); refine blk_far ?_ NB233_252.out _; (with_reducible repeat first | apply kn_ | apply kd_ | apply ka_); exact BK233.out⟩, ⟨by (with_reducible repeat first | apply kn_ | apply kd_ | apply ka_); refine blk_put (cs := #[.int .i64 ((rd_T56 l0_0 x61_4).f0), .slice none 0 0]) ?_ 1 _ rfl; (with_reducible repeat first | apply kn_ | apply kd_ | apply ka_); refine blk_put (cs := #[.int .i64 0, .slice none 0 0]) ?_ 0 _ rfl; (with_reducible repeat first | apply kn_ | apply kd_ | apply ka_); exact BK252.out⟩, ⟨by repeat (first | (with_reducible first | exact HB.out | apply ba_ | apply bn_ | apply b1_ | refine bs_ ?_ GE220.out | refine bs_ ?_ GE233.out | refine bs_ ?_ GE252.out) | exact HB.out)⟩⟩
                   ·replace c68 := Bool.eq_false_iff.mpr c68
                    subst c68
                    have H1 : (atticlaw19_MarkBlack.j4 k4 (wrap64 (1 + (wrap64 (a1)))) t238 x45_2 l0_0 (l0_0.length : Int) x61_4 true l0_0 l0_1 x234000_2 x234001_2 x234002_2 x234003_2 x234004_2 x234005_2 x234006_2 ((rd_T56 l0_0 x61_4).f0) ((rd_T56 l0_0 x61_4).f1)) = some r := by rw [if_neg (show ¬ (false = true) by decide)] at H; exact H
                    clear H
                    have H := H1
                    clear H1
                    have H' := ak H
                    clear H
                    have hnb77 := NB252_220.out
                    have hnc77 := NB220_252.out
                    have hnb78 := NB252_233.out
                    have hnc78 := NB233_252.out
                    obtain ⟨hcz79_0, hcz79_1, hfz79_0, hfz79_1⟩ := kk2 BK252.out
                    have hnb80 := NB233_220.out
                    have hnc80 := NB220_233.out
                    obtain ⟨hcz81_0, hcz81_1, hcz81_2, hcz81_3, hcz81_4, hcz81_5, hcz81_6, hfz81_0, hfz81_1, hfz81_2, hfz81_3, hfz81_4, hfz81_5, hfz81_6⟩ := kk7 BK233.out
                    obtain ⟨Ao82, co82, eo82⟩ := Kd.R_slice HO_234002.out
                    subst eo82
                    have p253 : 0 ≤ (x61_4 : Int) := of_decide_eq_true (by first | (with_reducible assumption) | assumption)
                    have q253 : x61_4 < (x234002_2.length : Int) := of_decide_eq_true (by first | (with_reducible assumption) | assumption)
                    obtain ⟨ad253, e253, hx253_0⟩ := Kd.at_bool (Kd.R_reads' HO_234002.out).2.2 x61_4 p253 q253
                    (try rw [← Nbq67.out] at hx253_0)
                    cases e253
                    have hn253_0 : ad253.block ≠ gb252 := Kd.own_blk (Kd.R_ne HO_234002.out BK252.out (by decide))
                    have hn253_1 : ad253.block ≠ gb252 := Kd.own_blk (Kd.R_ne HO_234002.out BK252.out (by decide))
                    replace hx253_0 := (cell_far (p := ⟨gb252, 0, none⟩) (by first | (rw [add_block]; exact hn253_0) | (show (Addr.add _ _).block ≠ _; rw [add_block]; exact hn253_0) | exact hn253_0) (.int .i64 ((rd_T56 l0_0 x61_4).f0))).trans hx253_0
                    replace hx253_0 := (cell_far (p := ⟨gb252, 1, none⟩) (by first | (rw [add_block]; exact hn253_1) | (show (Addr.add _ _).block ≠ _; rw [add_block]; exact hn253_1) | exact hn253_1) (.slice A251_1 ((rd_T56 l0_0 x61_4).f1).length c251_1)).trans hx253_0
                    clear hn253_0
                    clear hn253_1
                    replace p253 := eq_true p253
                    replace q253 := eq_true q253
                    go_wp2
                    go_meet
                    case rel => exact ⟨_, (true), (by first | rfl | (simp; done) | (simp [*]; done) | (simp [Int.tdiv_eq_ediv_of_nonneg]; done)), H', ⟨by have := HJ3.out; have := HK2.out; have := HJ37.out; have := HK4.out; first | omega | exact Nat.le_refl _⟩, ⟨by (with_reducible repeat (first | apply Kd.R_alloc | apply Kd.R_drewN | apply Kd.R_drew)); exact Kd.R_mono (Kd.R_far (p := ⟨gb252, 1, none⟩) (Kd.R_far (p := ⟨gb252, 0, none⟩) (Kd.R_types HO_234002.out BK252.out (by decide)) (fun _ hk => hk.2) (.int .i64 ((rd_T56 l0_0 x61_4).f0))) (fun _ hk => hk.2) (.slice A251_1 ((rd_T56 l0_0 x61_4).f1).length c251_1)) (fun _ hk => trivial)⟩, ⟨by (with_reducible repeat (first | apply Kd.R_alloc | apply Kd.R_drewN | apply Kd.R_drew)); exact Kd.R_mono (Kd.R_far (p := ⟨gb252, 1, none⟩) (Kd.R_far (p := ⟨gb252, 0, none⟩) (Kd.R_types HO_234003.out BK252.out (by decide)) (fun _ hk => hk.2) (.int .i64 ((rd_T56 l0_0 x61_4).f0))) (fun _ hk => hk.2) (.slice A251_1 ((rd_T56 l0_0 x61_4).f1).length c251_1)) (fun _ hk => trivial)⟩, ⟨by (with_reducible repeat first | apply kn_ | apply kd_ | apply ka_); refine blk_far ?_ NB220_252.out _; (with_reducible repeat first | apply kn_ | apply kd_ | apply ka_); refine blk_far ?_ NB220_252.out _; (with_reducible repeat first | apply kn_ | apply kd_ | apply ka_); exact BK220.out⟩, ⟨by (with_reducible repeat first | apply kn_ | apply kd_ | apply ka_); refine blk_far ?_ NB233_252.out _; (with_reducible repeat first | apply kn_ | apply kd_ | apply ka_); refine blk_far ?_ NB233_252.out _; (with_reducible repeat first | apply kn_ | apply kd_ | apply ka_); exact BK233.out⟩, ⟨by (with_reducible repeat first | apply kn_ | apply kd_ | apply ka_); refine blk_put (cs := #[.int .i64 ((rd_T56 l0_0 x61_4).f0), .slice none 0 0]) ?_ 1 _ rfl; (with_reducible repeat first | apply kn_ | apply kd_ | apply ka_); refine blk_put (cs := #[.int .i64 0, .slice none 0 0]) ?_ 0 _ rfl; (with_reducible repeat first | apply kn_ | apply kd_ | apply ka_); exact BK252.out⟩, ⟨by repeat (first | (with_reducible first | exact HB.out | apply ba_ | apply bn_ | apply b1_ | refine bs_ ?_ GE220.out | refine bs_ ?_ GE233.out | refine bs_ ?_ GE252.out) | exact HB.out)⟩⟩
                  ·rw [if_neg c66] at H
                   exact absurd H (by simp)
                ·rw [if_neg c58] at H
                 have c58b0 : (((rd_T56 l0_0 x61_4).f0) == 1) = false := beq_eq_false_iff_ne.mpr c58
                 have c58b1 : (((rd_T56 l0_0 x61_4).f0) != 1) = true := bne_iff_ne.mpr c58
                 (first | rw [c58b0] | (simp only [i64_w, i32_w]; rw [c58b0]) | skip)
                 have H' := ak H
                 clear H
                 have hnb83 := NB252_220.out
                 have hnc83 := NB220_252.out
                 have hnb84 := NB252_233.out
                 have hnc84 := NB233_252.out
                 obtain ⟨hcz85_0, hcz85_1, hfz85_0, hfz85_1⟩ := kk2 BK252.out
                 go_wp2
                 go_meet
                 case rel => exact ⟨_, (true), (by first | rfl | (simp; done) | (simp [*]; done) | (simp [Int.tdiv_eq_ediv_of_nonneg]; done)), H', ⟨by have := HJ3.out; have := HK2.out; have := HJ37.out; have := HK4.out; first | omega | exact Nat.le_refl _⟩, ⟨by (with_reducible repeat (first | apply Kd.R_alloc | apply Kd.R_drewN | apply Kd.R_drew)); exact Kd.R_mono (Kd.R_far (p := ⟨gb252, 1, none⟩) (Kd.R_far (p := ⟨gb252, 0, none⟩) (Kd.R_types HO_234002.out BK252.out (by decide)) (fun _ hk => hk.2) (.int .i64 ((rd_T56 l0_0 x61_4).f0))) (fun _ hk => hk.2) (.slice A251_1 ((rd_T56 l0_0 x61_4).f1).length c251_1)) (fun _ hk => trivial)⟩, ⟨by (with_reducible repeat (first | apply Kd.R_alloc | apply Kd.R_drewN | apply Kd.R_drew)); exact Kd.R_mono (Kd.R_far (p := ⟨gb252, 1, none⟩) (Kd.R_far (p := ⟨gb252, 0, none⟩) (Kd.R_types HO_234003.out BK252.out (by decide)) (fun _ hk => hk.2) (.int .i64 ((rd_T56 l0_0 x61_4).f0))) (fun _ hk => hk.2) (.slice A251_1 ((rd_T56 l0_0 x61_4).f1).length c251_1)) (fun _ hk => trivial)⟩, ⟨by (with_reducible repeat first | apply kn_ | apply kd_ | apply ka_); refine blk_far ?_ NB220_252.out _; (with_reducible repeat first | apply kn_ | apply kd_ | apply ka_); refine blk_far ?_ NB220_252.out _; (with_reducible repeat first | apply kn_ | apply kd_ | apply ka_); exact BK220.out⟩, ⟨by (with_reducible repeat first | apply kn_ | apply kd_ | apply ka_); refine blk_far ?_ NB233_252.out _; (with_reducible repeat first | apply kn_ | apply kd_ | apply ka_); refine blk_far ?_ NB233_252.out _; (with_reducible repeat first | apply kn_ | apply kd_ | apply ka_); exact BK233.out⟩, ⟨by (with_reducible repeat first | apply kn_ | apply kd_ | apply ka_); refine blk_put (cs := #[.int .i64 ((rd_T56 l0_0 x61_4).f0), .slice none 0 0]) ?_ 1 _ rfl; (with_reducible repeat first | apply kn_ | apply kd_ | apply ka_); refine blk_put (cs := #[.int .i64 0, .slice none 0 0]) ?_ 0 _ rfl; (with_reducible repeat first | apply kn_ | apply kd_ | apply ka_); exact BK252.out⟩, ⟨by repeat (first | (with_reducible first | exact HB.out | apply ba_ | apply bn_ | apply b1_ | refine bs_ ?_ GE220.out | refine bs_ ?_ GE233.out | refine bs_ ?_ GE252.out) | exact HB.out)⟩⟩
               case rest =>
                clear HC53
                (try clear c1); (try clear c2); (try clear p2); (try clear q2); (try clear hx2); (try clear c3); (try clear c4); (try clear c5); (try clear c6); (try clear p6); (try clear q6); (try clear c7); (try clear c8); (try clear c9); (try clear c10); (try clear c14); (try clear c15); (try clear c15b0); (try clear c15b1); (try clear c18); (try clear c21); (try clear c23); (try clear c25); (try clear p25); (try clear q25); (try clear hx25); (try clear c26); (try clear c26b0); (try clear c26b1); (try clear c30); (try clear c34); (try clear c37); (try clear c37b0); (try clear c39); (try clear c39b0); (try clear c40); (try clear c42); (try clear c43); (try clear c45); (try clear c47); (try clear c48); (try clear c50); (try clear c50b0); (try clear c51); (try clear c51b0); (try clear c52); (try clear c52b0); (try clear c55); (try clear c56); (try clear c58); (try clear c58b0); (try clear c58b1); (try clear c59); (try clear c59b0); (try clear c60); (try clear c61); (try clear c63); (try clear p64); (try clear c66); (try clear c66b0); (try clear q67); (try clear c68); (try clear c70); (try clear c71); (try clear c73); (try clear c77); (try clear c78); (try clear c80); (try clear c83); (try clear c84); (try clear hcz10_0); (try clear hcz10_1); (try clear hcz10_2); (try clear hcz10_3); (try clear hcz10_4); (try clear hcz10_5); (try clear hcz10_6); (try clear hcz19_0); (try clear hcz19_1); (try clear hcz31_0); (try clear hcz31_1); (try clear hcz35_0); (try clear hcz35_1); (try clear hcz41_0); (try clear hcz41_1); (try clear hcz41_2); (try clear hcz41_3); (try clear hcz41_4); (try clear hcz41_5); (try clear hcz41_6); (try clear hcz44_0); (try clear hcz44_1); (try clear hcz44_2); (try clear hcz44_3); (try clear hcz44_4); (try clear hcz44_5); (try clear hcz44_6); (try clear hcz46_0); (try clear hcz46_1); (try clear hcz46_2); (try clear hcz46_3); (try clear hcz46_4); (try clear hcz46_5); (try clear hcz46_6); (try clear hcz49_0); (try clear hcz49_1); (try clear hcz57_0); (try clear hcz57_1); (try clear hcz62_0); (try clear hcz62_1); (try clear hcz64_0); (try clear hcz64_1); (try clear hcz64_2); (try clear hcz64_3); (try clear hcz64_4); (try clear hcz64_5); (try clear hcz64_6); (try clear hcz6_0); (try clear hcz6_1); (try clear hcz72_0); (try clear hcz72_1); (try clear hcz74_0); (try clear hcz74_1); (try clear hcz74_2); (try clear hcz74_3); (try clear hcz74_4); (try clear hcz74_5); (try clear hcz74_6); (try clear hcz79_0); (try clear hcz79_1); (try clear hcz81_0); (try clear hcz81_1); (try clear hcz81_2); (try clear hcz81_3); (try clear hcz81_4); (try clear hcz81_5); (try clear hcz81_6); (try clear hcz85_0); (try clear hcz85_1); (try clear hfz10_0); (try clear hfz10_1); (try clear hfz10_2); (try clear hfz10_3); (try clear hfz10_4); (try clear hfz10_5); (try clear hfz10_6); (try clear hfz19_0); (try clear hfz19_1); (try clear hfz31_0); (try clear hfz31_1); (try clear hfz35_0); (try clear hfz35_1); (try clear hfz41_0); (try clear hfz41_1); (try clear hfz41_2); (try clear hfz41_3); (try clear hfz41_4); (try clear hfz41_5); (try clear hfz41_6); (try clear hfz44_0); (try clear hfz44_1); (try clear hfz44_2); (try clear hfz44_3); (try clear hfz44_4); (try clear hfz44_5); (try clear hfz44_6); (try clear hfz46_0); (try clear hfz46_1); (try clear hfz46_2); (try clear hfz46_3); (try clear hfz46_4); (try clear hfz46_5); (try clear hfz46_6); (try clear hfz49_0); (try clear hfz49_1); (try clear hfz57_0); (try clear hfz57_1); (try clear hfz62_0); (try clear hfz62_1); (try clear hfz64_0); (try clear hfz64_1); (try clear hfz64_2); (try clear hfz64_3); (try clear hfz64_4); (try clear hfz64_5); (try clear hfz64_6); (try clear hfz6_0); (try clear hfz6_1); (try clear hfz72_0); (try clear hfz72_1); (try clear hfz74_0); (try clear hfz74_1); (try clear hfz74_2); (try clear hfz74_3); (try clear hfz74_4); (try clear hfz74_5); (try clear hfz74_6); (try clear hfz79_0); (try clear hfz79_1); (try clear hfz81_0); (try clear hfz81_1); (try clear hfz81_2); (try clear hfz81_3); (try clear hfz81_4); (try clear hfz81_5); (try clear hfz81_6); (try clear hfz85_0); (try clear hfz85_1); (try clear hx251_0); (try clear hx251_1); (try clear hx253_0); (try clear p2); (try clear p251); (try clear p253); (try clear p6); (try clear q251); (try clear q253)
                obtain ⟨kq, x89_52, rfl, HA, HJ52, HO_234002, HO_234003, BK220, BK233, BK252, HB⟩ := hcut
                cases kq with
                | zero => exact absurd HA.out (by simp [atticlaw19_MarkBlack.j4])
                | succ kj52 =>
                 have H := HA.out
                 clear HA
                 simp only [atticlaw19_MarkBlack.j4] at H
                 by_cases c86 : x89_52 = true
                 ·subst c86
                  have H1 : (atticlaw19_MarkBlack.l1 kj52 (wrap64 (1 + (wrap64 (a1)))) t238 x45_2 l0_0 (l0_0.length : Int) (wrap64 (x61_4 + 1)) l0_0 l0_1 x234000_2 x234001_2 x234002_2 x234003_2 x234004_2 x234005_2 x234006_2) = some r := by rw [if_pos rfl] at H; exact H
                  clear H
                  have H := H1
                  clear H1
                  have H' := ak H
                  clear H
                  go_wp2
                  go_roundg kj52
                  case measure => have := HJ3.out; have := HK2.out; have := HJ37.out; have := HK4.out; have := HJ52.out; omega
                  case rel => exact ⟨(wrap64 (x61_4 + 1)), (by first | rfl | (simp; done) | (simp [*]; done) | (simp [Int.tdiv_eq_ediv_of_nonneg]; done)), H', ⟨by have := HJ3.out; have := HK2.out; have := HJ37.out; have := HK4.out; have := HJ52.out; omega⟩, ⟨by (with_reducible repeat (first | apply Kd.R_alloc | apply Kd.R_drewN | apply Kd.R_drew)); exact HO_234002.out⟩, ⟨by (with_reducible repeat (first | apply Kd.R_alloc | apply Kd.R_drewN | apply Kd.R_drew)); exact HO_234003.out⟩, ⟨by (with_reducible repeat first | apply kn_ | apply kd_ | apply ka_); exact BK220.out⟩, ⟨by (with_reducible repeat first | apply kn_ | apply kd_ | apply ka_); exact BK233.out⟩, ⟨by repeat (first | (with_reducible first | exact HB.out | apply ba_ | apply bn_ | apply b1_ | refine bs_ ?_ GE220.out | refine bs_ ?_ GE233.out | refine bs_ ?_ GE252.out) | exact HB.out)⟩⟩
                 ·replace c86 := Bool.eq_false_iff.mpr c86
                  subst c86
                  have H1 : (atticlaw19_MarkBlack.l2 kj52 (wrap64 (1 + (wrap64 (a1)))) t238 x45_2 l0_0 (l0_0.length : Int) x61_4 ((rd_T56 l0_0 x61_4).f1) (((rd_T56 l0_0 x61_4).f1).length : Int) 0 l0_0 l0_1 x234000_2 x234001_2 x234002_2 x234003_2 x234004_2 x234005_2 x234006_2) = some r := by rw [if_neg (show ¬ (false = true) by decide)] at H; exact H
                  clear H
                  have H := H1
                  clear H1
                  have H' := ak H
                  clear H
                  have hnb87 := NB252_220.out
                  have hnc87 := NB220_252.out
                  have hnb88 := NB252_233.out
                  have hnc88 := NB233_252.out
                  obtain ⟨hcz89_0, hcz89_1, hfz89_0, hfz89_1⟩ := kk2 BK252.out
                  go_wp2
                  go_loopg [93] kj52 (fun kq v93 w' => ∃ (x93_6 : Int), v93 = .int .i64 x93_6 ∧ Aside0 (atticlaw19_MarkBlack.l2 kq (wrap64 (1 + (wrap64 (a1)))) t238 x45_2 l0_0 (l0_0.length : Int) x61_4 ((rd_T56 l0_0 x61_4).f1) (((rd_T56 l0_0 x61_4).f1).length : Int) x93_6 l0_0 l0_1 x234000_2 x234001_2 x234002_2 x234003_2 x234004_2 x234005_2 x234006_2 = some r) ∧ Aside0 (kq ≤ kj52) ∧ Aside0 (Kd.R Kd.bool 4 w' w.heap.size (fun _ => True) u234002 x234002_2) ∧ Aside0 (Kd.R (Kd.int .i64) 3 w' w.heap.size (fun _ => True) u234003 x234003_2) ∧ Aside0 (w'.heap[gb220]? = some (.cells #[(.slice (some ad251) l0_0.length c0_0), (.slice A0_1 l0_1.length c0_1)] 25 (0, 0))) ∧ Aside0 (w'.heap[gb233]? = some (.cells #[.int .i64 x234000_2, .int .i64 x234001_2, u234002, u234003, .bool x234004_2, .bool x234005_2, .bool x234006_2] 28 (0, 0))) ∧ Aside0 (w'.heap[gb252]? = some (.cells #[.int .i64 ((rd_T56 l0_0 x61_4).f0), (.slice A251_1 ((rd_T56 l0_0 x61_4).f1).length c251_1)] 56 (0, 0))) ∧ Aside0 (Below w.heap.size w w'))
                  case atStart => exact ⟨(0), (by first | rfl | (simp; done) | (simp [*]; done) | (simp [Int.tdiv_eq_ediv_of_nonneg]; done)), H', ⟨Nat.le_refl _⟩, ⟨by (with_reducible repeat (first | apply Kd.R_alloc | apply Kd.R_drewN | apply Kd.R_drew)); exact HO_234002.out⟩, ⟨by (with_reducible repeat (first | apply Kd.R_alloc | apply Kd.R_drewN | apply Kd.R_drew)); exact HO_234003.out⟩, ⟨by (with_reducible repeat first | apply kn_ | apply kd_ | apply ka_); exact BK220.out⟩, ⟨by (with_reducible repeat first | apply kn_ | apply kd_ | apply ka_); exact BK233.out⟩, ⟨by (with_reducible repeat first | apply kn_ | apply kd_ | apply ka_); exact BK252.out⟩, ⟨by repeat (first | (with_reducible first | exact HB.out | apply ba_ | apply bn_ | apply b1_ | refine bs_ ?_ GE220.out | refine bs_ ?_ GE233.out | refine bs_ ?_ GE252.out) | exact HB.out)⟩⟩
                  case round =>
                   clear H'
                   (try clear c1); (try clear c2); (try clear p2); (try clear q2); (try clear hx2); (try clear c3); (try clear c4); (try clear c5); (try clear c6); (try clear p6); (try clear q6); (try clear c7); (try clear c8); (try clear c9); (try clear c10); (try clear c14); (try clear c15); (try clear c15b0); (try clear c15b1); (try clear c18); (try clear c21); (try clear c23); (try clear c25); (try clear p25); (try clear q25); (try clear hx25); (try clear c26); (try clear c26b0); (try clear c26b1); (try clear c30); (try clear c34); (try clear c37); (try clear c37b0); (try clear c39); (try clear c39b0); (try clear c40); (try clear c42); (try clear c43); (try clear c45); (try clear c47); (try clear c48); (try clear c50); (try clear c50b0); (try clear c51); (try clear c51b0); (try clear c52); (try clear c52b0); (try clear c55); (try clear c56); (try clear c58); (try clear c58b0); (try clear c58b1); (try clear c59); (try clear c59b0); (try clear c60); (try clear c61); (try clear c63); (try clear p64); (try clear c66); (try clear c66b0); (try clear q67); (try clear c68); (try clear c70); (try clear c71); (try clear c73); (try clear c77); (try clear c78); (try clear c80); (try clear c83); (try clear c84); (try clear c86); (try clear c87); (try clear c88); (try clear hcz10_0); (try clear hcz10_1); (try clear hcz10_2); (try clear hcz10_3); (try clear hcz10_4); (try clear hcz10_5); (try clear hcz10_6); (try clear hcz19_0); (try clear hcz19_1); (try clear hcz31_0); (try clear hcz31_1); (try clear hcz35_0); (try clear hcz35_1); (try clear hcz41_0); (try clear hcz41_1); (try clear hcz41_2); (try clear hcz41_3); (try clear hcz41_4); (try clear hcz41_5); (try clear hcz41_6); (try clear hcz44_0); (try clear hcz44_1); (try clear hcz44_2); (try clear hcz44_3); (try clear hcz44_4); (try clear hcz44_5); (try clear hcz44_6); (try clear hcz46_0); (try clear hcz46_1); (try clear hcz46_2); (try clear hcz46_3); (try clear hcz46_4); (try clear hcz46_5); (try clear hcz46_6); (try clear hcz49_0); (try clear hcz49_1); (try clear hcz57_0); (try clear hcz57_1); (try clear hcz62_0); (try clear hcz62_1); (try clear hcz64_0); (try clear hcz64_1); (try clear hcz64_2); (try clear hcz64_3); (try clear hcz64_4); (try clear hcz64_5); (try clear hcz64_6); (try clear hcz6_0); (try clear hcz6_1); (try clear hcz72_0); (try clear hcz72_1); (try clear hcz74_0); (try clear hcz74_1); (try clear hcz74_2); (try clear hcz74_3); (try clear hcz74_4); (try clear hcz74_5); (try clear hcz74_6); (try clear hcz79_0); (try clear hcz79_1); (try clear hcz81_0); (try clear hcz81_1); (try clear hcz81_2); (try clear hcz81_3); (try clear hcz81_4); (try clear hcz81_5); (try clear hcz81_6); (try clear hcz85_0); (try clear hcz85_1); (try clear hcz89_0); (try clear hcz89_1); (try clear hfz10_0); (try clear hfz10_1); (try clear hfz10_2); (try clear hfz10_3); (try clear hfz10_4); (try clear hfz10_5); (try clear hfz10_6); (try clear hfz19_0); (try clear hfz19_1); (try clear hfz31_0); (try clear hfz31_1); (try clear hfz35_0); (try clear hfz35_1); (try clear hfz41_0); (try clear hfz41_1); (try clear hfz41_2); (try clear hfz41_3); (try clear hfz41_4); (try clear hfz41_5); (try clear hfz41_6); (try clear hfz44_0); (try clear hfz44_1); (try clear hfz44_2); (try clear hfz44_3); (try clear hfz44_4); (try clear hfz44_5); (try clear hfz44_6); (try clear hfz46_0); (try clear hfz46_1); (try clear hfz46_2); (try clear hfz46_3); (try clear hfz46_4); (try clear hfz46_5); (try clear hfz46_6); (try clear hfz49_0); (try clear hfz49_1); (try clear hfz57_0); (try clear hfz57_1); (try clear hfz62_0); (try clear hfz62_1); (try clear hfz64_0); (try clear hfz64_1); (try clear hfz64_2); (try clear hfz64_3); (try clear hfz64_4); (try clear hfz64_5); (try clear hfz64_6); (try clear hfz6_0); (try clear hfz6_1); (try clear hfz72_0); (try clear hfz72_1); (try clear hfz74_0); (try clear hfz74_1); (try clear hfz74_2); (try clear hfz74_3); (try clear hfz74_4); (try clear hfz74_5); (try clear hfz74_6); (try clear hfz79_0); (try clear hfz79_1); (try clear hfz81_0); (try clear hfz81_1); (try clear hfz81_2); (try clear hfz81_3); (try clear hfz81_4); (try clear hfz81_5); (try clear hfz81_6); (try clear hfz85_0); (try clear hfz85_1); (try clear hfz89_0); (try clear hfz89_1); (try clear hx251_0); (try clear hx251_1); (try clear hx253_0); (try clear p2); (try clear p25); (try clear p251); (try clear p253); (try clear p6); (try clear p64); (try clear q2); (try clear q25); (try clear q251); (try clear q253); (try clear q6); (try clear q67)
                   obtain ⟨x93_6, rfl, HA, HK6, HO_234002, HO_234003, BK220, BK233, BK252, HB⟩ := hrel
                   cases gk with
                   | zero => exact absurd HA.out (by simp [atticlaw19_MarkBlack.l2])
                   | succ k6 =>
                    have H := HA.out
                    clear HA
                    simp only [atticlaw19_MarkBlack.l2] at H
                    by_cases c90 : x93_6 < (((rd_T56 l0_0 x61_4).f1).length : Int)
                    ·rw [if_pos c90] at H
                     have c90b0 : decide (x93_6 < (((rd_T56 l0_0 x61_4).f1).length : Int)) = true := decide_eq_true c90
                     clear c90
                     by_cases c91 : 0 ≤ x93_6
                     ·rw [if_pos c91] at H
                      have c91b0 : decide (0 ≤ x93_6) = true := decide_eq_true c91
                      clear c91
                      by_cases c92 : x93_6 < (((rd_T56 l0_0 x61_4).f1).length : Int)
                      ·rw [if_pos c92] at H
                       have c92b0 : decide (x93_6 < (((rd_T56 l0_0 x61_4).f1).length : Int)) = true := decide_eq_true c92
                       clear c92
                       by_cases c93 : (rd ((rd_T56 l0_0 x61_4).f1) x93_6) ≥ 0
                       ·rw [if_pos c93] at H
                        have c93b0 : decide (0 ≤ (rd ((rd_T56 l0_0 x61_4).f1) x93_6)) = true := decide_eq_true c93
                        clear c93
                        by_cases c94 : (rd ((rd_T56 l0_0 x61_4).f1) x93_6) < (x234002_2.length : Int)
                        ·rw [if_pos c94] at H
                         have c94b0 : decide ((rd ((rd_T56 l0_0 x61_4).f1) x93_6) < (x234002_2.length : Int)) = true := decide_eq_true c94
                         clear c94
                         by_cases c95 : 0 ≤ (rd ((rd_T56 l0_0 x61_4).f1) x93_6)
                         ·rw [if_pos c95] at H
                          have c95b0 : decide (0 ≤ (rd ((rd_T56 l0_0 x61_4).f1) x93_6)) = true := decide_eq_true c95
                          clear c95
                          obtain ⟨bq96, hbq96⟩ : ∃ b_ : Bool, b_ = (rdOf false x234002_2 (rd ((rd_T56 l0_0 x61_4).f1) x93_6)) := ⟨_, rfl⟩
                          replace H : (if (bq96 = true) then (atticlaw19_MarkBlack.l2 k6 (wrap64 (1 + (wrap64 (a1)))) t238 x45_2 l0_0 (l0_0.length : Int) x61_4 ((rd_T56 l0_0 x61_4).f1) (((rd_T56 l0_0 x61_4).f1).length : Int) (wrap64 (x93_6 + 1)) l0_0 l0_1 x234000_2 x234001_2 x234002_2 x234003_2 x234004_2 x234005_2 x234006_2) else (some false)) = some r := by rw [← hbq96] at H; exact H
                          have Nbq96 := ak hbq96
                          clear hbq96
                          by_cases c97 : (bq96 = true)
                          ·subst c97
                           have H1 : (atticlaw19_MarkBlack.l2 k6 (wrap64 (1 + (wrap64 (a1)))) t238 x45_2 l0_0 (l0_0.length : Int) x61_4 ((rd_T56 l0_0 x61_4).f1) (((rd_T56 l0_0 x61_4).f1).length : Int) (wrap64 (x93_6 + 1)) l0_0 l0_1 x234000_2 x234001_2 x234002_2 x234003_2 x234004_2 x234005_2 x234006_2) = some r := by rw [if_pos rfl] at H; exact H
                           clear H
                           have H := H1
                           clear H1
                           have H' := ak H
                           clear H
                           have p255 : 0 ≤ (x93_6 : Int) := of_decide_eq_true (by first | (with_reducible assumption) | assumption)
                           have q255 : x93_6 < (((rd_T56 l0_0 x61_4).f1).length : Int) := of_decide_eq_true (by first | (with_reducible assumption) | assumption)
                           obtain ⟨ad255, e255, hx255_0⟩ := Kd.at_int HR251_1.out x93_6 p255 q255
                           cases e255
                           replace hx255_0 := (HB.out.cell (World.block_lt_of_cell? w _ hx255_0)).trans hx255_0
                           replace p255 := eq_true p255
                           replace q255 := eq_true q255
                           have hnb98 := NB233_220.out
                           have hnc98 := NB220_233.out
                           have hnb99 := NB233_252.out
                           have hnc99 := NB252_233.out
                           obtain ⟨hcz100_0, hcz100_1, hcz100_2, hcz100_3, hcz100_4, hcz100_5, hcz100_6, hfz100_0, hfz100_1, hfz100_2, hfz100_3, hfz100_4, hfz100_5, hfz100_6⟩ := kk7 BK233.out
                           obtain ⟨Ao101, co101, eo101⟩ := Kd.R_slice HO_234002.out
                           subst eo101
                           have p256 : 0 ≤ ((rd ((rd_T56 l0_0 x61_4).f1) x93_6) : Int) := of_decide_eq_true (by first | (with_reducible assumption) | assumption)
                           have q256 : (rd ((rd_T56 l0_0 x61_4).f1) x93_6) < (x234002_2.length : Int) := of_decide_eq_true (by first | (with_reducible assumption) | assumption)
                           obtain ⟨ad256, e256, hx256_0⟩ := Kd.at_bool (Kd.R_reads' HO_234002.out).2.2 (rd ((rd_T56 l0_0 x61_4).f1) x93_6) p256 q256
                           (try rw [← Nbq96.out] at hx256_0)
                           cases e256
                           replace p256 := eq_true p256
                           replace q256 := eq_true q256
                           go_wp2
                           go_roundg k6
                           case measure => have := HJ3.out; have := HK2.out; have := HJ37.out; have := HK4.out; have := HJ52.out; have := HK6.out; omega
                           case rel => exact ⟨(wrap64 (x93_6 + 1)), (by first | rfl | (simp; done) | (simp [*]; done) | (simp [Int.tdiv_eq_ediv_of_nonneg]; done)), H', ⟨by have := HJ3.out; have := HK2.out; have := HJ37.out; have := HK4.out; have := HJ52.out; have := HK6.out; omega⟩, ⟨by (with_reducible repeat (first | apply Kd.R_alloc | apply Kd.R_drewN | apply Kd.R_drew)); exact HO_234002.out⟩, ⟨by (with_reducible repeat (first | apply Kd.R_alloc | apply Kd.R_drewN | apply Kd.R_drew)); exact HO_234003.out⟩, ⟨by (with_reducible repeat first | apply kn_ | apply kd_ | apply ka_); exact BK220.out⟩, ⟨by (with_reducible repeat first | apply kn_ | apply kd_ | apply ka_); exact BK233.out⟩, ⟨by (with_reducible repeat first | apply kn_ | apply kd_ | apply ka_); exact BK252.out⟩, ⟨by repeat (first | (with_reducible first | exact HB.out | apply ba_ | apply bn_ | apply b1_ | refine bs_ ?_ GE220.out | refine bs_ ?_ GE233.out | refine bs_ ?_ GE252.out) | exact HB.out)⟩⟩
                          ·replace c97 := Bool.eq_false_iff.mpr c97
                           subst c97
                           have H1 : (some false) = some r := by rw [if_neg (show ¬ (false = true) by decide)] at H; exact H
                           clear H
                           have H := H1
                           clear H1
                           exact absurd (Option.some.inj H) (by rw [hrt_.out]; decide)
                         ·rw [if_neg c95] at H
                          exact absurd H (by simp)
                        ·rw [if_neg c94] at H
                         have c94b0 : decide ((rd ((rd_T56 l0_0 x61_4).f1) x93_6) < (x234002_2.length : Int)) = false := decide_eq_false c94
                         clear c94
                         have H' := ak H
                         clear H
                         have p255 : 0 ≤ (x93_6 : Int) := of_decide_eq_true (by first | (with_reducible assumption) | assumption)
                         have q255 : x93_6 < (((rd_T56 l0_0 x61_4).f1).length : Int) := of_decide_eq_true (by first | (with_reducible assumption) | assumption)
                         obtain ⟨ad255, e255, hx255_0⟩ := Kd.at_int HR251_1.out x93_6 p255 q255
                         cases e255
                         replace hx255_0 := (HB.out.cell (World.block_lt_of_cell? w _ hx255_0)).trans hx255_0
                         replace p255 := eq_true p255
                         replace q255 := eq_true q255
                         have hnb102 := NB233_220.out
                         have hnc102 := NB220_233.out
                         have hnb103 := NB233_252.out
                         have hnc103 := NB252_233.out
                         obtain ⟨hcz104_0, hcz104_1, hcz104_2, hcz104_3, hcz104_4, hcz104_5, hcz104_6, hfz104_0, hfz104_1, hfz104_2, hfz104_3, hfz104_4, hfz104_5, hfz104_6⟩ := kk7 BK233.out
                         obtain ⟨Ao105, co105, eo105⟩ := Kd.R_slice HO_234002.out
                         subst eo105
                         go_wp2
                         go_roundg k6
                         case measure => have := HJ3.out; have := HK2.out; have := HJ37.out; have := HK4.out; have := HJ52.out; have := HK6.out; omega
                         case rel => exact ⟨(wrap64 (x93_6 + 1)), (by first | rfl | (simp; done) | (simp [*]; done) | (simp [Int.tdiv_eq_ediv_of_nonneg]; done)), H', ⟨by have := HJ3.out; have := HK2.out; have := HJ37.out; have := HK4.out; have := HJ52.out; have := HK6.out; omega⟩, ⟨by (with_reducible repeat (first | apply Kd.R_alloc | apply Kd.R_drewN | apply Kd.R_drew)); exact HO_234002.out⟩, ⟨by (with_reducible repeat (first | apply Kd.R_alloc | apply Kd.R_drewN | apply Kd.R_drew)); exact HO_234003.out⟩, ⟨by (with_reducible repeat first | apply kn_ | apply kd_ | apply ka_); exact BK220.out⟩, ⟨by (with_reducible repeat first | apply kn_ | apply kd_ | apply ka_); exact BK233.out⟩, ⟨by (with_reducible repeat first | apply kn_ | apply kd_ | apply ka_); exact BK252.out⟩, ⟨by repeat (first | (with_reducible first | exact HB.out | apply ba_ | apply bn_ | apply b1_ | refine bs_ ?_ GE220.out | refine bs_ ?_ GE233.out | refine bs_ ?_ GE252.out) | exact HB.out)⟩⟩
                       ·rw [if_neg c93] at H
                        have c93b0 : decide (0 ≤ (rd ((rd_T56 l0_0 x61_4).f1) x93_6)) = false := decide_eq_false c93
                        clear c93
                        have H' := ak H
                        clear H
                        have p255 : 0 ≤ (x93_6 : Int) := of_decide_eq_true (by first | (with_reducible assumption) | assumption)
                        have q255 : x93_6 < (((rd_T56 l0_0 x61_4).f1).length : Int) := of_decide_eq_true (by first | (with_reducible assumption) | assumption)
                        obtain ⟨ad255, e255, hx255_0⟩ := Kd.at_int HR251_1.out x93_6 p255 q255
                        cases e255
                        replace hx255_0 := (HB.out.cell (World.block_lt_of_cell? w _ hx255_0)).trans hx255_0
                        replace p255 := eq_true p255
                        replace q255 := eq_true q255
                        go_wp2
                        go_roundg k6
                        case measure => have := HJ3.out; have := HK2.out; have := HJ37.out; have := HK4.out; have := HJ52.out; have := HK6.out; omega
                        case rel => exact ⟨(wrap64 (x93_6 + 1)), (by first | rfl | (simp; done) | (simp [*]; done) | (simp [Int.tdiv_eq_ediv_of_nonneg]; done)), H', ⟨by have := HJ3.out; have := HK2.out; have := HJ37.out; have := HK4.out; have := HJ52.out; have := HK6.out; omega⟩, ⟨by (with_reducible repeat (first | apply Kd.R_alloc | apply Kd.R_drewN | apply Kd.R_drew)); exact HO_234002.out⟩, ⟨by (with_reducible repeat (first | apply Kd.R_alloc | apply Kd.R_drewN | apply Kd.R_drew)); exact HO_234003.out⟩, ⟨by (with_reducible repeat first | apply kn_ | apply kd_ | apply ka_); exact BK220.out⟩, ⟨by (with_reducible repeat first | apply kn_ | apply kd_ | apply ka_); exact BK233.out⟩, ⟨by (with_reducible repeat first | apply kn_ | apply kd_ | apply ka_); exact BK252.out⟩, ⟨by repeat (first | (with_reducible first | exact HB.out | apply ba_ | apply bn_ | apply b1_ | refine bs_ ?_ GE220.out | refine bs_ ?_ GE233.out | refine bs_ ?_ GE252.out) | exact HB.out)⟩⟩
                      ·rw [if_neg c92] at H
                       exact absurd H (by simp)
                     ·rw [if_neg c91] at H
                      exact absurd H (by simp)
                    ·rw [if_neg c90] at H
                     have c90b0 : decide (x93_6 < (((rd_T56 l0_0 x61_4).f1).length : Int)) = false := decide_eq_false c90
                     clear c90
                     have H' := ak H
                     clear H
                     go_wp2
                     go_roundg k6
                     case measure => have := HJ3.out; have := HK2.out; have := HJ37.out; have := HK4.out; have := HJ52.out; have := HK6.out; omega
                     case rel => exact ⟨(wrap64 (x61_4 + 1)), (by first | rfl | (simp; done) | (simp [*]; done) | (simp [Int.tdiv_eq_ediv_of_nonneg]; done)), H', ⟨by have := HJ3.out; have := HK2.out; have := HJ37.out; have := HK4.out; have := HJ52.out; have := HK6.out; omega⟩, ⟨by (with_reducible repeat (first | apply Kd.R_alloc | apply Kd.R_drewN | apply Kd.R_drew)); exact HO_234002.out⟩, ⟨by (with_reducible repeat (first | apply Kd.R_alloc | apply Kd.R_drewN | apply Kd.R_drew)); exact HO_234003.out⟩, ⟨by (with_reducible repeat first | apply kn_ | apply kd_ | apply ka_); exact BK220.out⟩, ⟨by (with_reducible repeat first | apply kn_ | apply kd_ | apply ka_); exact BK233.out⟩, ⟨by repeat (first | (with_reducible first | exact HB.out | apply ba_ | apply bn_ | apply b1_ | refine bs_ ?_ GE220.out | refine bs_ ?_ GE233.out | refine bs_ ?_ GE252.out) | exact HB.out)⟩⟩
              ·rw [if_neg c52] at H
               exact absurd H (by simp)
             ·rw [if_neg c51] at H
              exact absurd H (by simp)
            ·rw [if_neg c50] at H
             have c50b0 : decide (x61_4 < (l0_0.length : Int)) = false := decide_eq_false c50
             clear c50
             replace H := Option.bind_eq_some_iff.mp H
             obtain ⟨⟨t239, t240, t241, t244, t247, t248, t249, t250⟩, A1060, H⟩ := H
             replace H : (atticlaw19_MarkBlack.l0 k4 (wrap64 (1 + (wrap64 (a1)))) t238 (wrap64 (x45_2 + 1)) l0_0 l0_1 t239 t240 t241 t244 t247 t248 t249) = some r := H
             have A106 := ak A1060
             clear A1060
             have H' := ak H
             clear H
             have hnb107 := NB220_233.out
             have hnc107 := NB233_220.out
             obtain ⟨hcz108_0, hcz108_1, hfz108_0, hfz108_1⟩ := kk2 BK220.out
             obtain ⟨hcz109_0, hcz109_1, hcz109_2, hcz109_3, hcz109_4, hcz109_5, hcz109_6, hfz109_0, hfz109_1, hfz109_2, hfz109_3, hfz109_4, hfz109_5, hfz109_6⟩ := kk7 BK233.out
             obtain ⟨Ao110, co110, eo110⟩ := Kd.R_slice HO_234002.out
             subst eo110
             obtain ⟨Ao111, co111, eo111⟩ := Kd.R_slice HO_234003.out
             subst eo111
             go_wp2_with (first | ((with_reducible refine gate_callee (f := 26) rfl ?_); refine goesL_ (some 120) rfl rfl Try.func26 (by kernel_rfl) rfl #[.agg #[.slice A0_0 l0_0.length c0_0, .slice A0_1 l0_1.length c0_1], .int .i64 (wrap64 (1 + (wrap64 (a1)))), .agg #[.int .i64 x234000_2, .int .i64 x234001_2, .slice Ao110 x234002_2.length co110, .slice Ao111 x234003_2.length co111, .bool x234004_2, .bool x234005_2, .bool x234006_2]] rfl (by (try simp only [List.map_toArray, List.map_cons, List.map_nil]); first | done | rfl | (simp only [List.length_drop, List.length_take]; rfl)) ?_; (with_reducible refine (mark_Step.calls k4 _ _ l0_0 _ _ l0_1 (wrap64 (1 + (wrap64 (a1)))) x234000_2 x234001_2 _ _ x234002_2 _ _ x234003_2 x234004_2 x234005_2 x234006_2 t239 t240 t241 t244 t247 t248 t249 t250 _ ?side1 ?side2 ?side3 ?side4 ?side5 ?side6 ?side7 ?side8 A106.out).mono ?_); (case side1 => repeat (first | exact (Kd.C_below HR0_0.out HB.out) | (with_reducible refine Kd.C_alloc ?_ _) | (with_reducible refine Kd.C_drewN ?_ _) | (with_reducible refine Kd.C_drew ?_))); (case side2 => exact HC0_0.out); (case side3 => repeat (first | exact (Kd.C_below HR0_1.out HB.out) | (with_reducible refine Kd.C_alloc ?_ _) | (with_reducible refine Kd.C_drewN ?_ _) | (with_reducible refine Kd.C_drew ?_))); (case side4 => exact HC0_1.out); (case side5 => repeat (first | exact (Kd.R_reads' HO_234002.out).2.2 | (with_reducible refine Kd.C_alloc ?_ _) | (with_reducible refine Kd.C_drewN ?_ _) | (with_reducible refine Kd.C_drew ?_))); (case side6 => exact (Kd.R_reads' HO_234002.out).2.1); (case side7 => repeat (first | exact (Kd.R_reads' HO_234003.out).2.2 | (with_reducible refine Kd.C_alloc ?_ _) | (with_reducible refine Kd.C_drewN ?_ _) | (with_reducible refine Kd.C_drew ?_))); (case side8 => exact (Kd.R_reads' HO_234003.out).2.1); rintro e w112 ⟨v242, v245, rfl, ho0, ho1, hb⟩; refine ⟨_, rfl, ?_⟩; have n0_ := ak (Kd.R_elder' (by (with_reducible repeat (first | apply Kd.R_alloc | apply Kd.R_drewN | apply Kd.R_drew)); exact HO_234002.out) (Kd.R_base ho0) hb); have n1_ := ak (Kd.R_elder' (by (with_reducible repeat (first | apply Kd.R_alloc | apply Kd.R_drewN | apply Kd.R_drew)); exact HO_234003.out) (Kd.R_base ho1) hb); have n2_ := ak (Kd.R_lower (Kd.R_new' ho0 (Kd.R_lt (by (with_reducible repeat (first | apply Kd.R_alloc | apply Kd.R_drewN | apply Kd.R_drew)); exact HO_234002.out))) (below_size (by repeat (first | (with_reducible first | exact HB.out | apply ba_ | apply bn_ | apply b1_ | refine bs_ ?_ GE220.out | refine bs_ ?_ GE233.out) | exact HB.out)))); have n3_ := ak (Kd.R_lower (Kd.R_new' ho1 (Kd.R_lt (by (with_reducible repeat (first | apply Kd.R_alloc | apply Kd.R_drewN | apply Kd.R_drew)); exact HO_234003.out))) (below_size (by repeat (first | (with_reducible first | exact HB.out | apply ba_ | apply bn_ | apply b1_ | refine bs_ ?_ GE220.out | refine bs_ ?_ GE233.out) | exact HB.out)))); have n4_ := ak (blk_below (g := gb220) (o := .cells #[.slice A0_0 l0_0.length c0_0, .slice A0_1 l0_1.length c0_1] 25 (0, 0)) (by (with_reducible repeat first | apply kn_ | apply kd_ | apply ka_); exact BK220.out) hb); have n5_ := ak (blk_below (g := gb233) (o := .cells #[.int .i64 x234000_2, .int .i64 x234001_2, .slice Ao110 x234002_2.length co110, .slice Ao111 x234003_2.length co111, .bool x234004_2, .bool x234005_2, .bool x234006_2] 28 (0, 0)) (by (with_reducible repeat first | apply kn_ | apply kd_ | apply ka_); exact BK233.out) hb); have n6_ := ak (below_step (by repeat (first | (with_reducible first | exact HB.out | apply ba_ | apply bn_ | apply b1_ | refine bs_ ?_ GE220.out | refine bs_ ?_ GE233.out) | exact HB.out)) hb); clear HO_234002; clear HO_234003; clear BK220; clear BK233; clear HB; have HO_234002 := n0_; have HO_234003 := n1_; have HO243 := n2_; have HO246 := n3_; have BK220 := n4_; have BK233 := n5_; have HB := n6_; clear n0_ n1_ n2_ n3_ n4_ n5_ n6_; (try clear hb); (try clear hb2); (try clear hk); (try clear hi); (try clear ho0); (try clear ho1); (try clear A106); obtain ⟨hcz113_0, hcz113_1, hcz113_2, hcz113_3, hcz113_4, hcz113_5, hcz113_6, hfz113_0, hfz113_1, hfz113_2, hfz113_3, hfz113_4, hfz113_5, hfz113_6⟩ := kk7 BK233.out; obtain ⟨Ao114, co114, eo114⟩ := Kd.R_slice HO243.out; subst eo114; obtain ⟨Ao115, co115, eo115⟩ := Kd.R_slice HO246.out; subst eo115))
             go_roundg k4
             case measure => have := HJ3.out; have := HK2.out; have := HJ37.out; have := HK4.out; omega
             case rel => exact ⟨(wrap64 (x45_2 + 1)), (t239), (t240), (t241), (t244), (t247), (t248), (t249), (.slice Ao114 t241.length co114), (.slice Ao115 t244.length co115), (by first | rfl | (simp; done) | (simp [*]; done) | (simp [Int.tdiv_eq_ediv_of_nonneg]; done)), H', ⟨by have := HJ3.out; have := HK2.out; have := HJ37.out; have := HK4.out; omega⟩, ⟨by (with_reducible repeat (first | apply Kd.R_alloc | apply Kd.R_drewN | apply Kd.R_drew)); exact Kd.R_mono (Kd.R_far (p := ⟨gb233, 6, none⟩) (Kd.R_far (p := ⟨gb233, 5, none⟩) (Kd.R_far (p := ⟨gb233, 4, none⟩) (Kd.R_far (p := ⟨gb233, 3, none⟩) (Kd.R_far (p := ⟨gb233, 2, none⟩) (Kd.R_far (p := ⟨gb233, 1, none⟩) (Kd.R_far (p := ⟨gb233, 0, none⟩) (Kd.R_types HO243.out BK233.out (by decide)) (fun _ hk => hk.2) (.int .i64 t239)) (fun _ hk => hk.2) (.int .i64 t240)) (fun _ hk => hk.2) (.slice Ao114 t241.length co114)) (fun _ hk => hk.2) (.slice Ao115 t244.length co115)) (fun _ hk => hk.2) (.bool t247)) (fun _ hk => hk.2) (.bool t248)) (fun _ hk => hk.2) (.bool t249)) (fun _ hk => trivial)⟩, ⟨by (with_reducible repeat (first | apply Kd.R_alloc | apply Kd.R_drewN | apply Kd.R_drew)); exact Kd.R_mono (Kd.R_far (p := ⟨gb233, 6, none⟩) (Kd.R_far (p := ⟨gb233, 5, none⟩) (Kd.R_far (p := ⟨gb233, 4, none⟩) (Kd.R_far (p := ⟨gb233, 3, none⟩) (Kd.R_far (p := ⟨gb233, 2, none⟩) (Kd.R_far (p := ⟨gb233, 1, none⟩) (Kd.R_far (p := ⟨gb233, 0, none⟩) (Kd.R_types HO246.out BK233.out (by decide)) (fun _ hk => hk.2) (.int .i64 t239)) (fun _ hk => hk.2) (.int .i64 t240)) (fun _ hk => hk.2) (.slice Ao114 t241.length co114)) (fun _ hk => hk.2) (.slice Ao115 t244.length co115)) (fun _ hk => hk.2) (.bool t247)) (fun _ hk => hk.2) (.bool t248)) (fun _ hk => hk.2) (.bool t249)) (fun _ hk => trivial)⟩, ⟨by (with_reducible repeat first | apply kn_ | apply kd_ | apply ka_); refine blk_far ?_ NB220_233.out _; (with_reducible repeat first | apply kn_ | apply kd_ | apply ka_); refine blk_far ?_ NB220_233.out _; (with_reducible repeat first | apply kn_ | apply kd_ | apply ka_); refine blk_far ?_ NB220_233.out _; (with_reducible repeat first | apply kn_ | apply kd_ | apply ka_); refine blk_far ?_ NB220_233.out _; (with_reducible repeat first | apply kn_ | apply kd_ | apply ka_); refine blk_far ?_ NB220_233.out _; (with_reducible repeat first | apply kn_ | apply kd_ | apply ka_); refine blk_far ?_ NB220_233.out _; (with_reducible repeat first | apply kn_ | apply kd_ | apply ka_); refine blk_far ?_ NB220_233.out _; (with_reducible repeat first | apply kn_ | apply kd_ | apply ka_); exact BK220.out⟩, ⟨by (with_reducible repeat first | apply kn_ | apply kd_ | apply ka_); refine blk_put (cs := #[.int .i64 t239, .int .i64 t240, .slice Ao114 t241.length co114, .slice Ao115 t244.length co115, .bool t247, .bool t248, .bool x234006_2]) ?_ 6 _ rfl; (with_reducible repeat first | apply kn_ | apply kd_ | apply ka_); refine blk_put (cs := #[.int .i64 t239, .int .i64 t240, .slice Ao114 t241.length co114, .slice Ao115 t244.length co115, .bool t247, .bool x234005_2, .bool x234006_2]) ?_ 5 _ rfl; (with_reducible repeat first | apply kn_ | apply kd_ | apply ka_); refine blk_put (cs := #[.int .i64 t239, .int .i64 t240, .slice Ao114 t241.length co114, .slice Ao115 t244.length co115, .bool x234004_2, .bool x234005_2, .bool x234006_2]) ?_ 4 _ rfl; (with_reducible repeat first | apply kn_ | apply kd_ | apply ka_); refine blk_put (cs := #[.int .i64 t239, .int .i64 t240, .slice Ao114 t241.length co114, .slice Ao111 x234003_2.length co111, .bool x234004_2, .bool x234005_2, .bool x234006_2]) ?_ 3 _ rfl; (with_reducible repeat first | apply kn_ | apply kd_ | apply ka_); refine blk_put (cs := #[.int .i64 t239, .int .i64 t240, .slice Ao110 x234002_2.length co110, .slice Ao111 x234003_2.length co111, .bool x234004_2, .bool x234005_2, .bool x234006_2]) ?_ 2 _ rfl; (with_reducible repeat first | apply kn_ | apply kd_ | apply ka_); refine blk_put (cs := #[.int .i64 t239, .int .i64 x234001_2, .slice Ao110 x234002_2.length co110, .slice Ao111 x234003_2.length co111, .bool x234004_2, .bool x234005_2, .bool x234006_2]) ?_ 1 _ rfl; (with_reducible repeat first | apply kn_ | apply kd_ | apply ka_); refine blk_put (cs := #[.int .i64 x234000_2, .int .i64 x234001_2, .slice Ao110 x234002_2.length co110, .slice Ao111 x234003_2.length co111, .bool x234004_2, .bool x234005_2, .bool x234006_2]) ?_ 0 _ rfl; (with_reducible repeat first | apply kn_ | apply kd_ | apply ka_); exact BK233.out⟩, ⟨by repeat (first | (with_reducible first | exact HB.out | apply ba_ | apply bn_ | apply b1_ | refine bs_ ?_ GE220.out | refine bs_ ?_ GE233.out) | exact HB.out)⟩⟩
      ·rw [if_neg c37] at H
       have c37b0 : decide (x45_2 < t238) = false := decide_eq_false c37
       clear c37
       by_cases c116 : x234000_2 > 1
       ·rw [if_pos c116] at H
        have c116b0 : decide (1 < x234000_2) = true := decide_eq_true c116
        clear c116
        obtain rfl := Option.some.inj H
        have hnb117 := NB233_220.out
        have hnc117 := NB220_233.out
        obtain ⟨hcz118_0, hcz118_1, hcz118_2, hcz118_3, hcz118_4, hcz118_5, hcz118_6, hfz118_0, hfz118_1, hfz118_2, hfz118_3, hfz118_4, hfz118_5, hfz118_6⟩ := kk7 BK233.out
        go_wp2
        go_ret
        exact ⟨by first | rfl | (simp [errW_none, errW_some] <;> rfl) | (simp [*, errW_none, errW_some] <;> rfl) | (simp [Int.tdiv_eq_ediv_of_nonneg]; done), by repeat (first | (with_reducible first | exact HB.out | apply ba_ | apply bn_ | apply b1_ | refine bs_ ?_ GE220.out | refine bs_ ?_ GE233.out) | exact HB.out)⟩
       ·rw [if_neg c116] at H
        have c116b0 : decide (1 < x234000_2) = false := decide_eq_false c116
        clear c116
        by_cases c119 : x234004_2 = true
        ·subst c119
         have H1 : (some true) = some r := by rw [if_pos rfl] at H; exact H
         clear H
         have H := H1
         clear H1
         obtain rfl := Option.some.inj H
         have hnb120 := NB233_220.out
         have hnc120 := NB220_233.out
         obtain ⟨hcz121_0, hcz121_1, hcz121_2, hcz121_3, hcz121_4, hcz121_5, hcz121_6, hfz121_0, hfz121_1, hfz121_2, hfz121_3, hfz121_4, hfz121_5, hfz121_6⟩ := kk7 BK233.out
         go_wp2
         go_ret
         exact ⟨by first | rfl | (simp [errW_none, errW_some] <;> rfl) | (simp [*, errW_none, errW_some] <;> rfl) | (simp [Int.tdiv_eq_ediv_of_nonneg]; done), by repeat (first | (with_reducible first | exact HB.out | apply ba_ | apply bn_ | apply b1_ | refine bs_ ?_ GE220.out | refine bs_ ?_ GE233.out) | exact HB.out)⟩
        ·replace c119 := Bool.eq_false_iff.mpr c119
         subst c119
         have H1 : (some x234006_2) = some r := by rw [if_neg (show ¬ (false = true) by decide)] at H; exact H
         clear H
         have H := H1
         clear H1
         obtain rfl := Option.some.inj H
         have hnb122 := NB233_220.out
         have hnc122 := NB220_233.out
         obtain ⟨hcz123_0, hcz123_1, hcz123_2, hcz123_3, hcz123_4, hcz123_5, hcz123_6, hfz123_0, hfz123_1, hfz123_2, hfz123_3, hfz123_4, hfz123_5, hfz123_6⟩ := kk7 BK233.out
         go_wp2
         go_ret
         exact ⟨by first | rfl | (simp [errW_none, errW_some] <;> rfl) | (simp [*, errW_none, errW_some] <;> rfl) | (simp [Int.tdiv_eq_ediv_of_nonneg]; done), by repeat (first | (with_reducible first | exact HB.out | apply ba_ | apply bn_ | apply b1_ | refine bs_ ?_ GE220.out | refine bs_ ?_ GE233.out) | exact HB.out)⟩
/-- THE ONE PURE STATEMENT of atticlaw19_MarkBlack. -/
def atticlaw19_MarkBlack.Pure : Prop := ∀ (x0 : S25) (x1 : Int), G25 x0 → (Lit.int .u8 x1).wf = true → ∃ k, atticlaw19_MarkBlack.f k x0.f0 x0.f1 x1 = some true
/-- The same, of inputs of a bulk that the second form allows. -/
def atticlaw19_MarkBlack.UptoPure : Prop := ∀ (x0 : S25) (x1 : Int), G25 x0 → (Lit.int .u8 x1).wf = true → mu25 x0 + (1) ≤ 1048576 → ∃ k, atticlaw19_MarkBlack.f k x0.f0 x0.f1 x1 = some true
end Go.Proofs.Ytnmpmjbkelogaaa.Print
