-- Written by a program of this session (wip/xprint.py, by way of the print): Lean functions and proofs that the Go functions come to them.
import Derived.Test.YtnmpmjbkelogaaaPrint0
import Derived.Test.YtnmpmjbkelogaaaPrint1
import Derived.Test.YtnmpmjbkelogaaaPrint2
namespace Go.Proofs.Ytnmpmjbkelogaaa.Print
open Go.RowKit Go.Proofs.YtnmpmjbkelogaaaW.PrintWords Go.Proofs.YtnmpmjbkelogaaaW.PrintLast Go.Proofs.YtnmpmjbkelogaaaW.PrintMore
attribute [local go_sem] max2_int min2_int max_two min_two max_three min_three max_four min_four   -- for this text's walks alone
set_option linter.unusedVariables false
set_option linter.unusedSimpArgs false
/-! ### mark_Step: function 26 -/
def mark_Step.f (k : Nat) (lc : List S56) (lr : List Int) (room ph at_ : Int) (m : List Bool) (st : List Int) (ov ag sc : Bool) : Option (Int × Int × List Bool × List Int × Bool × Bool × Bool × Bool) :=
 if m.length * 1 ≤ 140737488355328 ∧ st.length * 8 ≤ 140737488355328 then
  (mark_Check.f k lc lr room ph at_ m st ov ag sc).bind fun e =>
   if e = 0 then (MS.unit (fun m j => mark_counts.f k lc lr m j) (fun m => pairedL lc m) lc.length lr room ⟨ph, at_, m, st, ov, ag, sc⟩).bind fun x => some (x.tup (x.ph == 3))
   else some (MS.tup ⟨ph, at_, m, st, ov, ag, sc⟩ true)
 else none
theorem mark_Step.mono : ∀ a0 a1 a2 a3 a4 a5 a6 a7 a8 a9 k, LeO (mark_Step.f k a0 a1 a2 a3 a4 a5 a6 a7 a8 a9) (mark_Step.f (k + 1) a0 a1 a2 a3 a4 a5 a6 a7 a8 a9) :=
 fun a0 a1 a2 a3 a4 a5 a6 a7 a8 a9 k => LeO.ite (LeO.bind (mark_Check.mono _ _ _ _ _ _ _ _ _ _ k) (fun _ => LeO.ite (LeO.bind (MS.unit_mono (fun _ _ => mark_counts.mono _ _ _ _ k) _ _ _ _) (fun _ => LeO.refl _)) (LeO.refl _))) (LeO.refl _)
set_option maxHeartbeats 8000000 in
set_option maxRecDepth 100000 in
theorem mark_Step.calls (k : Nat) (A0 : Option Addr) (c0 : Nat) (lc : List S56) (A1 : Option Addr) (c1 : Nat) (lr : List Int) (room ph at_ : Int) (A2 : Option Addr) (c2 : Nat) (m : List Bool) (A3 : Option Addr) (c3 : Nat) (st : List Int) (ov ag sc : Bool) (r1 r2 : Int) (r3 : List Bool) (r4 : List Int) (r5 r6 r7 : Bool) (r8 : Bool) (w : World)
  (hr0 : Kd.C k56 w A0 lc.length lc) (hc0 : lc.length ≤ c0) (hr1 : Kd.C (Kd.int .i64) w A1 lr.length lr) (hc1 : lr.length ≤ c1) (hr2 : Kd.C Kd.bool w A2 m.length m) (hc2 : m.length ≤ c2) (hr3 : Kd.C (Kd.int .i64) w A3 st.length st) (hc3 : st.length ≤ c3)
  (h : mark_Step.f k lc lr room ph at_ m st ov ag sc = some (r1, r2, r3, r4, r5, r6, r7, r8)) :
  Calls Try.prog 26 #[.agg #[.slice A0 lc.length c0, .slice A1 lr.length c1], .int .i64 room, .agg #[.int .i64 ph, .int .i64 at_, .slice A2 m.length c2, .slice A3 st.length c3, .bool ov, .bool ag, .bool sc]] w fun e w' => ∃ v2_ v3_ : Value, e = .returned (.tuple #[.agg #[.int .i64 r1, .int .i64 r2, v2_, v3_, .bool r5, .bool r6, .bool r7], .bool r8]) ∧ Kd.R Kd.bool 4 w' w.heap.size (fun _ => True) v2_ r3 ∧ Kd.R (Kd.int .i64) 3 w' w.heap.size (fun _ => True) v3_ r4 ∧ Below w.heap.size w w' := by
 have hu25 := Try.underlying25
 have hu28 := Try.underlying28
 have hu63 := Try.underlying63
 unfold mark_Step.f at h
 by_cases hbd : m.length * 1 ≤ 140737488355328 ∧ st.length * 8 ≤ 140737488355328
 case neg => rw [if_neg hbd] at h; cases h
 rw [if_pos hbd] at h
 obtain ⟨e0, he0, h⟩ := Option.bind_eq_some_iff.1 h
 have HBG := ak (fun wd (hd : Below w.heap.size w wd) => wk_begun k A0 c0 lc A1 c1 lr room ph at_ A2 c2 m A3 c3 st ov ag sc e0 wd (Kd.C_below hr0 hd) hc0 (Kd.C_below hr1 hd) hc1 (Kd.C_below hr2 hd) hc2 (Kd.C_below hr3 hd) hc3 hbd.1 hbd.2 he0)
 have HR0 := ak hr0
 have HR1 := ak hr1
 have HC0 := ak hc0
 have HC1 := ak hc1
 have HH := ak h
 clear hr0 hr1 hr2 hr3 hc0 hc1 hc2 hc3 hbd he0 h
 by_cases hz : e0 = 0
 ·have hh := HH.out
  rw [if_pos hz] at hh
  obtain ⟨x', hu, hh⟩ := Option.bind_eq_some_iff.1 hh
  have hh := Option.some.inj hh
  unfold MS.tup at hh
  simp only [Prod.mk.injEq] at hh
  obtain ⟨rfl, rfl, rfl, rfl, rfl, rfl, rfl, rfl⟩ := hh
  subst hz
  have HU := ak hu
  clear hu HH
  go_enter Try.func26, Try.ntmps26
  go_wp2_with (first | ((with_reducible refine gate_dst (N := 3) rfl ?_); refine box_event ?hg (N := 3) ?hd (cs := #[.slice A0 lc.length c0, .slice A1 lr.length c1]) (t := 25) ?hr ?_; (case hd => rfl); (case hg => rfl); (case hr => first | (go_simp; done) | (go_simp; rfl)); intro gb hg w1 hb1 hx1; have HB1 := ak hx1; have BK := ak hb1; clear hg hb1 hx1; have q0 : w1.cell? ⟨gb, 0, none⟩ = some (.slice A0 lc.length c0) := (blk_cell BK.out 0).trans rfl; have q1 : w1.cell? ⟨gb, 1, none⟩ = some (.slice A1 lr.length c1) := (blk_cell BK.out 1).trans rfl) | ((with_reducible refine gate_dst (N := 5) rfl ?_); refine box_event ?hg (N := 5) ?hd (cs := #[.int .i64 ph, .int .i64 at_, .slice A2 m.length c2, .slice A3 st.length c3, .bool ov, .bool ag, .bool sc]) (t := 28) ?hr ?_; (case hd => rfl); (case hg => rfl); (case hr => first | (go_simp; done) | (go_simp; rfl)); intro gs hg w2 hb2 hx2; have HB2 := ak (HB1.out.trans (hx2.mono HB1.out.size)); have BK2 := ak (blk_below BK.out hx2); have BS2 := ak hb2; clear hg hb2 hx2 q0 q1) | ((with_reducible refine gate_dst (N := 6) rfl ?_); refine box_event ?hg (N := 6) ?hd (cs := #[.int .i64 0, .int .i64 0, .slice none 0 0, .slice none 0 0, .bool false, .bool false, .bool false]) (t := 28) ?hr ?_; (case hd => rfl); (case hg => rfl); (case hr => first | (go_simp; done) | (go_simp; rfl)); intro gr hg w3 hb3 hx3; have HB3 := ak (HB2.out.trans (hx3.mono HB2.out.size)); have BK3 := ak (blk_below BK2.out hx3); have BS3 := ak (blk_below BS2.out hx3); have BR3 := ak hb3; have GR := ak (show w.heap.size ≤ gr from by rw [hg]; exact HB2.out.size); clear hg hb3 hx3 HB1 BK HB2 BK2 BS2; have q0 : w3.cell? ⟨gb, 0, none⟩ = some (.slice A0 lc.length c0) := (blk_cell BK3.out 0).trans rfl; have q1 : w3.cell? ⟨gb, 1, none⟩ = some (.slice A1 lr.length c1) := (blk_cell BK3.out 1).trans rfl; have s0 : w3.cell? ⟨gs, 0, none⟩ = some (.int .i64 ph) := (blk_cell BS3.out 0).trans rfl; have s1 : w3.cell? ⟨gs, 1, none⟩ = some (.int .i64 at_) := (blk_cell BS3.out 1).trans rfl; have s2 : w3.cell? ⟨gs, 2, none⟩ = some (.slice A2 m.length c2) := (blk_cell BS3.out 2).trans rfl; have s3 : w3.cell? ⟨gs, 3, none⟩ = some (.slice A3 st.length c3) := (blk_cell BS3.out 3).trans rfl; have s4 : w3.cell? ⟨gs, 4, none⟩ = some (.bool ov) := (blk_cell BS3.out 4).trans rfl; have s5 : w3.cell? ⟨gs, 5, none⟩ = some (.bool ag) := (blk_cell BS3.out 5).trans rfl; have s6 : w3.cell? ⟨gs, 6, none⟩ = some (.bool sc) := (blk_cell BS3.out 6).trans rfl) | (go_at_call 36; (with_reducible refine (HBG.out _ HB3.out).mono ?_); rintro e w4 ⟨g, vm, vs, rfl, hw4, hb4⟩; have HB4 := ak (HB3.out.trans (hb4.mono HB3.out.size)); have HV := ak hb4; have BR4 := ak (blk_below BR3.out hb4); have HW4 := ak hw4; have GL := ak (blk_lt BR3.out); clear q0 q1 s0 s1 s2 s3 s4 s5 s6 hw4 hb4) | (go_at_call 37; (with_reducible refine (wk_unit k w3 A0 c0 lc A1 c1 lr room (fun k => k < w3.heap.size) w4 w3.heap.size g vm vs _ _ (Kd.C_below HR0.out HB3.out) HC0.out (Kd.C_below HR1.out HB3.out) HC1.out HV.out (fun _ hk => hk) HW4.out (fun _ hk => Nat.lt_of_lt_of_le hk HV.out.size) HV.out.size HU.out).mono ?_); rintro e w5 ⟨⟨v, rfl⟩, vm5, vs5, hw5, hk5⟩; have hv5 := hk5.below (fun _ hk => hk) HV.out.size; have HV5 := ak (HV.out.trans hv5); have HB5 := ak (HB3.out.trans (HV5.out.mono HB3.out.size)); have BR5 := ak (blk_below BR3.out HV5.out); have HW5 := ak hw5; clear hw5 hk5 hv5))
  obtain ⟨Am, cm, rfl⟩ := Kd.R_slice HW5.out.m
  obtain ⟨As, cs, rfl⟩ := Kd.R_slice HW5.out.s
  refine start_ (n := 16) (S := fun w' => w'.cell? ⟨g, 3, none⟩ = some (.int .i64 x'.ph) ∧ w'.cell? ⟨g, 4, none⟩ = some (.int .i64 x'.at_) ∧ w'.cell? ⟨g, 5, none⟩ = some (.slice Am x'.marks.length cm) ∧ w'.cell? ⟨g, 6, none⟩ = some (.slice As x'.stack.length cs) ∧ w'.cell? ⟨g, 7, none⟩ = some (.bool x'.over) ∧ w'.cell? ⟨g, 8, none⟩ = some (.bool x'.again) ∧ w'.cell? ⟨g, 9, none⟩ = some (.bool x'.scan)) (ds := []) #[false, false, false, false, false, false, false, false, false, false, false, false, false, false, false, false] (by kernel_rfl) rfl rfl ⟨(blk_cell HW5.out.blk 3).trans rfl, (blk_cell HW5.out.blk 4).trans rfl, (blk_cell HW5.out.blk 5).trans rfl, (blk_cell HW5.out.blk 6).trans rfl, (blk_cell HW5.out.blk 7).trans rfl, (blk_cell HW5.out.blk 8).trans rfl, (blk_cell HW5.out.blk 9).trans rfl⟩ (fun hHeld => ?_)
  have HW8 := ak HW5.out.drew
  have BR8 := ak (blk_drew BR5.out)
  have HB8 := ak (below_drew HB5.out)
  generalize w5.drew = w8 at hHeld HW8 BR8 HB8 ⊢
  refine pure_ (i := 0) (N := some 20) (v := ?_) (a' := ?_) #[true, false, false, false, false, false, false, false, false, false, false, false, false, false, false, false] rfl rfl (by kernel_rfl) (fun _ _ _ h => h) (Or.inl ⟨by rfl, ?_⟩) ?_ ?_; rotate_left; (intro w'; go_simp; with_reducible rfl); rotate_left; (simp only [Act.put, sq0, sq1, sq2, sq3, sq4]; rfl)
  refine pure_ (i := 1) (N := some 21) (v := ?_) (a' := ?_) #[true, true, false, false, false, false, false, false, false, false, false, false, false, false, false, false] rfl rfl (by kernel_rfl) (fun _ _ _ h => h) (Or.inl ⟨by rfl, ?_⟩) ?_ ?_; rotate_left; (intro w'; go_simp; with_reducible rfl); rotate_left; (simp only [Act.put, sq0, sq1, sq2, sq3, sq4]; rfl)
  refine pure_ (i := 2) (N := some 22) (v := ?_) (a' := ?_) #[true, true, true, false, false, false, false, false, false, false, false, false, false, false, false, false] rfl rfl (by kernel_rfl) (fun _ _ _ h => h) (Or.inl ⟨by rfl, ?_⟩) ?_ ?_; rotate_left; (intro w'; go_simp; with_reducible rfl); rotate_left; (simp only [Act.put, sq0, sq1, sq2, sq3, sq4]; rfl)
  refine take_ (i := 3) (N := some 23) (v := ?_) (a' := ?_) #[true, true, true, true, false, false, false, false, false, false, false, false, false, false, false, false] rfl rfl (by kernel_rfl) (fun _ _ _ h => h) (Or.inl ⟨by rfl, ?_⟩) hHeld ?_ ?_; rotate_left; (rintro w' ⟨z0, z1, z2, z3, z4, z5, z6⟩; go_simp; with_reducible rfl); rotate_left; (simp only [Act.put, sq0, sq1, sq2, sq3, sq4]; rfl)
  refine pure_ (i := 4) (N := some 24) (v := ?_) (a' := ?_) #[true, true, true, true, true, false, false, false, false, false, false, false, false, false, false, false] rfl rfl (by kernel_rfl) (fun _ _ _ h => h) (Or.inl ⟨by rfl, ?_⟩) ?_ ?_; rotate_left; (intro w'; go_simp; with_reducible rfl); rotate_left; (simp only [Act.put, sq0, sq1, sq2, sq3, sq4]; rfl)
  refine pure_ (i := 5) (N := some 25) (v := ?_) (a' := ?_) #[true, true, true, true, true, true, false, false, false, false, false, false, false, false, false, false] rfl rfl (by kernel_rfl) (fun _ _ _ h => h) (Or.inl ⟨by rfl, ?_⟩) ?_ ?_; rotate_left; (intro w'; go_simp; with_reducible rfl); rotate_left; (simp only [Act.put, sq0, sq1, sq2, sq3, sq4]; rfl)
  refine pure_ (i := 6) (N := some 26) (v := ?_) (a' := ?_) #[true, true, true, true, true, true, true, false, false, false, false, false, false, false, false, false] rfl rfl (by kernel_rfl) (fun _ _ _ h => h) (Or.inl ⟨by rfl, ?_⟩) ?_ ?_; rotate_left; (intro w'; go_simp; with_reducible rfl); rotate_left; (simp only [Act.put, sq0, sq1, sq2, sq3, sq4]; rfl)
  refine pure_ (i := 7) (N := some 27) (v := ?_) (a' := ?_) #[true, true, true, true, true, true, true, true, false, false, false, false, false, false, false, false] rfl rfl (by kernel_rfl) (fun _ _ _ h => h) (Or.inl ⟨by rfl, ?_⟩) ?_ ?_; rotate_left; (intro w'; go_simp; with_reducible rfl); rotate_left; (simp only [Act.put, sq0, sq1, sq2, sq3, sq4]; rfl)
  refine pure_ (i := 8) (N := some 28) (v := ?_) (a' := ?_) #[true, true, true, true, true, true, true, true, true, false, false, false, false, false, false, false] rfl rfl (by kernel_rfl) (fun _ _ _ h => h) (Or.inl ⟨by rfl, ?_⟩) ?_ ?_; rotate_left; (intro w'; go_simp; with_reducible rfl); rotate_left; (simp only [Act.put, sq0, sq1, sq2, sq3, sq4]; rfl)
  refine pure_ (i := 9) (N := some 29) (v := ?_) (a' := ?_) #[true, true, true, true, true, true, true, true, true, true, false, false, false, false, false, false] rfl rfl (by kernel_rfl) (fun _ _ _ h => h) (Or.inl ⟨by rfl, ?_⟩) ?_ ?_; rotate_left; (intro w'; go_simp; with_reducible rfl); rotate_left; (simp only [Act.put, sq0, sq1, sq2, sq3, sq4]; rfl)
  refine pure_ (i := 10) (N := some 30) (v := ?_) (a' := ?_) #[true, true, true, true, true, true, true, true, true, true, true, false, false, false, false, false] rfl rfl (by kernel_rfl) (fun _ _ _ h => h) (Or.inl ⟨by rfl, ?_⟩) ?_ ?_; rotate_left; (intro w'; go_simp; with_reducible rfl); rotate_left; (simp only [Act.put, sq0, sq1, sq2, sq3, sq4]; rfl)
  refine take_ (i := 11) (N := some 31) (v := ?_) (a' := ?_) #[true, true, true, true, true, true, true, true, true, true, true, true, false, false, false, false] rfl rfl (by kernel_rfl) (fun _ _ _ h => h) (Or.inl ⟨by rfl, ?_⟩) hHeld ?_ ?_; rotate_left; (rintro w' ⟨z0, z1, z2, z3, z4, z5, z6⟩; go_simp; with_reducible rfl); rotate_left; (simp only [Act.put, sq0, sq1, sq2, sq3, sq4]; rfl)
  refine pure_ (i := 12) (N := some 32) (v := ?_) (a' := ?_) #[true, true, true, true, true, true, true, true, true, true, true, true, true, false, false, false] rfl rfl (by kernel_rfl) (fun _ _ _ h => h) (Or.inl ⟨by rfl, ?_⟩) ?_ ?_; rotate_left; (intro w'; go_simp; with_reducible rfl); rotate_left; (simp only [Act.put, sq0, sq1, sq2, sq3, sq4]; rfl)
  refine pure_ (i := 13) (N := some 33) (v := ?_) (a' := ?_) #[true, true, true, true, true, true, true, true, true, true, true, true, true, true, false, false] rfl rfl (by kernel_rfl) (fun _ _ _ h => h) (Or.inl ⟨by rfl, ?_⟩) ?_ ?_; rotate_left; (intro w'; go_simp; with_reducible rfl); rotate_left; (simp only [Act.put, sq0, sq1, sq2, sq3, sq4]; rfl)
  refine one_ (i := 14) (N := none) #[true, true, true, true, true, true, true, true, true, true, true, true, true, true, true, false] rfl rfl (by kernel_rfl) (by decide) (fun K hK => ?_)
  have y0 : w8.cell? ⟨gr, 0, none⟩ = some (.int .i64 0) := (blk_cell BR8.out 0).trans rfl
  have fy0 := blk_frozen BR8.out 0
  have y1 : w8.cell? ⟨gr, 1, none⟩ = some (.int .i64 0) := (blk_cell BR8.out 1).trans rfl
  have fy1 := blk_frozen BR8.out 1
  have y2 : w8.cell? ⟨gr, 2, none⟩ = some (.slice none 0 0) := (blk_cell BR8.out 2).trans rfl
  have fy2 := blk_frozen BR8.out 2
  have y3 : w8.cell? ⟨gr, 3, none⟩ = some (.slice none 0 0) := (blk_cell BR8.out 3).trans rfl
  have fy3 := blk_frozen BR8.out 3
  have y4 : w8.cell? ⟨gr, 4, none⟩ = some (.bool false) := (blk_cell BR8.out 4).trans rfl
  have fy4 := blk_frozen BR8.out 4
  have y5 : w8.cell? ⟨gr, 5, none⟩ = some (.bool false) := (blk_cell BR8.out 5).trans rfl
  have fy5 := blk_frozen BR8.out 5
  have y6 : w8.cell? ⟨gr, 6, none⟩ = some (.bool false) := (blk_cell BR8.out 6).trans rfl
  have fy6 := blk_frozen BR8.out 6
  refine skip_ (w1 := ?_) (by rfl) rfl ?_ ?_; rotate_left; (go_simp; rfl)
  clear y0 y1 y2 y3 y4 y5 y6 fy0 fy1 fy2 fy3 fy4 fy5 fy6
  have br0 := blk_put (cs' := #[.int .i64 x'.ph, .int .i64 0, .slice none 0 0, .slice none 0 0, .bool false, .bool false, .bool false]) BR8.out 0 (.int .i64 x'.ph) rfl
  have hm0 := Kd.R_set HW8.out.m BR8.out (fun q hq => by rw [List.mem_singleton.1 hq]; decide) 0 (.int .i64 x'.ph)
  have hs0 := Kd.R_set HW8.out.s BR8.out (fun q hq => by rw [List.mem_singleton.1 hq]; decide) 0 (.int .i64 x'.ph)
  have hb0 := below_set HB8.out GR.out (j := 0) (v := .int .i64 x'.ph)
  have br1 := blk_put (cs' := #[.int .i64 x'.ph, .int .i64 x'.at_, .slice none 0 0, .slice none 0 0, .bool false, .bool false, .bool false]) br0 1 (.int .i64 x'.at_) rfl
  have hm1 := Kd.R_set hm0 br0 (fun q hq => by rw [List.mem_singleton.1 hq]; decide) 1 (.int .i64 x'.at_)
  have hs1 := Kd.R_set hs0 br0 (fun q hq => by rw [List.mem_singleton.1 hq]; decide) 1 (.int .i64 x'.at_)
  have hb1 := below_set hb0 GR.out (j := 1) (v := .int .i64 x'.at_)
  have br2 := blk_put (cs' := #[.int .i64 x'.ph, .int .i64 x'.at_, .slice Am x'.marks.length cm, .slice none 0 0, .bool false, .bool false, .bool false]) br1 2 (.slice Am x'.marks.length cm) rfl
  have hm2 := Kd.R_set hm1 br1 (fun q hq => by rw [List.mem_singleton.1 hq]; decide) 2 (.slice Am x'.marks.length cm)
  have hs2 := Kd.R_set hs1 br1 (fun q hq => by rw [List.mem_singleton.1 hq]; decide) 2 (.slice Am x'.marks.length cm)
  have hb2 := below_set hb1 GR.out (j := 2) (v := .slice Am x'.marks.length cm)
  have br3 := blk_put (cs' := #[.int .i64 x'.ph, .int .i64 x'.at_, .slice Am x'.marks.length cm, .slice As x'.stack.length cs, .bool false, .bool false, .bool false]) br2 3 (.slice As x'.stack.length cs) rfl
  have hm3 := Kd.R_set hm2 br2 (fun q hq => by rw [List.mem_singleton.1 hq]; decide) 3 (.slice As x'.stack.length cs)
  have hs3 := Kd.R_set hs2 br2 (fun q hq => by rw [List.mem_singleton.1 hq]; decide) 3 (.slice As x'.stack.length cs)
  have hb3 := below_set hb2 GR.out (j := 3) (v := .slice As x'.stack.length cs)
  have br4 := blk_put (cs' := #[.int .i64 x'.ph, .int .i64 x'.at_, .slice Am x'.marks.length cm, .slice As x'.stack.length cs, .bool x'.over, .bool false, .bool false]) br3 4 (.bool x'.over) rfl
  have hm4 := Kd.R_set hm3 br3 (fun q hq => by rw [List.mem_singleton.1 hq]; decide) 4 (.bool x'.over)
  have hs4 := Kd.R_set hs3 br3 (fun q hq => by rw [List.mem_singleton.1 hq]; decide) 4 (.bool x'.over)
  have hb4 := below_set hb3 GR.out (j := 4) (v := .bool x'.over)
  have br5 := blk_put (cs' := #[.int .i64 x'.ph, .int .i64 x'.at_, .slice Am x'.marks.length cm, .slice As x'.stack.length cs, .bool x'.over, .bool x'.again, .bool false]) br4 5 (.bool x'.again) rfl
  have hm5 := Kd.R_set hm4 br4 (fun q hq => by rw [List.mem_singleton.1 hq]; decide) 5 (.bool x'.again)
  have hs5 := Kd.R_set hs4 br4 (fun q hq => by rw [List.mem_singleton.1 hq]; decide) 5 (.bool x'.again)
  have hb5 := below_set hb4 GR.out (j := 5) (v := .bool x'.again)
  have br6 := blk_put (cs' := #[.int .i64 x'.ph, .int .i64 x'.at_, .slice Am x'.marks.length cm, .slice As x'.stack.length cs, .bool x'.over, .bool x'.again, .bool x'.scan]) br5 6 (.bool x'.scan) rfl
  have hm6 := Kd.R_set hm5 br5 (fun q hq => by rw [List.mem_singleton.1 hq]; decide) 6 (.bool x'.scan)
  have hs6 := Kd.R_set hs5 br5 (fun q hq => by rw [List.mem_singleton.1 hq]; decide) 6 (.bool x'.scan)
  have hb6 := below_set hb5 GR.out (j := 6) (v := .bool x'.scan)
  have ngr := blk_ne HW8.out.blk BR8.out (by decide)
  have bw := (blk_far (blk_far (blk_far (blk_far (blk_far (blk_far (blk_far HW8.out.blk (p := ⟨gr, 0, none⟩) ngr (.int .i64 x'.ph)) (p := ⟨gr, 1, none⟩) ngr (.int .i64 x'.at_)) (p := ⟨gr, 2, none⟩) ngr (.slice Am x'.marks.length cm)) (p := ⟨gr, 3, none⟩) ngr (.slice As x'.stack.length cs)) (p := ⟨gr, 4, none⟩) ngr (.bool x'.over)) (p := ⟨gr, 5, none⟩) ngr (.bool x'.again)) (p := ⟨gr, 6, none⟩) ngr (.bool x'.scan))
  have BR9 := ak br6
  have HM9 := ak hm6
  have HS9 := ak hs6
  have HB9 := ak hb6
  clear br0 br1 br2 br3 br4 br5 br6 hm0 hm1 hm2 hm3 hm4 hm5 hm6 hs0 hs1 hs2 hs3 hs4 hs5 hs6 hb0 hb1 hb2 hb3 hb4 hb5 hb6
  refine hK.out _ _ ⟨(blk_cell bw 3).trans rfl, (blk_cell bw 4).trans rfl, (blk_cell bw 5).trans rfl, (blk_cell bw 6).trans rfl, (blk_cell bw 7).trans rfl, (blk_cell bw 8).trans rfl, (blk_cell bw 9).trans rfl⟩ (fun hHeld => ?_)
  clear hK K bw
  refine pure_ (i := 15) (N := some 7) (v := ?_) (a' := ?_) #[true, true, true, true, true, true, true, true, true, true, true, true, true, true, true, true] rfl rfl (by kernel_rfl) (fun _ _ _ h => h) (Or.inl ⟨by rfl, ?_⟩) ?_ ?_; rotate_left; (intro w'; go_simp; with_reducible rfl); rotate_left; (simp only [Act.put, sq0, sq1, sq2, sq3, sq4]; rfl)
  refine done_ (by kernel_rfl) ?_
  go_wp2
  refine bodyPost_ret (results_ct rfl _ _ gr 28 #[.int .i64 x'.ph, .int .i64 x'.at_, .slice Am x'.marks.length cm, .slice As x'.stack.length cs, .bool x'.over, .bool x'.again, .bool x'.scan] (0, 0) _ rfl BR9.out Try.underlying28 rfl (by kernel_rfl)) rfl ?_
  exact ⟨_, _, by first | rfl | (simp; done), Kd.R_lower (Kd.R_mono HM9.out (fun _ _ => trivial)) HB3.out.size, Kd.R_lower (Kd.R_mono HS9.out (fun _ _ => trivial)) HB3.out.size, HB9.out⟩
 ·have hh := HH.out
  rw [if_neg hz] at hh
  have hh := Option.some.inj hh
  unfold MS.tup at hh
  simp only [Prod.mk.injEq] at hh
  obtain ⟨rfl, rfl, rfl, rfl, rfl, rfl, rfl, rfl⟩ := hh
  have hzb : (e0 == 0) = false := beq_eq_false_iff_ne.2 hz
  rw [hzb] at HBG
  clear HH hz hzb
  go_enter Try.func26, Try.ntmps26
  go_wp2_with (first | ((with_reducible refine gate_dst (N := 3) rfl ?_); refine box_event ?hg (N := 3) ?hd (cs := #[.slice A0 lc.length c0, .slice A1 lr.length c1]) (t := 25) ?hr ?_; (case hd => rfl); (case hg => rfl); (case hr => first | (go_simp; done) | (go_simp; rfl)); intro gb hg w1 hb1 hx1; have HB1 := ak hx1; have BK := ak hb1; clear hg hb1 hx1; have q0 : w1.cell? ⟨gb, 0, none⟩ = some (.slice A0 lc.length c0) := (blk_cell BK.out 0).trans rfl; have q1 : w1.cell? ⟨gb, 1, none⟩ = some (.slice A1 lr.length c1) := (blk_cell BK.out 1).trans rfl) | ((with_reducible refine gate_dst (N := 5) rfl ?_); refine box_event ?hg (N := 5) ?hd (cs := #[.int .i64 ph, .int .i64 at_, .slice A2 m.length c2, .slice A3 st.length c3, .bool ov, .bool ag, .bool sc]) (t := 28) ?hr ?_; (case hd => rfl); (case hg => rfl); (case hr => first | (go_simp; done) | (go_simp; rfl)); intro gs hg w2 hb2 hx2; have HB2 := ak (HB1.out.trans (hx2.mono HB1.out.size)); have BK2 := ak (blk_below BK.out hx2); have BS2 := ak hb2; clear hg hb2 hx2 q0 q1) | ((with_reducible refine gate_dst (N := 6) rfl ?_); refine box_event ?hg (N := 6) ?hd (cs := #[.int .i64 0, .int .i64 0, .slice none 0 0, .slice none 0 0, .bool false, .bool false, .bool false]) (t := 28) ?hr ?_; (case hd => rfl); (case hg => rfl); (case hr => first | (go_simp; done) | (go_simp; rfl)); intro gr hg w3 hb3 hx3; have HB3 := ak (HB2.out.trans (hx3.mono HB2.out.size)); have BK3 := ak (blk_below BK2.out hx3); have BS3 := ak (blk_below BS2.out hx3); have BR3 := ak hb3; have GR := ak (show w.heap.size ≤ gr from by rw [hg]; exact HB2.out.size); clear hg hb3 hx3 HB1 BK HB2 BK2 BS2; have q0 : w3.cell? ⟨gb, 0, none⟩ = some (.slice A0 lc.length c0) := (blk_cell BK3.out 0).trans rfl; have q1 : w3.cell? ⟨gb, 1, none⟩ = some (.slice A1 lr.length c1) := (blk_cell BK3.out 1).trans rfl; have s0 : w3.cell? ⟨gs, 0, none⟩ = some (.int .i64 ph) := (blk_cell BS3.out 0).trans rfl; have s1 : w3.cell? ⟨gs, 1, none⟩ = some (.int .i64 at_) := (blk_cell BS3.out 1).trans rfl; have s2 : w3.cell? ⟨gs, 2, none⟩ = some (.slice A2 m.length c2) := (blk_cell BS3.out 2).trans rfl; have s3 : w3.cell? ⟨gs, 3, none⟩ = some (.slice A3 st.length c3) := (blk_cell BS3.out 3).trans rfl; have s4 : w3.cell? ⟨gs, 4, none⟩ = some (.bool ov) := (blk_cell BS3.out 4).trans rfl; have s5 : w3.cell? ⟨gs, 5, none⟩ = some (.bool ag) := (blk_cell BS3.out 5).trans rfl; have s6 : w3.cell? ⟨gs, 6, none⟩ = some (.bool sc) := (blk_cell BS3.out 6).trans rfl) | (go_at_call 36; (with_reducible refine (HBG.out _ HB3.out).mono ?_); rintro e w4 ⟨g, vm, vs, rfl, hw4, hb4⟩; have HB4 := ak (HB3.out.trans (hb4.mono HB3.out.size)); have HV := ak hb4; have BR4 := ak (blk_below BR3.out hb4); have HW4 := ak hw4; have GL := ak (blk_lt BR3.out); clear q0 q1 s0 s1 s2 s3 s4 s5 s6 hw4 hb4))
  obtain ⟨Am, cm, rfl⟩ := Kd.R_slice HW4.out.m
  obtain ⟨As, cs, rfl⟩ := Kd.R_slice HW4.out.s
  refine start_ (n := 16) (S := fun w' => w'.cell? ⟨g, 3, none⟩ = some (.int .i64 ph) ∧ w'.cell? ⟨g, 4, none⟩ = some (.int .i64 at_) ∧ w'.cell? ⟨g, 5, none⟩ = some (.slice Am m.length cm) ∧ w'.cell? ⟨g, 6, none⟩ = some (.slice As st.length cs) ∧ w'.cell? ⟨g, 7, none⟩ = some (.bool ov) ∧ w'.cell? ⟨g, 8, none⟩ = some (.bool ag) ∧ w'.cell? ⟨g, 9, none⟩ = some (.bool sc)) (ds := []) #[false, false, false, false, false, false, false, false, false, false, false, false, false, false, false, false] (by kernel_rfl) rfl rfl ⟨(blk_cell HW4.out.blk 3).trans rfl, (blk_cell HW4.out.blk 4).trans rfl, (blk_cell HW4.out.blk 5).trans rfl, (blk_cell HW4.out.blk 6).trans rfl, (blk_cell HW4.out.blk 7).trans rfl, (blk_cell HW4.out.blk 8).trans rfl, (blk_cell HW4.out.blk 9).trans rfl⟩ (fun hHeld => ?_)
  have HW8 := ak HW4.out.drew
  have BR8 := ak (blk_drew BR4.out)
  have HB8 := ak (below_drew HB4.out)
  generalize w4.drew = w8 at hHeld HW8 BR8 HB8 ⊢
  refine pure_ (i := 0) (N := some 20) (v := ?_) (a' := ?_) #[true, false, false, false, false, false, false, false, false, false, false, false, false, false, false, false] rfl rfl (by kernel_rfl) (fun _ _ _ h => h) (Or.inl ⟨by rfl, ?_⟩) ?_ ?_; rotate_left; (intro w'; go_simp; with_reducible rfl); rotate_left; (simp only [Act.put, sq0, sq1, sq2, sq3, sq4]; rfl)
  refine pure_ (i := 1) (N := some 21) (v := ?_) (a' := ?_) #[true, true, false, false, false, false, false, false, false, false, false, false, false, false, false, false] rfl rfl (by kernel_rfl) (fun _ _ _ h => h) (Or.inl ⟨by rfl, ?_⟩) ?_ ?_; rotate_left; (intro w'; go_simp; with_reducible rfl); rotate_left; (simp only [Act.put, sq0, sq1, sq2, sq3, sq4]; rfl)
  refine pure_ (i := 2) (N := some 22) (v := ?_) (a' := ?_) #[true, true, true, false, false, false, false, false, false, false, false, false, false, false, false, false] rfl rfl (by kernel_rfl) (fun _ _ _ h => h) (Or.inl ⟨by rfl, ?_⟩) ?_ ?_; rotate_left; (intro w'; go_simp; with_reducible rfl); rotate_left; (simp only [Act.put, sq0, sq1, sq2, sq3, sq4]; rfl)
  refine take_ (i := 3) (N := some 23) (v := ?_) (a' := ?_) #[true, true, true, true, false, false, false, false, false, false, false, false, false, false, false, false] rfl rfl (by kernel_rfl) (fun _ _ _ h => h) (Or.inl ⟨by rfl, ?_⟩) hHeld ?_ ?_; rotate_left; (rintro w' ⟨z0, z1, z2, z3, z4, z5, z6⟩; go_simp; with_reducible rfl); rotate_left; (simp only [Act.put, sq0, sq1, sq2, sq3, sq4]; rfl)
  refine pure_ (i := 4) (N := some 24) (v := ?_) (a' := ?_) #[true, true, true, true, true, false, false, false, false, false, false, false, false, false, false, false] rfl rfl (by kernel_rfl) (fun _ _ _ h => h) (Or.inl ⟨by rfl, ?_⟩) ?_ ?_; rotate_left; (intro w'; go_simp; with_reducible rfl); rotate_left; (simp only [Act.put, sq0, sq1, sq2, sq3, sq4]; rfl)
  refine pure_ (i := 5) (N := some 25) (v := ?_) (a' := ?_) #[true, true, true, true, true, true, false, false, false, false, false, false, false, false, false, false] rfl rfl (by kernel_rfl) (fun _ _ _ h => h) (Or.inl ⟨by rfl, ?_⟩) ?_ ?_; rotate_left; (intro w'; go_simp; with_reducible rfl); rotate_left; (simp only [Act.put, sq0, sq1, sq2, sq3, sq4]; rfl)
  refine pure_ (i := 6) (N := some 26) (v := ?_) (a' := ?_) #[true, true, true, true, true, true, true, false, false, false, false, false, false, false, false, false] rfl rfl (by kernel_rfl) (fun _ _ _ h => h) (Or.inl ⟨by rfl, ?_⟩) ?_ ?_; rotate_left; (intro w'; go_simp; with_reducible rfl); rotate_left; (simp only [Act.put, sq0, sq1, sq2, sq3, sq4]; rfl)
  refine pure_ (i := 7) (N := some 27) (v := undef) (a' := ?_) #[true, true, true, true, true, true, true, true, false, false, false, false, false, false, false, false] rfl rfl (by kernel_rfl) (fun _ _ _ h => h) (Or.inr ⟨by rfl, rfl⟩) ?_ ?_; rotate_left; (simp only [Act.put, sq0, sq1, sq2, sq3, sq4]; rfl)
  refine pure_ (i := 8) (N := some 28) (v := undef) (a' := ?_) #[true, true, true, true, true, true, true, true, true, false, false, false, false, false, false, false] rfl rfl (by kernel_rfl) (fun _ _ _ h => h) (Or.inr ⟨by rfl, rfl⟩) ?_ ?_; rotate_left; (simp only [Act.put, sq0, sq1, sq2, sq3, sq4]; rfl)
  refine pure_ (i := 9) (N := some 29) (v := undef) (a' := ?_) #[true, true, true, true, true, true, true, true, true, true, false, false, false, false, false, false] rfl rfl (by kernel_rfl) (fun _ _ _ h => h) (Or.inr ⟨by rfl, rfl⟩) ?_ ?_; rotate_left; (simp only [Act.put, sq0, sq1, sq2, sq3, sq4]; rfl)
  refine pure_ (i := 10) (N := some 30) (v := undef) (a' := ?_) #[true, true, true, true, true, true, true, true, true, true, true, false, false, false, false, false] rfl rfl (by kernel_rfl) (fun _ _ _ h => h) (Or.inr ⟨by rfl, rfl⟩) ?_ ?_; rotate_left; (simp only [Act.put, sq0, sq1, sq2, sq3, sq4]; rfl)
  refine pure_ (i := 11) (N := some 31) (v := undef) (a' := ?_) #[true, true, true, true, true, true, true, true, true, true, true, true, false, false, false, false] rfl rfl (by kernel_rfl) (fun _ _ _ h => h) (Or.inr ⟨by rfl, rfl⟩) ?_ ?_; rotate_left; (simp only [Act.put, sq0, sq1, sq2, sq3, sq4]; rfl)
  refine pure_ (i := 12) (N := some 32) (v := undef) (a' := ?_) #[true, true, true, true, true, true, true, true, true, true, true, true, true, false, false, false] rfl rfl (by kernel_rfl) (fun _ _ _ h => h) (Or.inr ⟨by rfl, rfl⟩) ?_ ?_; rotate_left; (simp only [Act.put, sq0, sq1, sq2, sq3, sq4]; rfl)
  refine pure_ (i := 13) (N := some 33) (v := ?_) (a' := ?_) #[true, true, true, true, true, true, true, true, true, true, true, true, true, true, false, false] rfl rfl (by kernel_rfl) (fun _ _ _ h => h) (Or.inl ⟨by rfl, ?_⟩) ?_ ?_; rotate_left; (intro w'; go_simp; with_reducible rfl); rotate_left; (simp only [Act.put, sq0, sq1, sq2, sq3, sq4]; rfl)
  refine one_ (i := 14) (N := none) #[true, true, true, true, true, true, true, true, true, true, true, true, true, true, true, false] rfl rfl (by kernel_rfl) (by decide) (fun K hK => ?_)
  have y0 : w8.cell? ⟨gr, 0, none⟩ = some (.int .i64 0) := (blk_cell BR8.out 0).trans rfl
  have fy0 := blk_frozen BR8.out 0
  have y1 : w8.cell? ⟨gr, 1, none⟩ = some (.int .i64 0) := (blk_cell BR8.out 1).trans rfl
  have fy1 := blk_frozen BR8.out 1
  have y2 : w8.cell? ⟨gr, 2, none⟩ = some (.slice none 0 0) := (blk_cell BR8.out 2).trans rfl
  have fy2 := blk_frozen BR8.out 2
  have y3 : w8.cell? ⟨gr, 3, none⟩ = some (.slice none 0 0) := (blk_cell BR8.out 3).trans rfl
  have fy3 := blk_frozen BR8.out 3
  have y4 : w8.cell? ⟨gr, 4, none⟩ = some (.bool false) := (blk_cell BR8.out 4).trans rfl
  have fy4 := blk_frozen BR8.out 4
  have y5 : w8.cell? ⟨gr, 5, none⟩ = some (.bool false) := (blk_cell BR8.out 5).trans rfl
  have fy5 := blk_frozen BR8.out 5
  have y6 : w8.cell? ⟨gr, 6, none⟩ = some (.bool false) := (blk_cell BR8.out 6).trans rfl
  have fy6 := blk_frozen BR8.out 6
  refine skip_ (w1 := ?_) (by rfl) rfl ?_ ?_; rotate_left; (go_simp; rfl)
  clear y0 y1 y2 y3 y4 y5 y6 fy0 fy1 fy2 fy3 fy4 fy5 fy6
  have br0 := blk_put (cs' := #[.int .i64 ph, .int .i64 0, .slice none 0 0, .slice none 0 0, .bool false, .bool false, .bool false]) BR8.out 0 (.int .i64 ph) rfl
  have hm0 := Kd.R_set HW8.out.m BR8.out (fun q hq => by rw [List.mem_singleton.1 hq]; decide) 0 (.int .i64 ph)
  have hs0 := Kd.R_set HW8.out.s BR8.out (fun q hq => by rw [List.mem_singleton.1 hq]; decide) 0 (.int .i64 ph)
  have hb0 := below_set HB8.out GR.out (j := 0) (v := .int .i64 ph)
  have br1 := blk_put (cs' := #[.int .i64 ph, .int .i64 at_, .slice none 0 0, .slice none 0 0, .bool false, .bool false, .bool false]) br0 1 (.int .i64 at_) rfl
  have hm1 := Kd.R_set hm0 br0 (fun q hq => by rw [List.mem_singleton.1 hq]; decide) 1 (.int .i64 at_)
  have hs1 := Kd.R_set hs0 br0 (fun q hq => by rw [List.mem_singleton.1 hq]; decide) 1 (.int .i64 at_)
  have hb1 := below_set hb0 GR.out (j := 1) (v := .int .i64 at_)
  have br2 := blk_put (cs' := #[.int .i64 ph, .int .i64 at_, .slice Am m.length cm, .slice none 0 0, .bool false, .bool false, .bool false]) br1 2 (.slice Am m.length cm) rfl
  have hm2 := Kd.R_set hm1 br1 (fun q hq => by rw [List.mem_singleton.1 hq]; decide) 2 (.slice Am m.length cm)
  have hs2 := Kd.R_set hs1 br1 (fun q hq => by rw [List.mem_singleton.1 hq]; decide) 2 (.slice Am m.length cm)
  have hb2 := below_set hb1 GR.out (j := 2) (v := .slice Am m.length cm)
  have br3 := blk_put (cs' := #[.int .i64 ph, .int .i64 at_, .slice Am m.length cm, .slice As st.length cs, .bool false, .bool false, .bool false]) br2 3 (.slice As st.length cs) rfl
  have hm3 := Kd.R_set hm2 br2 (fun q hq => by rw [List.mem_singleton.1 hq]; decide) 3 (.slice As st.length cs)
  have hs3 := Kd.R_set hs2 br2 (fun q hq => by rw [List.mem_singleton.1 hq]; decide) 3 (.slice As st.length cs)
  have hb3 := below_set hb2 GR.out (j := 3) (v := .slice As st.length cs)
  have br4 := blk_put (cs' := #[.int .i64 ph, .int .i64 at_, .slice Am m.length cm, .slice As st.length cs, .bool ov, .bool false, .bool false]) br3 4 (.bool ov) rfl
  have hm4 := Kd.R_set hm3 br3 (fun q hq => by rw [List.mem_singleton.1 hq]; decide) 4 (.bool ov)
  have hs4 := Kd.R_set hs3 br3 (fun q hq => by rw [List.mem_singleton.1 hq]; decide) 4 (.bool ov)
  have hb4 := below_set hb3 GR.out (j := 4) (v := .bool ov)
  have br5 := blk_put (cs' := #[.int .i64 ph, .int .i64 at_, .slice Am m.length cm, .slice As st.length cs, .bool ov, .bool ag, .bool false]) br4 5 (.bool ag) rfl
  have hm5 := Kd.R_set hm4 br4 (fun q hq => by rw [List.mem_singleton.1 hq]; decide) 5 (.bool ag)
  have hs5 := Kd.R_set hs4 br4 (fun q hq => by rw [List.mem_singleton.1 hq]; decide) 5 (.bool ag)
  have hb5 := below_set hb4 GR.out (j := 5) (v := .bool ag)
  have br6 := blk_put (cs' := #[.int .i64 ph, .int .i64 at_, .slice Am m.length cm, .slice As st.length cs, .bool ov, .bool ag, .bool sc]) br5 6 (.bool sc) rfl
  have hm6 := Kd.R_set hm5 br5 (fun q hq => by rw [List.mem_singleton.1 hq]; decide) 6 (.bool sc)
  have hs6 := Kd.R_set hs5 br5 (fun q hq => by rw [List.mem_singleton.1 hq]; decide) 6 (.bool sc)
  have hb6 := below_set hb5 GR.out (j := 6) (v := .bool sc)
  have ngr := blk_ne HW8.out.blk BR8.out (by decide)
  have bw := (blk_far (blk_far (blk_far (blk_far (blk_far (blk_far (blk_far HW8.out.blk (p := ⟨gr, 0, none⟩) ngr (.int .i64 ph)) (p := ⟨gr, 1, none⟩) ngr (.int .i64 at_)) (p := ⟨gr, 2, none⟩) ngr (.slice Am m.length cm)) (p := ⟨gr, 3, none⟩) ngr (.slice As st.length cs)) (p := ⟨gr, 4, none⟩) ngr (.bool ov)) (p := ⟨gr, 5, none⟩) ngr (.bool ag)) (p := ⟨gr, 6, none⟩) ngr (.bool sc))
  have BR9 := ak br6
  have HM9 := ak hm6
  have HS9 := ak hs6
  have HB9 := ak hb6
  clear br0 br1 br2 br3 br4 br5 br6 hm0 hm1 hm2 hm3 hm4 hm5 hm6 hs0 hs1 hs2 hs3 hs4 hs5 hs6 hb0 hb1 hb2 hb3 hb4 hb5 hb6
  refine hK.out _ _ ⟨(blk_cell bw 3).trans rfl, (blk_cell bw 4).trans rfl, (blk_cell bw 5).trans rfl, (blk_cell bw 6).trans rfl, (blk_cell bw 7).trans rfl, (blk_cell bw 8).trans rfl, (blk_cell bw 9).trans rfl⟩ (fun hHeld => ?_)
  clear hK K bw
  refine pure_ (i := 15) (N := some 7) (v := ?_) (a' := ?_) #[true, true, true, true, true, true, true, true, true, true, true, true, true, true, true, true] rfl rfl (by kernel_rfl) (fun _ _ _ h => h) (Or.inl ⟨by rfl, ?_⟩) ?_ ?_; rotate_left; (intro w'; go_simp; with_reducible rfl); rotate_left; (simp only [Act.put, sq0, sq1, sq2, sq3, sq4]; rfl)
  refine done_ (by kernel_rfl) ?_
  go_wp2
  refine bodyPost_ret (results_ct rfl _ _ gr 28 #[.int .i64 ph, .int .i64 at_, .slice Am m.length cm, .slice As st.length cs, .bool ov, .bool ag, .bool sc] (0, 0) _ rfl BR9.out Try.underlying28 rfl (by kernel_rfl)) rfl ?_
  exact ⟨_, _, by first | rfl | (simp; done), Kd.R_lower (Kd.R_mono HM9.out (fun _ _ => trivial)) HB3.out.size, Kd.R_lower (Kd.R_mono HS9.out (fun _ _ => trivial)) HB3.out.size, HB9.out⟩
/-! ### atticref19_counted: function 46 -/
mutual
def atticref19_counted.l0 : Nat → List Int → List Int → Int → Option (List Int)
 | 0, _, _, _ => none
 | k + 1, x8, x9, x10 => if x10 < (x8.length : Int) then (if 0 ≤ x10 then (if (rd x8 x10) = (-1) then (atticref19_counted.l0 k x8 x9 (wrap64 (x10 + 1))) else (if x9.length < 17592186044416 then (atticref19_counted.l0 k x8 (x9 ++ [rd x8 x10]) (wrap64 (x10 + 1))) else (none))) else (none)) else (some x9)
def atticref19_counted.l1 : Nat → List Int → List Int → Int → Option (List Int)
 | 0, _, _, _ => none
 | k + 1, x8, x9, x10 => if x10 < (x8.length : Int) then (if 0 ≤ x10 then (if (rd x8 x10) = (-1) then (atticref19_counted.l1 k x8 x9 (wrap64 (x10 + 1))) else (if x9.length < 17592186044416 then (atticref19_counted.l1 k x8 (x9 ++ [rd x8 x10]) (wrap64 (x10 + 1))) else (none))) else (none)) else (some x9)
end
def atticref19_counted.f (k : Nat) (l0_0 : List (S56)) (l0_1 : List Int) (l1 : List Bool) (a2 : Int) : Option (List Int) := if 0 ≤ a2 then (if a2 < (l0_0.length : Int) then (if ((rd_T56 l0_0 a2).f0) = 2 then (some ([] : List Int)) else (if ((rd_T56 l0_0 a2).f0) = 3 then (if 0 < (((rd_T56 l0_0 a2).f1).length : Int) then (if (rd ((rd_T56 l0_0 a2).f1) 0) = (-1) then (some ([] : List Int)) else (if 0 ≤ (rd ((rd_T56 l0_0 a2).f1) 0) then (if (rd ((rd_T56 l0_0 a2).f1) 0) < (l1.length : Int) then (if (rdOf false l1 (rd ((rd_T56 l0_0 a2).f1) 0) = true) then (if 1 ≤ (((rd_T56 l0_0 a2).f1).length : Int) then (atticref19_counted.l0 k (((rd_T56 l0_0 a2).f1).drop 1) ([] : List Int) 0) else (none)) else (some ([] : List Int))) else (none)) else (none))) else (none)) else (atticref19_counted.l1 k ((rd_T56 l0_0 a2).f1) ([] : List Int) 0))) else (none)) else (none)
theorem atticref19_counted.mono_l : ∀ k, (∀ y0 y1 y2, LeO (atticref19_counted.l0 k y0 y1 y2) (atticref19_counted.l0 (k + 1) y0 y1 y2)) ∧ (∀ y0 y1 y2, LeO (atticref19_counted.l1 k y0 y1 y2) (atticref19_counted.l1 (k + 1) y0 y1 y2))
 | 0 => ⟨fun _ _ _ r h => by simp [atticref19_counted.l0] at h, fun _ _ _ r h => by simp [atticref19_counted.l1] at h⟩
 | k + 1 => by
  obtain ⟨ih0, ih1⟩ := atticref19_counted.mono_l k
  refine ⟨?_, ?_⟩
  ·intro y0 y1 y2
   unfold atticref19_counted.l0
   repeat' first | (with_reducible first | exact ih0 _ _ _ | exact ih1 _ _ _ | exact LeO.refl _ | exact LeO.none _ | refine LeO.ite ?_ ?_ | refine LeO.bind ?_ (fun _ => ?_)) | exact ih0 _ _ _ | exact ih1 _ _ _ | exact LeO.none _ | refine LeO.ite ?_ ?_ | refine LeO.bind ?_ (fun _ => ?_)
  ·intro y0 y1 y2
   unfold atticref19_counted.l1
   repeat' first | (with_reducible first | exact ih0 _ _ _ | exact ih1 _ _ _ | exact LeO.refl _ | exact LeO.none _ | refine LeO.ite ?_ ?_ | refine LeO.bind ?_ (fun _ => ?_)) | exact ih0 _ _ _ | exact ih1 _ _ _ | exact LeO.none _ | refine LeO.ite ?_ ?_ | refine LeO.bind ?_ (fun _ => ?_)
theorem atticref19_counted.mono : ∀ a0 a1 a2 a3 k, LeO (atticref19_counted.f k a0 a1 a2 a3) (atticref19_counted.f (k + 1) a0 a1 a2 a3) := by
 intro a0 a1 a2 a3 k
 obtain ⟨ih0, ih1⟩ := atticref19_counted.mono_l k
 unfold atticref19_counted.f
 repeat' first | (with_reducible first | exact ih0 _ _ _ | exact ih1 _ _ _ | exact LeO.refl _ | exact LeO.none _ | refine LeO.ite ?_ ?_ | refine LeO.bind ?_ (fun _ => ?_)) | exact ih0 _ _ _ | exact ih1 _ _ _ | exact LeO.none _ | refine LeO.ite ?_ ?_ | refine LeO.bind ?_ (fun _ => ?_)
set_option maxHeartbeats 8000000 in
set_option maxRecDepth 100000 in
theorem atticref19_counted.calls (k : Nat) (A0_0 : Option Addr) (c0_0 : Nat) (l0_0 : List (S56)) (A0_1 : Option Addr) (c0_1 : Nat) (l0_1 : List Int) (A1 : Option Addr) (c1 : Nat) (l1 : List Bool) (a2 : Int) (r : List Int) (w : World) (hr0_0 : Kd.C k56 w A0_0 l0_0.length l0_0) (hc0_0 : l0_0.length ≤ c0_0) (hr0_1 : Kd.C (Kd.int .i64) w A0_1 l0_1.length l0_1) (hc0_1 : l0_1.length ≤ c0_1) (hr1 : Kd.C Kd.bool w A1 l1.length l1) (hc1 : l1.length ≤ c1) (h : atticref19_counted.f k l0_0 l0_1 l1 a2 = some r) :
  Calls Try.prog 46 #[.agg #[.slice A0_0 l0_0.length c0_0, .slice A0_1 l0_1.length c0_1], .slice A1 l1.length c1, .int .i64 a2] w fun e w' => ∃ v0_ : Value, e = .returned (v0_) ∧ Kd.R (Kd.int .i64) 3 w' w.heap.size (fun _ => True) v0_ r ∧ Below w.heap.size w w' := by
 have hu25 := Try.underlying25
 have hu56 := Try.underlying56
 have HR0_0 := ak hr0_0
 have HC0_0 := ak hc0_0
 clear hr0_0 hc0_0
 have HR0_1 := ak hr0_1
 have HC0_1 := ak hc0_1
 clear hr0_1 hc0_1
 have HR1 := ak hr1
 have HC1 := ak hc1
 clear hr1 hc1
 have HB := ak (Below.refl w.heap.size w)
 have H : (if 0 ≤ a2 then (if a2 < (l0_0.length : Int) then (if ((rd_T56 l0_0 a2).f0) = 2 then (some ([] : List Int)) else (if ((rd_T56 l0_0 a2).f0) = 3 then (if 0 < (((rd_T56 l0_0 a2).f1).length : Int) then (if (rd ((rd_T56 l0_0 a2).f1) 0) = (-1) then (some ([] : List Int)) else (if 0 ≤ (rd ((rd_T56 l0_0 a2).f1) 0) then (if (rd ((rd_T56 l0_0 a2).f1) 0) < (l1.length : Int) then (if (rdOf false l1 (rd ((rd_T56 l0_0 a2).f1) 0) = true) then (if 1 ≤ (((rd_T56 l0_0 a2).f1).length : Int) then (atticref19_counted.l0 k (((rd_T56 l0_0 a2).f1).drop 1) ([] : List Int) 0) else (none)) else (some ([] : List Int))) else (none)) else (none))) else (none)) else (atticref19_counted.l1 k ((rd_T56 l0_0 a2).f1) ([] : List Int) 0))) else (none)) else (none)) = some r := h
 clear h
 by_cases c4 : 0 ≤ a2
 ·rw [if_pos c4] at H
  have c4b0 : decide (0 ≤ a2) = true := decide_eq_true c4
  clear c4
  by_cases c5 : a2 < (l0_0.length : Int)
  ·rw [if_pos c5] at H
   have c5b0 : decide (a2 < (l0_0.length : Int)) = true := decide_eq_true c5
   clear c5
   by_cases c6 : ((rd_T56 l0_0 a2).f0) = 2
   ·rw [if_pos c6] at H
    have c6b0 : (((rd_T56 l0_0 a2).f0) == 2) = true := beq_iff_eq.mpr c6
    have c6b1 : (((rd_T56 l0_0 a2).f0) != 2) = false := bne_eq_false_iff_eq.mpr c6
    clear c6
    obtain rfl := Option.some.inj H
    go_enter Try.func46, Try.ntmps46
    go_wp2_with (first | ((with_reducible refine gate_dst (N := 3) rfl ?_); refine box_event ?hg (N := 3) ?hd (cs := #[.slice A0_0 l0_0.length c0_0, .slice A0_1 l0_1.length c0_1]) (t := 25) ?hr ?_; (case hd => rfl); (case hg => rfl); (case hr => first | (go_simp; done) | (go_simp; rfl)); intro gb220 hg w7 hbox hb; have n0_ := ak (below_step (by repeat (first | (with_reducible first | exact HB.out | apply ba_ | apply bn_ | apply b1_) | exact HB.out)) hb); have n1_ := ak (hbox); have n2_ := ak ((by rw [hg]; exact (below_size (by repeat (first | (with_reducible first | exact HB.out | apply ba_ | apply bn_ | apply b1_) | exact HB.out))) : w.heap.size ≤ gb220)); have n3_ := ak ((by rw [hg]; exact (below_size (by repeat (first | (with_reducible first | exact HB.out | apply ba_ | apply bn_ | apply b1_) | exact HB.out))) : w.heap.size ≤ gb220)); clear HB; have HB := n0_; have BK220 := n1_; have GW220 := n2_; have GE220 := n3_; clear n0_ n1_ n2_ n3_; clear hb hbox hg; obtain ⟨hcz8_0, hcz8_1, hfz8_0, hfz8_1⟩ := kk2 BK220.out; have p221 : 0 ≤ (a2 : Int) := of_decide_eq_true (by first | (with_reducible assumption) | assumption); have q221 : a2 < (l0_0.length : Int) := of_decide_eq_true (by first | (with_reducible assumption) | assumption); obtain ⟨ad221, A221_1, c221_1, e221, hx221_0, hx221_1, hl221_1, hi221_1⟩ := at_T56 HR0_0.out a2 p221 q221; cases e221; replace hx221_0 := (HB.out.cell (World.block_lt_of_cell? w _ hx221_0)).trans hx221_0; replace hx221_1 := (HB.out.cell (World.block_lt_of_cell? w _ hx221_1)).trans hx221_1; have HR221_1 := ak hi221_1; have HC221_1 := ak hl221_1; clear hi221_1 hl221_1; replace p221 := eq_true p221; replace q221 := eq_true q221) | ((with_reducible refine gate_dst (N := 7) rfl ?_); refine box_event ?hg (N := 7) ?hd (cs := #[.int .i64 0, .slice none 0 0]) (t := 56) ?hr ?_; (case hd => rfl); (case hg => rfl); (case hr => first | (go_simp; done) | (go_simp; rfl)); intro gb222 hg w9 hbox hb; have n0_ := ak (blk_below (g := gb220) (o := .cells #[.slice (some ad221) l0_0.length c0_0, .slice A0_1 l0_1.length c0_1] 25 (0, 0)) (by (with_reducible repeat first | apply kn_ | apply kd_ | apply ka_); exact BK220.out) hb); have n1_ := ak (below_step (by repeat (first | (with_reducible first | exact HB.out | apply ba_ | apply bn_ | apply b1_ | refine bs_ ?_ GE220.out) | exact HB.out)) hb); have n2_ := ak (hbox); have n3_ := ak ((by rw [hg]; exact (below_size (by repeat (first | (with_reducible first | exact HB.out | apply ba_ | apply bn_ | apply b1_ | refine bs_ ?_ GE220.out) | exact HB.out))) : w.heap.size ≤ gb222)); have n4_ := ak ((by rw [hg]; exact (below_size (by repeat (first | (with_reducible first | exact HB.out | apply ba_ | apply bn_ | apply b1_ | refine bs_ ?_ GE220.out) | exact HB.out))) : w.heap.size ≤ gb222)); have n5_ := ak ((by rw [hg]; exact Nat.ne_of_lt (blk_lt (g := gb220) (o := .cells #[.slice (some ad221) l0_0.length c0_0, .slice A0_1 l0_1.length c0_1] 25 (0, 0)) (by (with_reducible repeat first | apply kn_ | apply kd_ | apply ka_); exact BK220.out)) : gb220 ≠ gb222)); have n6_ := ak ((by rw [hg]; exact Nat.ne_of_gt (blk_lt (g := gb220) (o := .cells #[.slice (some ad221) l0_0.length c0_0, .slice A0_1 l0_1.length c0_1] 25 (0, 0)) (by (with_reducible repeat first | apply kn_ | apply kd_ | apply ka_); exact BK220.out)) : gb222 ≠ gb220)); clear BK220; clear HB; have BK220 := n0_; have HB := n1_; have BK222 := n2_; have GW222 := n3_; have GE222 := n4_; have NB220_222 := n5_; have NB222_220 := n6_; clear n0_ n1_ n2_ n3_ n4_ n5_ n6_; clear hb hbox hg; have hnb10 := NB222_220.out; have hnc10 := NB220_222.out; obtain ⟨hcz11_0, hcz11_1, hfz11_0, hfz11_1⟩ := kk2 BK222.out))
    go_ret
    exact ⟨_, by first | rfl | (simp [errW_none, errW_some] <;> rfl) | (simp [*, errW_none, errW_some] <;> rfl) | (simp [Int.tdiv_eq_ediv_of_nonneg]; done), by first | exact Kd.R_nil _ _ _ _ _ | exact Kd.N_nil _ _ _ _ _ | exact Kd.V_nil _ _ _ _ _ | exact Kd.Q_nil _ _ _ _ _ | exact Kd.S_nil _ _ _ _ _, by repeat (first | (with_reducible first | exact HB.out | apply ba_ | apply bn_ | apply b1_ | refine bs_ ?_ GE220.out | refine bs_ ?_ GE222.out) | exact HB.out)⟩
   ·rw [if_neg c6] at H
    have c6b0 : (((rd_T56 l0_0 a2).f0) == 2) = false := beq_eq_false_iff_ne.mpr c6
    have c6b1 : (((rd_T56 l0_0 a2).f0) != 2) = true := bne_iff_ne.mpr c6
    by_cases c12 : ((rd_T56 l0_0 a2).f0) = 3
    ·rw [if_pos c12] at H
     have c12b0 : (((rd_T56 l0_0 a2).f0) == 3) = true := beq_iff_eq.mpr c12
     have c12b1 : (((rd_T56 l0_0 a2).f0) != 3) = false := bne_eq_false_iff_eq.mpr c12
     clear c12
     by_cases c13 : 0 < (((rd_T56 l0_0 a2).f1).length : Int)
     ·rw [if_pos c13] at H
      have c13b0 : decide (0 < (((rd_T56 l0_0 a2).f1).length : Int)) = true := decide_eq_true c13
      have c13b1 : decide (0 < ((rd_T56 l0_0 a2).f1).length) = true := decide_eq_true (by omega)
      clear c13
      by_cases c14 : (rd ((rd_T56 l0_0 a2).f1) 0) = (-1)
      ·rw [if_pos c14] at H
       have c14b0 : ((rd ((rd_T56 l0_0 a2).f1) 0) == (-1)) = true := beq_iff_eq.mpr c14
       have c14b1 : ((rd ((rd_T56 l0_0 a2).f1) 0) != (-1)) = false := bne_eq_false_iff_eq.mpr c14
       clear c14
       obtain rfl := Option.some.inj H
       go_enter Try.func46, Try.ntmps46
       go_wp2_with (first | ((with_reducible refine gate_dst (N := 3) rfl ?_); refine box_event ?hg (N := 3) ?hd (cs := #[.slice A0_0 l0_0.length c0_0, .slice A0_1 l0_1.length c0_1]) (t := 25) ?hr ?_; (case hd => rfl); (case hg => rfl); (case hr => first | (go_simp; done) | (go_simp; rfl)); intro gb220 hg w15 hbox hb; have n0_ := ak (below_step (by repeat (first | (with_reducible first | exact HB.out | apply ba_ | apply bn_ | apply b1_) | exact HB.out)) hb); have n1_ := ak (hbox); have n2_ := ak ((by rw [hg]; exact (below_size (by repeat (first | (with_reducible first | exact HB.out | apply ba_ | apply bn_ | apply b1_) | exact HB.out))) : w.heap.size ≤ gb220)); have n3_ := ak ((by rw [hg]; exact (below_size (by repeat (first | (with_reducible first | exact HB.out | apply ba_ | apply bn_ | apply b1_) | exact HB.out))) : w.heap.size ≤ gb220)); clear HB; have HB := n0_; have BK220 := n1_; have GW220 := n2_; have GE220 := n3_; clear n0_ n1_ n2_ n3_; clear hb hbox hg; obtain ⟨hcz16_0, hcz16_1, hfz16_0, hfz16_1⟩ := kk2 BK220.out; have p221 : 0 ≤ (a2 : Int) := of_decide_eq_true (by first | (with_reducible assumption) | assumption); have q221 : a2 < (l0_0.length : Int) := of_decide_eq_true (by first | (with_reducible assumption) | assumption); obtain ⟨ad221, A221_1, c221_1, e221, hx221_0, hx221_1, hl221_1, hi221_1⟩ := at_T56 HR0_0.out a2 p221 q221; cases e221; replace hx221_0 := (HB.out.cell (World.block_lt_of_cell? w _ hx221_0)).trans hx221_0; replace hx221_1 := (HB.out.cell (World.block_lt_of_cell? w _ hx221_1)).trans hx221_1; have HR221_1 := ak hi221_1; have HC221_1 := ak hl221_1; clear hi221_1 hl221_1; replace p221 := eq_true p221; replace q221 := eq_true q221) | ((with_reducible refine gate_dst (N := 7) rfl ?_); refine box_event ?hg (N := 7) ?hd (cs := #[.int .i64 0, .slice none 0 0]) (t := 56) ?hr ?_; (case hd => rfl); (case hg => rfl); (case hr => first | (go_simp; done) | (go_simp; rfl)); intro gb222 hg w17 hbox hb; have n0_ := ak (blk_below (g := gb220) (o := .cells #[.slice (some ad221) l0_0.length c0_0, .slice A0_1 l0_1.length c0_1] 25 (0, 0)) (by (with_reducible repeat first | apply kn_ | apply kd_ | apply ka_); exact BK220.out) hb); have n1_ := ak (below_step (by repeat (first | (with_reducible first | exact HB.out | apply ba_ | apply bn_ | apply b1_ | refine bs_ ?_ GE220.out) | exact HB.out)) hb); have n2_ := ak (hbox); have n3_ := ak ((by rw [hg]; exact (below_size (by repeat (first | (with_reducible first | exact HB.out | apply ba_ | apply bn_ | apply b1_ | refine bs_ ?_ GE220.out) | exact HB.out))) : w.heap.size ≤ gb222)); have n4_ := ak ((by rw [hg]; exact (below_size (by repeat (first | (with_reducible first | exact HB.out | apply ba_ | apply bn_ | apply b1_ | refine bs_ ?_ GE220.out) | exact HB.out))) : w.heap.size ≤ gb222)); have n5_ := ak ((by rw [hg]; exact Nat.ne_of_lt (blk_lt (g := gb220) (o := .cells #[.slice (some ad221) l0_0.length c0_0, .slice A0_1 l0_1.length c0_1] 25 (0, 0)) (by (with_reducible repeat first | apply kn_ | apply kd_ | apply ka_); exact BK220.out)) : gb220 ≠ gb222)); have n6_ := ak ((by rw [hg]; exact Nat.ne_of_gt (blk_lt (g := gb220) (o := .cells #[.slice (some ad221) l0_0.length c0_0, .slice A0_1 l0_1.length c0_1] 25 (0, 0)) (by (with_reducible repeat first | apply kn_ | apply kd_ | apply ka_); exact BK220.out)) : gb222 ≠ gb220)); clear BK220; clear HB; have BK220 := n0_; have HB := n1_; have BK222 := n2_; have GW222 := n3_; have GE222 := n4_; have NB220_222 := n5_; have NB222_220 := n6_; clear n0_ n1_ n2_ n3_ n4_ n5_ n6_; clear hb hbox hg; have hnb18 := NB222_220.out; have hnc18 := NB220_222.out; obtain ⟨hcz19_0, hcz19_1, hfz19_0, hfz19_1⟩ := kk2 BK222.out; have p223 : 0 ≤ (0 : Int) := (by omega); have q223 : 0 < (((rd_T56 l0_0 a2).f1).length : Int) := of_decide_eq_true (by first | (with_reducible assumption) | assumption); obtain ⟨ad223, e223, hx223_0⟩ := Kd.at_int HR221_1.out 0 p223 q223; cases e223; have qi223 : (0 < ((rd_T56 l0_0 a2).f1).length) = True := eq_true (by omega); (try rw [show ((0 : Int)).toNat = 0 from rfl] at hx223_0); (try rw [Addr.add_zero'] at hx223_0); have hn223_0 : ad223.block ≠ gb222 := Nat.ne_of_lt (Nat.lt_of_lt_of_le (by have := World.block_lt_of_cell? _ _ hx223_0; first | rwa [add_block] at this | exact this) GW222.out); have hn223_1 : ad223.block ≠ gb222 := Nat.ne_of_lt (Nat.lt_of_lt_of_le (by have := World.block_lt_of_cell? _ _ hx223_0; first | rwa [add_block] at this | exact this) GW222.out); replace hx223_0 := (HB.out.cell (World.block_lt_of_cell? w _ hx223_0)).trans hx223_0; replace hx223_0 := (cell_far (p := ⟨gb222, 0, none⟩) (by first | (rw [add_block]; exact hn223_0) | (show (Addr.add _ _).block ≠ _; rw [add_block]; exact hn223_0) | exact hn223_0) (.int .i64 ((rd_T56 l0_0 a2).f0))).trans hx223_0; replace hx223_0 := (cell_far (p := ⟨gb222, 1, none⟩) (by first | (rw [add_block]; exact hn223_1) | (show (Addr.add _ _).block ≠ _; rw [add_block]; exact hn223_1) | exact hn223_1) (.slice (some ad223) ((rd_T56 l0_0 a2).f1).length c221_1)).trans hx223_0; clear hn223_0; clear hn223_1; replace p223 := eq_true p223; replace q223 := eq_true q223))
       go_ret
       exact ⟨_, by first | rfl | (simp [errW_none, errW_some] <;> rfl) | (simp [*, errW_none, errW_some] <;> rfl) | (simp [Int.tdiv_eq_ediv_of_nonneg]; done), by first | exact Kd.R_nil _ _ _ _ _ | exact Kd.N_nil _ _ _ _ _ | exact Kd.V_nil _ _ _ _ _ | exact Kd.Q_nil _ _ _ _ _ | exact Kd.S_nil _ _ _ _ _, by repeat (first | (with_reducible first | exact HB.out | apply ba_ | apply bn_ | apply b1_ | refine bs_ ?_ GE220.out | refine bs_ ?_ GE222.out) | exact HB.out)⟩
      ·rw [if_neg c14] at H
       have c14b0 : ((rd ((rd_T56 l0_0 a2).f1) 0) == (-1)) = false := beq_eq_false_iff_ne.mpr c14
       have c14b1 : ((rd ((rd_T56 l0_0 a2).f1) 0) != (-1)) = true := bne_iff_ne.mpr c14
       by_cases c20 : 0 ≤ (rd ((rd_T56 l0_0 a2).f1) 0)
       ·rw [if_pos c20] at H
        have c20b0 : decide (0 ≤ (rd ((rd_T56 l0_0 a2).f1) 0)) = true := decide_eq_true c20
        clear c20
        by_cases c21 : (rd ((rd_T56 l0_0 a2).f1) 0) < (l1.length : Int)
        ·rw [if_pos c21] at H
         have c21b0 : decide ((rd ((rd_T56 l0_0 a2).f1) 0) < (l1.length : Int)) = true := decide_eq_true c21
         clear c21
         obtain ⟨bq22, hbq22⟩ : ∃ b_ : Bool, b_ = (rdOf false l1 (rd ((rd_T56 l0_0 a2).f1) 0)) := ⟨_, rfl⟩
         replace H : (if (bq22 = true) then (if 1 ≤ (((rd_T56 l0_0 a2).f1).length : Int) then (atticref19_counted.l0 k (((rd_T56 l0_0 a2).f1).drop 1) ([] : List Int) 0) else (none)) else (some ([] : List Int))) = some r := by rw [← hbq22] at H; exact H
         have Nbq22 := ak hbq22
         clear hbq22
         by_cases c23 : (bq22 = true)
         ·subst c23
          have H1 : (if 1 ≤ (((rd_T56 l0_0 a2).f1).length : Int) then (atticref19_counted.l0 k (((rd_T56 l0_0 a2).f1).drop 1) ([] : List Int) 0) else (none)) = some r := by rw [if_pos rfl] at H; exact H
          clear H
          have H := H1
          clear H1
          by_cases c24 : 1 ≤ (((rd_T56 l0_0 a2).f1).length : Int)
          ·rw [if_pos c24] at H
           have c24b0 := eq_true c24
           have c24b1 : decide (1 ≤ (((rd_T56 l0_0 a2).f1).length : Int)) = true := decide_eq_true c24
           clear c24
           have H' := ak H
           clear H
           go_enter Try.func46, Try.ntmps46
           go_wp2_with (first | ((with_reducible refine gate_dst (N := 3) rfl ?_); refine box_event ?hg (N := 3) ?hd (cs := #[.slice A0_0 l0_0.length c0_0, .slice A0_1 l0_1.length c0_1]) (t := 25) ?hr ?_; (case hd => rfl); (case hg => rfl); (case hr => first | (go_simp; done) | (go_simp; rfl)); intro gb220 hg w25 hbox hb; have n0_ := ak (below_step (by repeat (first | (with_reducible first | exact HB.out | apply ba_ | apply bn_ | apply b1_) | exact HB.out)) hb); have n1_ := ak (hbox); have n2_ := ak ((by rw [hg]; exact (below_size (by repeat (first | (with_reducible first | exact HB.out | apply ba_ | apply bn_ | apply b1_) | exact HB.out))) : w.heap.size ≤ gb220)); have n3_ := ak ((by rw [hg]; exact (below_size (by repeat (first | (with_reducible first | exact HB.out | apply ba_ | apply bn_ | apply b1_) | exact HB.out))) : w.heap.size ≤ gb220)); clear HB; have HB := n0_; have BK220 := n1_; have GW220 := n2_; have GE220 := n3_; clear n0_ n1_ n2_ n3_; clear hb hbox hg; obtain ⟨hcz26_0, hcz26_1, hfz26_0, hfz26_1⟩ := kk2 BK220.out; have p221 : 0 ≤ (a2 : Int) := of_decide_eq_true (by first | (with_reducible assumption) | assumption); have q221 : a2 < (l0_0.length : Int) := of_decide_eq_true (by first | (with_reducible assumption) | assumption); obtain ⟨ad221, A221_1, c221_1, e221, hx221_0, hx221_1, hl221_1, hi221_1⟩ := at_T56 HR0_0.out a2 p221 q221; cases e221; replace hx221_0 := (HB.out.cell (World.block_lt_of_cell? w _ hx221_0)).trans hx221_0; replace hx221_1 := (HB.out.cell (World.block_lt_of_cell? w _ hx221_1)).trans hx221_1; have HR221_1 := ak hi221_1; have HC221_1 := ak hl221_1; clear hi221_1 hl221_1; replace p221 := eq_true p221; replace q221 := eq_true q221) | ((with_reducible refine gate_dst (N := 7) rfl ?_); refine box_event ?hg (N := 7) ?hd (cs := #[.int .i64 0, .slice none 0 0]) (t := 56) ?hr ?_; (case hd => rfl); (case hg => rfl); (case hr => first | (go_simp; done) | (go_simp; rfl)); intro gb222 hg w27 hbox hb; have n0_ := ak (blk_below (g := gb220) (o := .cells #[.slice (some ad221) l0_0.length c0_0, .slice A0_1 l0_1.length c0_1] 25 (0, 0)) (by (with_reducible repeat first | apply kn_ | apply kd_ | apply ka_); exact BK220.out) hb); have n1_ := ak (below_step (by repeat (first | (with_reducible first | exact HB.out | apply ba_ | apply bn_ | apply b1_ | refine bs_ ?_ GE220.out) | exact HB.out)) hb); have n2_ := ak (hbox); have n3_ := ak ((by rw [hg]; exact (below_size (by repeat (first | (with_reducible first | exact HB.out | apply ba_ | apply bn_ | apply b1_ | refine bs_ ?_ GE220.out) | exact HB.out))) : w.heap.size ≤ gb222)); have n4_ := ak ((by rw [hg]; exact (below_size (by repeat (first | (with_reducible first | exact HB.out | apply ba_ | apply bn_ | apply b1_ | refine bs_ ?_ GE220.out) | exact HB.out))) : w.heap.size ≤ gb222)); have n5_ := ak ((by rw [hg]; exact Nat.ne_of_lt (blk_lt (g := gb220) (o := .cells #[.slice (some ad221) l0_0.length c0_0, .slice A0_1 l0_1.length c0_1] 25 (0, 0)) (by (with_reducible repeat first | apply kn_ | apply kd_ | apply ka_); exact BK220.out)) : gb220 ≠ gb222)); have n6_ := ak ((by rw [hg]; exact Nat.ne_of_gt (blk_lt (g := gb220) (o := .cells #[.slice (some ad221) l0_0.length c0_0, .slice A0_1 l0_1.length c0_1] 25 (0, 0)) (by (with_reducible repeat first | apply kn_ | apply kd_ | apply ka_); exact BK220.out)) : gb222 ≠ gb220)); clear BK220; clear HB; have BK220 := n0_; have HB := n1_; have BK222 := n2_; have GW222 := n3_; have GE222 := n4_; have NB220_222 := n5_; have NB222_220 := n6_; clear n0_ n1_ n2_ n3_ n4_ n5_ n6_; clear hb hbox hg; have hnb28 := NB222_220.out; have hnc28 := NB220_222.out; obtain ⟨hcz29_0, hcz29_1, hfz29_0, hfz29_1⟩ := kk2 BK222.out; have p223 : 0 ≤ (0 : Int) := (by omega); have q223 : 0 < (((rd_T56 l0_0 a2).f1).length : Int) := of_decide_eq_true (by first | (with_reducible assumption) | assumption); obtain ⟨ad223, e223, hx223_0⟩ := Kd.at_int HR221_1.out 0 p223 q223; cases e223; have qi223 : (0 < ((rd_T56 l0_0 a2).f1).length) = True := eq_true (by omega); (try rw [show ((0 : Int)).toNat = 0 from rfl] at hx223_0); (try rw [Addr.add_zero'] at hx223_0); have hn223_0 : ad223.block ≠ gb222 := Nat.ne_of_lt (Nat.lt_of_lt_of_le (by have := World.block_lt_of_cell? _ _ hx223_0; first | rwa [add_block] at this | exact this) GW222.out); have hn223_1 : ad223.block ≠ gb222 := Nat.ne_of_lt (Nat.lt_of_lt_of_le (by have := World.block_lt_of_cell? _ _ hx223_0; first | rwa [add_block] at this | exact this) GW222.out); replace hx223_0 := (HB.out.cell (World.block_lt_of_cell? w _ hx223_0)).trans hx223_0; replace hx223_0 := (cell_far (p := ⟨gb222, 0, none⟩) (by first | (rw [add_block]; exact hn223_0) | (show (Addr.add _ _).block ≠ _; rw [add_block]; exact hn223_0) | exact hn223_0) (.int .i64 ((rd_T56 l0_0 a2).f0))).trans hx223_0; replace hx223_0 := (cell_far (p := ⟨gb222, 1, none⟩) (by first | (rw [add_block]; exact hn223_1) | (show (Addr.add _ _).block ≠ _; rw [add_block]; exact hn223_1) | exact hn223_1) (.slice (some ad223) ((rd_T56 l0_0 a2).f1).length c221_1)).trans hx223_0; clear hn223_0; clear hn223_1; replace p223 := eq_true p223; replace q223 := eq_true q223; have p224 : 0 ≤ (0 : Int) := (by omega); have q224 : 0 < (((rd_T56 l0_0 a2).f1).length : Int) := of_decide_eq_true (by first | (with_reducible assumption) | assumption); obtain ⟨ad224, e224, hx224_0⟩ := Kd.at_int HR221_1.out 0 p224 q224; obtain rfl : ad223 = ad224 := (by injection e224); have qi224 : (0 < ((rd_T56 l0_0 a2).f1).length) = True := eq_true (by omega); (try rw [show ((0 : Int)).toNat = 0 from rfl] at hx224_0); (try rw [Addr.add_zero'] at hx224_0); have hn224_0 : ad223.block ≠ gb222 := Nat.ne_of_lt (Nat.lt_of_lt_of_le (by have := World.block_lt_of_cell? _ _ hx224_0; first | rwa [add_block] at this | exact this) GW222.out); have hn224_1 : ad223.block ≠ gb222 := Nat.ne_of_lt (Nat.lt_of_lt_of_le (by have := World.block_lt_of_cell? _ _ hx224_0; first | rwa [add_block] at this | exact this) GW222.out); replace hx224_0 := (HB.out.cell (World.block_lt_of_cell? w _ hx224_0)).trans hx224_0; replace hx224_0 := (cell_far (p := ⟨gb222, 0, none⟩) (by first | (rw [add_block]; exact hn224_0) | (show (Addr.add _ _).block ≠ _; rw [add_block]; exact hn224_0) | exact hn224_0) (.int .i64 ((rd_T56 l0_0 a2).f0))).trans hx224_0; replace hx224_0 := (cell_far (p := ⟨gb222, 1, none⟩) (by first | (rw [add_block]; exact hn224_1) | (show (Addr.add _ _).block ≠ _; rw [add_block]; exact hn224_1) | exact hn224_1) (.slice (some ad223) ((rd_T56 l0_0 a2).f1).length c221_1)).trans hx224_0; clear hn224_0; clear hn224_1; replace p224 := eq_true p224; replace q224 := eq_true q224; have p225 : 0 ≤ ((rd ((rd_T56 l0_0 a2).f1) 0) : Int) := of_decide_eq_true (by first | (with_reducible assumption) | assumption); have q225 : (rd ((rd_T56 l0_0 a2).f1) 0) < (l1.length : Int) := of_decide_eq_true (by first | (with_reducible assumption) | assumption); obtain ⟨ad225, e225, hx225_0⟩ := Kd.at_bool HR1.out (rd ((rd_T56 l0_0 a2).f1) 0) p225 q225; (try rw [← Nbq22.out] at hx225_0); cases e225; have hn225_0 : ad225.block ≠ gb222 := Nat.ne_of_lt (Nat.lt_of_lt_of_le (by have := World.block_lt_of_cell? _ _ hx225_0; first | rwa [add_block] at this | exact this) GW222.out); have hn225_1 : ad225.block ≠ gb222 := Nat.ne_of_lt (Nat.lt_of_lt_of_le (by have := World.block_lt_of_cell? _ _ hx225_0; first | rwa [add_block] at this | exact this) GW222.out); replace hx225_0 := (HB.out.cell (World.block_lt_of_cell? w _ hx225_0)).trans hx225_0; replace hx225_0 := (cell_far (p := ⟨gb222, 0, none⟩) (by first | (rw [add_block]; exact hn225_0) | (show (Addr.add _ _).block ≠ _; rw [add_block]; exact hn225_0) | exact hn225_0) (.int .i64 ((rd_T56 l0_0 a2).f0))).trans hx225_0; replace hx225_0 := (cell_far (p := ⟨gb222, 1, none⟩) (by first | (rw [add_block]; exact hn225_1) | (show (Addr.add _ _).block ≠ _; rw [add_block]; exact hn225_1) | exact hn225_1) (.slice (some ad223) ((rd_T56 l0_0 a2).f1).length c221_1)).trans hx225_0; clear hn225_0; clear hn225_1; replace p225 := eq_true p225; replace q225 := eq_true q225; obtain ⟨i030, hi030, _, hsz30, _⟩ := info_parts info3; obtain ⟨A30, hcut30, hA30, hC30⟩ := print_drop_of (P := Try.prog) (Value.int .i64) 0 23 3 .i64 Try.underlying23 hi030 hsz30 (some ad223) c221_1 ((rd_T56 l0_0 a2).f1) 1 (by omega) (of_decide_eq_true (by first | (with_reducible assumption) | assumption)) HC221_1.out; have HR226 := ak (Kd.C_of_reads (h1 := fun _ => rfl) (hA30 _ (Kd.reads_of_C HR221_1.out))); have HC226 := ak hC30; clear hA30 hC30 hi030 hsz30))
           go_loopg [9, 10] k (fun kq v9 v10 w' => ∃ (x9_1 : List Int) (x10_1 : Int), v10 = .int .i64 x10_1 ∧ Aside0 (atticref19_counted.l0 kq (((rd_T56 l0_0 a2).f1).drop 1) x9_1 x10_1 = some r) ∧ Aside0 (kq ≤ k) ∧ Aside0 (Kd.R (Kd.int .i64) 3 w' w.heap.size (fun _ => True) v9 x9_1) ∧ Aside0 (w'.heap[gb220]? = some (.cells #[(.slice (some ad221) l0_0.length c0_0), (.slice A0_1 l0_1.length c0_1)] 25 (0, 0))) ∧ Aside0 (w'.heap[gb222]? = some (.cells #[.int .i64 ((rd_T56 l0_0 a2).f0), (.slice (some ad223) ((rd_T56 l0_0 a2).f1).length c221_1)] 56 (0, 0))) ∧ Aside0 (Below w.heap.size w w'))
           case atStart => exact ⟨(([] : List Int)), (0), (by first | rfl | (simp; done) | (simp [*]; done) | (simp [Int.tdiv_eq_ediv_of_nonneg]; done)), H', ⟨Nat.le_refl _⟩, ⟨by first | exact Kd.R_nil _ _ _ _ _ | exact Kd.N_nil _ _ _ _ _ | exact Kd.V_nil _ _ _ _ _ | exact Kd.Q_nil _ _ _ _ _ | exact Kd.S_nil _ _ _ _ _⟩, ⟨by (with_reducible repeat first | apply kn_ | apply kd_ | apply ka_); refine blk_far ?_ NB220_222.out _; (with_reducible repeat first | apply kn_ | apply kd_ | apply ka_); refine blk_far ?_ NB220_222.out _; (with_reducible repeat first | apply kn_ | apply kd_ | apply ka_); exact BK220.out⟩, ⟨by (with_reducible repeat first | apply kn_ | apply kd_ | apply ka_); refine blk_put (cs := #[.int .i64 ((rd_T56 l0_0 a2).f0), .slice none 0 0]) ?_ 1 _ rfl; (with_reducible repeat first | apply kn_ | apply kd_ | apply ka_); refine blk_put (cs := #[.int .i64 0, .slice none 0 0]) ?_ 0 _ rfl; (with_reducible repeat first | apply kn_ | apply kd_ | apply ka_); exact BK222.out⟩, ⟨by repeat (first | (with_reducible first | exact HB.out | apply ba_ | apply bn_ | apply b1_ | refine bs_ ?_ GE220.out | refine bs_ ?_ GE222.out) | exact HB.out)⟩⟩
           case round =>
            clear H'
            (try clear c1); (try clear c2); (try clear p2); (try clear q2); (try clear hx2); (try clear qi2); (try clear c4); (try clear c4b0); (try clear c5); (try clear c5b0); (try clear c6); (try clear c6b0); (try clear c6b1); (try clear c10); (try clear c12); (try clear c12b0); (try clear c12b1); (try clear c13); (try clear c13b0); (try clear c13b1); (try clear c14); (try clear c14b0); (try clear c14b1); (try clear c18); (try clear c20); (try clear c20b0); (try clear c21); (try clear c21b0); (try clear c22); (try clear p22); (try clear q22); (try clear hx22); (try clear qi22); (try clear c23); (try clear c24); (try clear c24b0); (try clear c24b1); (try clear c28); (try clear hcz11_0); (try clear hcz11_1); (try clear hcz16_0); (try clear hcz16_1); (try clear hcz19_0); (try clear hcz19_1); (try clear hcz26_0); (try clear hcz26_1); (try clear hcz29_0); (try clear hcz29_1); (try clear hcz8_0); (try clear hcz8_1); (try clear hfz11_0); (try clear hfz11_1); (try clear hfz16_0); (try clear hfz16_1); (try clear hfz19_0); (try clear hfz19_1); (try clear hfz26_0); (try clear hfz26_1); (try clear hfz29_0); (try clear hfz29_1); (try clear hfz8_0); (try clear hfz8_1); (try clear hx221_0); (try clear hx221_1); (try clear hx223_0); (try clear hx224_0); (try clear hx225_0); (try clear p221); (try clear p223); (try clear p224); (try clear p225); (try clear q221); (try clear q223); (try clear q224); (try clear q225)
            obtain ⟨x9_1, x10_1, rfl, HA, HK1, HO_9, BK220, BK222, HB⟩ := hrel
            cases gk with
            | zero => exact absurd HA.out (by simp [atticref19_counted.l0])
            | succ k1 =>
             have H := HA.out
             clear HA
             simp only [atticref19_counted.l0] at H
             rw [show rd (((rd_T56 l0_0 a2).f1).drop 1) x10_1 = rd (((rd_T56 l0_0 a2).f1).tail) x10_1 from by rw [List.drop_one]] at H
             by_cases c31 : x10_1 < ((((rd_T56 l0_0 a2).f1).drop 1).length : Int)
             ·rw [if_pos c31] at H
              have c31b0 : decide (x10_1 < ((((rd_T56 l0_0 a2).f1).drop 1).length : Int)) = true := decide_eq_true c31
              have c31b9 : decide (x10_1 < ((((rd_T56 l0_0 a2).f1).length - 1 : Nat) : Int)) = true := by rw [← List.length_drop]; exact c31b0
              clear c31
              by_cases c32 : 0 ≤ x10_1
              ·rw [if_pos c32] at H
               have c32b0 : decide (0 ≤ x10_1) = true := decide_eq_true c32
               clear c32
               by_cases c33 : (rd (((rd_T56 l0_0 a2).f1).tail) x10_1) = (-1)
               ·rw [if_pos c33] at H
                have c33b0 : ((rd (((rd_T56 l0_0 a2).f1).tail) x10_1) == (-1)) = true := beq_iff_eq.mpr c33
                have c33b1 : ((rd (((rd_T56 l0_0 a2).f1).tail) x10_1) != (-1)) = false := bne_eq_false_iff_eq.mpr c33
                clear c33
                have H' := ak H
                clear H
                have p227 : 0 ≤ (x10_1 : Int) := of_decide_eq_true (by first | (with_reducible assumption) | assumption)
                have q227 : x10_1 < ((((rd_T56 l0_0 a2).f1).drop 1).length : Int) := of_decide_eq_true (by first | (with_reducible assumption) | assumption)
                have q227z : (x10_1 < ((((rd_T56 l0_0 a2).f1).length - 1 : Nat) : Int)) = True := eq_true (by rw [← List.length_drop]; exact q227)
                obtain ⟨ad227, e227, hx227_0⟩ := Kd.at_int HR226.out x10_1 p227 q227
                rw [show (Int.toNat 1) = 1 from rfl, List.drop_one] at hx227_0
                cases e227
                replace hx227_0 := (HB.out.cell (World.block_lt_of_cell? w _ hx227_0)).trans hx227_0
                replace p227 := eq_true p227
                replace q227 := eq_true q227
                go_wp2
                go_roundg k1
                case measure => have := HK1.out; omega
                case rel => exact ⟨(x9_1), (wrap64 (x10_1 + 1)), (by first | rfl | (simp; done) | (simp [*]; done) | (simp [Int.tdiv_eq_ediv_of_nonneg]; done)), H', ⟨by have := HK1.out; omega⟩, ⟨by (with_reducible repeat (first | apply Kd.R_alloc | apply Kd.R_drewN | apply Kd.R_drew)); exact HO_9.out⟩, ⟨by (with_reducible repeat first | apply kn_ | apply kd_ | apply ka_); exact BK220.out⟩, ⟨by (with_reducible repeat first | apply kn_ | apply kd_ | apply ka_); exact BK222.out⟩, ⟨by repeat (first | (with_reducible first | exact HB.out | apply ba_ | apply bn_ | apply b1_ | refine bs_ ?_ GE220.out | refine bs_ ?_ GE222.out) | exact HB.out)⟩⟩
               ·rw [if_neg c33] at H
                have c33b0 : ((rd (((rd_T56 l0_0 a2).f1).tail) x10_1) == (-1)) = false := beq_eq_false_iff_ne.mpr c33
                have c33b1 : ((rd (((rd_T56 l0_0 a2).f1).tail) x10_1) != (-1)) = true := bne_iff_ne.mpr c33
                by_cases c34 : x9_1.length < 17592186044416
                ·rw [if_pos c34] at H
                 have LMc34 := ak c34
                 clear c34
                 obtain ⟨y229, hy229⟩ : ∃ y_ : List Int, y_ = (x9_1 ++ [rd (((rd_T56 l0_0 a2).f1).tail) x10_1]) := ⟨_, rfl⟩
                 replace H : (atticref19_counted.l0 k1 (((rd_T56 l0_0 a2).f1).drop 1) y229 (wrap64 (x10_1 + 1))) = some r := by first | (rw [hy229]; with_reducible exact H) | (have H2_ := (Option.bind_some _ _).symm.trans H; rw [hy229]; with_reducible exact H2_) | (have H2_ := (Option.bind_some _ _).symm.trans H; with_reducible exact H2_) | with_reducible exact H | (rw [hy229]; exact H) | exact H
                 have Ny229 := ak hy229
                 clear hy229
                 have H' := ak H
                 clear H
                 have p227 : 0 ≤ (x10_1 : Int) := of_decide_eq_true (by first | (with_reducible assumption) | assumption)
                 have q227 : x10_1 < ((((rd_T56 l0_0 a2).f1).drop 1).length : Int) := of_decide_eq_true (by first | (with_reducible assumption) | assumption)
                 have q227z : (x10_1 < ((((rd_T56 l0_0 a2).f1).length - 1 : Nat) : Int)) = True := eq_true (by rw [← List.length_drop]; exact q227)
                 obtain ⟨ad227, e227, hx227_0⟩ := Kd.at_int HR226.out x10_1 p227 q227
                 rw [show (Int.toNat 1) = 1 from rfl, List.drop_one] at hx227_0
                 cases e227
                 replace hx227_0 := (HB.out.cell (World.block_lt_of_cell? w _ hx227_0)).trans hx227_0
                 replace p227 := eq_true p227
                 replace q227 := eq_true q227
                 have p228 : 0 ≤ (x10_1 : Int) := of_decide_eq_true (by first | (with_reducible assumption) | assumption)
                 have q228 : x10_1 < ((((rd_T56 l0_0 a2).f1).drop 1).length : Int) := of_decide_eq_true (by first | (with_reducible assumption) | assumption)
                 have q228z : (x10_1 < ((((rd_T56 l0_0 a2).f1).length - 1 : Nat) : Int)) = True := eq_true (by rw [← List.length_drop]; exact q228)
                 obtain ⟨ad228, e228, hx228_0⟩ := Kd.at_int HR226.out x10_1 p228 q228
                 rw [show (Int.toNat 1) = 1 from rfl, List.drop_one] at hx228_0
                 obtain rfl : ad227 = ad228 := (by injection e228)
                 replace hx228_0 := (HB.out.cell (World.block_lt_of_cell? w _ hx228_0)).trans hx228_0
                 replace p228 := eq_true p228
                 replace q228 := eq_true q228
                 go_wp2_with (first | ((with_reducible refine gate_builtin (b := .append) (xs := #[.tmp 52, .tmp 57]) rfl ?_); at_builtin; refine Kd.R_append (Kd.int .i64) (w0 := w) w.heap.size rfl (.tmp 52) (.tmp 57) 23 3 (.int .i64 0) 8 rfl Try.underlying23 info3 rfl (by decide) (by omega) u9 x9_1 (rd (((rd_T56 l0_0 a2).f1).tail) x10_1) [.int .i64 (rd (((rd_T56 l0_0 a2).f1).tail) x10_1)] (fun _ => True) (fun _ => False) rfl rfl ?aP (fun _ hk => hk.elim) ?aF ?aO ?aB ?aS ?aL ?_; (case aP => exact rfl); (case aB => exact (by repeat (first | (with_reducible first | exact HB.out | apply ba_ | apply bn_ | apply b1_ | refine bs_ ?_ GE220.out | refine bs_ ?_ GE222.out) | exact HB.out))); (case aF => exact (fun _ _ => trivial)); (case aO => exact (by (with_reducible repeat (first | apply Kd.R_alloc | apply Kd.R_drewN | apply Kd.R_drew)); exact HO_9.out)); (case aS => exact (below_size (by repeat (first | (with_reducible first | exact HB.out | apply ba_ | apply bn_ | apply b1_ | refine bs_ ?_ GE220.out | refine bs_ ?_ GE222.out) | exact HB.out)))); (case aL => have := LMc34.out; omega); intro v230 w35 ho hb hg hat; rw [← Ny229.out] at ho; have n0_ := ak (blk_grown (g := gb220) (o := .cells #[.slice (some ad221) l0_0.length c0_0, .slice A0_1 l0_1.length c0_1] 25 (0, 0)) (by (with_reducible repeat first | apply kn_ | apply kd_ | apply ka_); exact BK220.out) hg (Kd.R_ne HO_9.out BK220.out (by decide))); have n1_ := ak (blk_grown (g := gb222) (o := .cells #[.int .i64 ((rd_T56 l0_0 a2).f0), .slice (some ad223) ((rd_T56 l0_0 a2).f1).length c221_1] 56 (0, 0)) (by (with_reducible repeat first | apply kn_ | apply kd_ | apply ka_); exact BK222.out) hg (Kd.R_ne HO_9.out BK222.out (by decide))); have n2_ := ak (hb); have n3_ := ak (ho); clear BK220; clear BK222; clear HB; clear HO_9; have BK220 := n0_; have BK222 := n1_; have HB := n2_; have HO231 := n3_; clear n0_ n1_ n2_ n3_; clear ho hb hg hat))
                 go_roundg k1
                 case measure => have := HK1.out; omega
                 case rel => exact ⟨(y229), (wrap64 (x10_1 + 1)), (by first | rfl | (simp; done) | (simp [*]; done) | (simp [Int.tdiv_eq_ediv_of_nonneg]; done)), H', ⟨by have := HK1.out; omega⟩, ⟨by (with_reducible repeat (first | apply Kd.R_alloc | apply Kd.R_drewN | apply Kd.R_drew)); exact HO231.out⟩, ⟨by (with_reducible repeat first | apply kn_ | apply kd_ | apply ka_); exact BK220.out⟩, ⟨by (with_reducible repeat first | apply kn_ | apply kd_ | apply ka_); exact BK222.out⟩, ⟨by repeat (first | (with_reducible first | exact HB.out | apply ba_ | apply bn_ | apply b1_ | refine bs_ ?_ GE220.out | refine bs_ ?_ GE222.out) | exact HB.out)⟩⟩
                ·rw [if_neg c34] at H
                 exact absurd H (by simp)
              ·rw [if_neg c32] at H
               exact absurd H (by simp)
             ·rw [if_neg c31] at H
              have c31b0 : decide (x10_1 < ((((rd_T56 l0_0 a2).f1).drop 1).length : Int)) = false := decide_eq_false c31
              have c31b9 : decide (x10_1 < ((((rd_T56 l0_0 a2).f1).length - 1 : Nat) : Int)) = false := by rw [← List.length_drop]; exact c31b0
              clear c31
              obtain rfl := Option.some.inj H
              go_wp2
              go_ret
              exact ⟨_, by first | rfl | (simp [errW_none, errW_some] <;> rfl) | (simp [*, errW_none, errW_some] <;> rfl) | (simp [Int.tdiv_eq_ediv_of_nonneg]; done), by (with_reducible repeat (first | apply Kd.R_alloc | apply Kd.R_drewN | apply Kd.R_drew)); exact HO_9.out, by repeat (first | (with_reducible first | exact HB.out | apply ba_ | apply bn_ | apply b1_ | refine bs_ ?_ GE220.out | refine bs_ ?_ GE222.out) | exact HB.out)⟩
          ·rw [if_neg c24] at H
           exact absurd H (by simp)
         ·replace c23 := Bool.eq_false_iff.mpr c23
          subst c23
          have H1 : (some ([] : List Int)) = some r := by rw [if_neg (show ¬ (false = true) by decide)] at H; exact H
          clear H
          have H := H1
          clear H1
          obtain rfl := Option.some.inj H
          go_enter Try.func46, Try.ntmps46
          go_wp2_with (first | ((with_reducible refine gate_dst (N := 3) rfl ?_); refine box_event ?hg (N := 3) ?hd (cs := #[.slice A0_0 l0_0.length c0_0, .slice A0_1 l0_1.length c0_1]) (t := 25) ?hr ?_; (case hd => rfl); (case hg => rfl); (case hr => first | (go_simp; done) | (go_simp; rfl)); intro gb220 hg w36 hbox hb; have n0_ := ak (below_step (by repeat (first | (with_reducible first | exact HB.out | apply ba_ | apply bn_ | apply b1_) | exact HB.out)) hb); have n1_ := ak (hbox); have n2_ := ak ((by rw [hg]; exact (below_size (by repeat (first | (with_reducible first | exact HB.out | apply ba_ | apply bn_ | apply b1_) | exact HB.out))) : w.heap.size ≤ gb220)); have n3_ := ak ((by rw [hg]; exact (below_size (by repeat (first | (with_reducible first | exact HB.out | apply ba_ | apply bn_ | apply b1_) | exact HB.out))) : w.heap.size ≤ gb220)); clear HB; have HB := n0_; have BK220 := n1_; have GW220 := n2_; have GE220 := n3_; clear n0_ n1_ n2_ n3_; clear hb hbox hg; obtain ⟨hcz37_0, hcz37_1, hfz37_0, hfz37_1⟩ := kk2 BK220.out; have p221 : 0 ≤ (a2 : Int) := of_decide_eq_true (by first | (with_reducible assumption) | assumption); have q221 : a2 < (l0_0.length : Int) := of_decide_eq_true (by first | (with_reducible assumption) | assumption); obtain ⟨ad221, A221_1, c221_1, e221, hx221_0, hx221_1, hl221_1, hi221_1⟩ := at_T56 HR0_0.out a2 p221 q221; cases e221; replace hx221_0 := (HB.out.cell (World.block_lt_of_cell? w _ hx221_0)).trans hx221_0; replace hx221_1 := (HB.out.cell (World.block_lt_of_cell? w _ hx221_1)).trans hx221_1; have HR221_1 := ak hi221_1; have HC221_1 := ak hl221_1; clear hi221_1 hl221_1; replace p221 := eq_true p221; replace q221 := eq_true q221) | ((with_reducible refine gate_dst (N := 7) rfl ?_); refine box_event ?hg (N := 7) ?hd (cs := #[.int .i64 0, .slice none 0 0]) (t := 56) ?hr ?_; (case hd => rfl); (case hg => rfl); (case hr => first | (go_simp; done) | (go_simp; rfl)); intro gb222 hg w38 hbox hb; have n0_ := ak (blk_below (g := gb220) (o := .cells #[.slice (some ad221) l0_0.length c0_0, .slice A0_1 l0_1.length c0_1] 25 (0, 0)) (by (with_reducible repeat first | apply kn_ | apply kd_ | apply ka_); exact BK220.out) hb); have n1_ := ak (below_step (by repeat (first | (with_reducible first | exact HB.out | apply ba_ | apply bn_ | apply b1_ | refine bs_ ?_ GE220.out) | exact HB.out)) hb); have n2_ := ak (hbox); have n3_ := ak ((by rw [hg]; exact (below_size (by repeat (first | (with_reducible first | exact HB.out | apply ba_ | apply bn_ | apply b1_ | refine bs_ ?_ GE220.out) | exact HB.out))) : w.heap.size ≤ gb222)); have n4_ := ak ((by rw [hg]; exact (below_size (by repeat (first | (with_reducible first | exact HB.out | apply ba_ | apply bn_ | apply b1_ | refine bs_ ?_ GE220.out) | exact HB.out))) : w.heap.size ≤ gb222)); have n5_ := ak ((by rw [hg]; exact Nat.ne_of_lt (blk_lt (g := gb220) (o := .cells #[.slice (some ad221) l0_0.length c0_0, .slice A0_1 l0_1.length c0_1] 25 (0, 0)) (by (with_reducible repeat first | apply kn_ | apply kd_ | apply ka_); exact BK220.out)) : gb220 ≠ gb222)); have n6_ := ak ((by rw [hg]; exact Nat.ne_of_gt (blk_lt (g := gb220) (o := .cells #[.slice (some ad221) l0_0.length c0_0, .slice A0_1 l0_1.length c0_1] 25 (0, 0)) (by (with_reducible repeat first | apply kn_ | apply kd_ | apply ka_); exact BK220.out)) : gb222 ≠ gb220)); clear BK220; clear HB; have BK220 := n0_; have HB := n1_; have BK222 := n2_; have GW222 := n3_; have GE222 := n4_; have NB220_222 := n5_; have NB222_220 := n6_; clear n0_ n1_ n2_ n3_ n4_ n5_ n6_; clear hb hbox hg; have hnb39 := NB222_220.out; have hnc39 := NB220_222.out; obtain ⟨hcz40_0, hcz40_1, hfz40_0, hfz40_1⟩ := kk2 BK222.out; have p223 : 0 ≤ (0 : Int) := (by omega); have q223 : 0 < (((rd_T56 l0_0 a2).f1).length : Int) := of_decide_eq_true (by first | (with_reducible assumption) | assumption); obtain ⟨ad223, e223, hx223_0⟩ := Kd.at_int HR221_1.out 0 p223 q223; cases e223; have qi223 : (0 < ((rd_T56 l0_0 a2).f1).length) = True := eq_true (by omega); (try rw [show ((0 : Int)).toNat = 0 from rfl] at hx223_0); (try rw [Addr.add_zero'] at hx223_0); have hn223_0 : ad223.block ≠ gb222 := Nat.ne_of_lt (Nat.lt_of_lt_of_le (by have := World.block_lt_of_cell? _ _ hx223_0; first | rwa [add_block] at this | exact this) GW222.out); have hn223_1 : ad223.block ≠ gb222 := Nat.ne_of_lt (Nat.lt_of_lt_of_le (by have := World.block_lt_of_cell? _ _ hx223_0; first | rwa [add_block] at this | exact this) GW222.out); replace hx223_0 := (HB.out.cell (World.block_lt_of_cell? w _ hx223_0)).trans hx223_0; replace hx223_0 := (cell_far (p := ⟨gb222, 0, none⟩) (by first | (rw [add_block]; exact hn223_0) | (show (Addr.add _ _).block ≠ _; rw [add_block]; exact hn223_0) | exact hn223_0) (.int .i64 ((rd_T56 l0_0 a2).f0))).trans hx223_0; replace hx223_0 := (cell_far (p := ⟨gb222, 1, none⟩) (by first | (rw [add_block]; exact hn223_1) | (show (Addr.add _ _).block ≠ _; rw [add_block]; exact hn223_1) | exact hn223_1) (.slice (some ad223) ((rd_T56 l0_0 a2).f1).length c221_1)).trans hx223_0; clear hn223_0; clear hn223_1; replace p223 := eq_true p223; replace q223 := eq_true q223; have p224 : 0 ≤ (0 : Int) := (by omega); have q224 : 0 < (((rd_T56 l0_0 a2).f1).length : Int) := of_decide_eq_true (by first | (with_reducible assumption) | assumption); obtain ⟨ad224, e224, hx224_0⟩ := Kd.at_int HR221_1.out 0 p224 q224; obtain rfl : ad223 = ad224 := (by injection e224); have qi224 : (0 < ((rd_T56 l0_0 a2).f1).length) = True := eq_true (by omega); (try rw [show ((0 : Int)).toNat = 0 from rfl] at hx224_0); (try rw [Addr.add_zero'] at hx224_0); have hn224_0 : ad223.block ≠ gb222 := Nat.ne_of_lt (Nat.lt_of_lt_of_le (by have := World.block_lt_of_cell? _ _ hx224_0; first | rwa [add_block] at this | exact this) GW222.out); have hn224_1 : ad223.block ≠ gb222 := Nat.ne_of_lt (Nat.lt_of_lt_of_le (by have := World.block_lt_of_cell? _ _ hx224_0; first | rwa [add_block] at this | exact this) GW222.out); replace hx224_0 := (HB.out.cell (World.block_lt_of_cell? w _ hx224_0)).trans hx224_0; replace hx224_0 := (cell_far (p := ⟨gb222, 0, none⟩) (by first | (rw [add_block]; exact hn224_0) | (show (Addr.add _ _).block ≠ _; rw [add_block]; exact hn224_0) | exact hn224_0) (.int .i64 ((rd_T56 l0_0 a2).f0))).trans hx224_0; replace hx224_0 := (cell_far (p := ⟨gb222, 1, none⟩) (by first | (rw [add_block]; exact hn224_1) | (show (Addr.add _ _).block ≠ _; rw [add_block]; exact hn224_1) | exact hn224_1) (.slice (some ad223) ((rd_T56 l0_0 a2).f1).length c221_1)).trans hx224_0; clear hn224_0; clear hn224_1; replace p224 := eq_true p224; replace q224 := eq_true q224; have p225 : 0 ≤ ((rd ((rd_T56 l0_0 a2).f1) 0) : Int) := of_decide_eq_true (by first | (with_reducible assumption) | assumption); have q225 : (rd ((rd_T56 l0_0 a2).f1) 0) < (l1.length : Int) := of_decide_eq_true (by first | (with_reducible assumption) | assumption); obtain ⟨ad225, e225, hx225_0⟩ := Kd.at_bool HR1.out (rd ((rd_T56 l0_0 a2).f1) 0) p225 q225; (try rw [← Nbq22.out] at hx225_0); cases e225; have hn225_0 : ad225.block ≠ gb222 := Nat.ne_of_lt (Nat.lt_of_lt_of_le (by have := World.block_lt_of_cell? _ _ hx225_0; first | rwa [add_block] at this | exact this) GW222.out); have hn225_1 : ad225.block ≠ gb222 := Nat.ne_of_lt (Nat.lt_of_lt_of_le (by have := World.block_lt_of_cell? _ _ hx225_0; first | rwa [add_block] at this | exact this) GW222.out); replace hx225_0 := (HB.out.cell (World.block_lt_of_cell? w _ hx225_0)).trans hx225_0; replace hx225_0 := (cell_far (p := ⟨gb222, 0, none⟩) (by first | (rw [add_block]; exact hn225_0) | (show (Addr.add _ _).block ≠ _; rw [add_block]; exact hn225_0) | exact hn225_0) (.int .i64 ((rd_T56 l0_0 a2).f0))).trans hx225_0; replace hx225_0 := (cell_far (p := ⟨gb222, 1, none⟩) (by first | (rw [add_block]; exact hn225_1) | (show (Addr.add _ _).block ≠ _; rw [add_block]; exact hn225_1) | exact hn225_1) (.slice (some ad223) ((rd_T56 l0_0 a2).f1).length c221_1)).trans hx225_0; clear hn225_0; clear hn225_1; replace p225 := eq_true p225; replace q225 := eq_true q225))
          go_ret
          exact ⟨_, by first | rfl | (simp [errW_none, errW_some] <;> rfl) | (simp [*, errW_none, errW_some] <;> rfl) | (simp [Int.tdiv_eq_ediv_of_nonneg]; done), by first | exact Kd.R_nil _ _ _ _ _ | exact Kd.N_nil _ _ _ _ _ | exact Kd.V_nil _ _ _ _ _ | exact Kd.Q_nil _ _ _ _ _ | exact Kd.S_nil _ _ _ _ _, by repeat (first | (with_reducible first | exact HB.out | apply ba_ | apply bn_ | apply b1_ | refine bs_ ?_ GE220.out | refine bs_ ?_ GE222.out) | exact HB.out)⟩
        ·rw [if_neg c21] at H
         exact absurd H (by simp)
       ·rw [if_neg c20] at H
        exact absurd H (by simp)
     ·rw [if_neg c13] at H
      exact absurd H (by simp)
    ·rw [if_neg c12] at H
     have c12b0 : (((rd_T56 l0_0 a2).f0) == 3) = false := beq_eq_false_iff_ne.mpr c12
     have c12b1 : (((rd_T56 l0_0 a2).f0) != 3) = true := bne_iff_ne.mpr c12
     have H' := ak H
     clear H
     go_enter Try.func46, Try.ntmps46
     go_wp2_with (first | ((with_reducible refine gate_dst (N := 3) rfl ?_); refine box_event ?hg (N := 3) ?hd (cs := #[.slice A0_0 l0_0.length c0_0, .slice A0_1 l0_1.length c0_1]) (t := 25) ?hr ?_; (case hd => rfl); (case hg => rfl); (case hr => first | (go_simp; done) | (go_simp; rfl)); intro gb220 hg w41 hbox hb; have n0_ := ak (below_step (by repeat (first | (with_reducible first | exact HB.out | apply ba_ | apply bn_ | apply b1_) | exact HB.out)) hb); have n1_ := ak (hbox); have n2_ := ak ((by rw [hg]; exact (below_size (by repeat (first | (with_reducible first | exact HB.out | apply ba_ | apply bn_ | apply b1_) | exact HB.out))) : w.heap.size ≤ gb220)); have n3_ := ak ((by rw [hg]; exact (below_size (by repeat (first | (with_reducible first | exact HB.out | apply ba_ | apply bn_ | apply b1_) | exact HB.out))) : w.heap.size ≤ gb220)); clear HB; have HB := n0_; have BK220 := n1_; have GW220 := n2_; have GE220 := n3_; clear n0_ n1_ n2_ n3_; clear hb hbox hg; obtain ⟨hcz42_0, hcz42_1, hfz42_0, hfz42_1⟩ := kk2 BK220.out; have p221 : 0 ≤ (a2 : Int) := of_decide_eq_true (by first | (with_reducible assumption) | assumption); have q221 : a2 < (l0_0.length : Int) := of_decide_eq_true (by first | (with_reducible assumption) | assumption); obtain ⟨ad221, A221_1, c221_1, e221, hx221_0, hx221_1, hl221_1, hi221_1⟩ := at_T56 HR0_0.out a2 p221 q221; cases e221; replace hx221_0 := (HB.out.cell (World.block_lt_of_cell? w _ hx221_0)).trans hx221_0; replace hx221_1 := (HB.out.cell (World.block_lt_of_cell? w _ hx221_1)).trans hx221_1; have HR221_1 := ak hi221_1; have HC221_1 := ak hl221_1; clear hi221_1 hl221_1; replace p221 := eq_true p221; replace q221 := eq_true q221) | ((with_reducible refine gate_dst (N := 7) rfl ?_); refine box_event ?hg (N := 7) ?hd (cs := #[.int .i64 0, .slice none 0 0]) (t := 56) ?hr ?_; (case hd => rfl); (case hg => rfl); (case hr => first | (go_simp; done) | (go_simp; rfl)); intro gb222 hg w43 hbox hb; have n0_ := ak (blk_below (g := gb220) (o := .cells #[.slice (some ad221) l0_0.length c0_0, .slice A0_1 l0_1.length c0_1] 25 (0, 0)) (by (with_reducible repeat first | apply kn_ | apply kd_ | apply ka_); exact BK220.out) hb); have n1_ := ak (below_step (by repeat (first | (with_reducible first | exact HB.out | apply ba_ | apply bn_ | apply b1_ | refine bs_ ?_ GE220.out) | exact HB.out)) hb); have n2_ := ak (hbox); have n3_ := ak ((by rw [hg]; exact (below_size (by repeat (first | (with_reducible first | exact HB.out | apply ba_ | apply bn_ | apply b1_ | refine bs_ ?_ GE220.out) | exact HB.out))) : w.heap.size ≤ gb222)); have n4_ := ak ((by rw [hg]; exact (below_size (by repeat (first | (with_reducible first | exact HB.out | apply ba_ | apply bn_ | apply b1_ | refine bs_ ?_ GE220.out) | exact HB.out))) : w.heap.size ≤ gb222)); have n5_ := ak ((by rw [hg]; exact Nat.ne_of_lt (blk_lt (g := gb220) (o := .cells #[.slice (some ad221) l0_0.length c0_0, .slice A0_1 l0_1.length c0_1] 25 (0, 0)) (by (with_reducible repeat first | apply kn_ | apply kd_ | apply ka_); exact BK220.out)) : gb220 ≠ gb222)); have n6_ := ak ((by rw [hg]; exact Nat.ne_of_gt (blk_lt (g := gb220) (o := .cells #[.slice (some ad221) l0_0.length c0_0, .slice A0_1 l0_1.length c0_1] 25 (0, 0)) (by (with_reducible repeat first | apply kn_ | apply kd_ | apply ka_); exact BK220.out)) : gb222 ≠ gb220)); clear BK220; clear HB; have BK220 := n0_; have HB := n1_; have BK222 := n2_; have GW222 := n3_; have GE222 := n4_; have NB220_222 := n5_; have NB222_220 := n6_; clear n0_ n1_ n2_ n3_ n4_ n5_ n6_; clear hb hbox hg; have hnb44 := NB222_220.out; have hnc44 := NB220_222.out; obtain ⟨hcz45_0, hcz45_1, hfz45_0, hfz45_1⟩ := kk2 BK222.out))
     go_loopg [9, 10] k (fun kq v9 v10 w' => ∃ (x9_1 : List Int) (x10_1 : Int), v10 = .int .i64 x10_1 ∧ Aside0 (atticref19_counted.l1 kq ((rd_T56 l0_0 a2).f1) x9_1 x10_1 = some r) ∧ Aside0 (kq ≤ k) ∧ Aside0 (Kd.R (Kd.int .i64) 3 w' w.heap.size (fun _ => True) v9 x9_1) ∧ Aside0 (w'.heap[gb220]? = some (.cells #[(.slice (some ad221) l0_0.length c0_0), (.slice A0_1 l0_1.length c0_1)] 25 (0, 0))) ∧ Aside0 (w'.heap[gb222]? = some (.cells #[.int .i64 ((rd_T56 l0_0 a2).f0), (.slice A221_1 ((rd_T56 l0_0 a2).f1).length c221_1)] 56 (0, 0))) ∧ Aside0 (Below w.heap.size w w'))
     case atStart => exact ⟨(([] : List Int)), (0), (by first | rfl | (simp; done) | (simp [*]; done) | (simp [Int.tdiv_eq_ediv_of_nonneg]; done)), H', ⟨Nat.le_refl _⟩, ⟨by first | exact Kd.R_nil _ _ _ _ _ | exact Kd.N_nil _ _ _ _ _ | exact Kd.V_nil _ _ _ _ _ | exact Kd.Q_nil _ _ _ _ _ | exact Kd.S_nil _ _ _ _ _⟩, ⟨by (with_reducible repeat first | apply kn_ | apply kd_ | apply ka_); refine blk_far ?_ NB220_222.out _; (with_reducible repeat first | apply kn_ | apply kd_ | apply ka_); refine blk_far ?_ NB220_222.out _; (with_reducible repeat first | apply kn_ | apply kd_ | apply ka_); exact BK220.out⟩, ⟨by (with_reducible repeat first | apply kn_ | apply kd_ | apply ka_); refine blk_put (cs := #[.int .i64 ((rd_T56 l0_0 a2).f0), .slice none 0 0]) ?_ 1 _ rfl; (with_reducible repeat first | apply kn_ | apply kd_ | apply ka_); refine blk_put (cs := #[.int .i64 0, .slice none 0 0]) ?_ 0 _ rfl; (with_reducible repeat first | apply kn_ | apply kd_ | apply ka_); exact BK222.out⟩, ⟨by repeat (first | (with_reducible first | exact HB.out | apply ba_ | apply bn_ | apply b1_ | refine bs_ ?_ GE220.out | refine bs_ ?_ GE222.out) | exact HB.out)⟩⟩
     case round =>
      clear H'
      (try clear c1); (try clear c2); (try clear p2); (try clear q2); (try clear hx2); (try clear qi2); (try clear c3); (try clear c4); (try clear c4b0); (try clear c5); (try clear c5b0); (try clear c6); (try clear c6b0); (try clear c6b1); (try clear p6); (try clear c10); (try clear c12); (try clear c12b0); (try clear c12b1); (try clear c13); (try clear c13b0); (try clear c13b1); (try clear c14); (try clear c14b0); (try clear c14b1); (try clear c18); (try clear c20); (try clear c20b0); (try clear c21); (try clear c21b0); (try clear c22); (try clear p22); (try clear q22); (try clear hx22); (try clear qi22); (try clear c23); (try clear c24); (try clear c24b0); (try clear c24b1); (try clear c28); (try clear c31); (try clear c31b0); (try clear c32); (try clear c32b0); (try clear c33); (try clear c33b0); (try clear c33b1); (try clear c34); (try clear c39); (try clear c44); (try clear hcz11_0); (try clear hcz11_1); (try clear hcz16_0); (try clear hcz16_1); (try clear hcz19_0); (try clear hcz19_1); (try clear hcz26_0); (try clear hcz26_1); (try clear hcz29_0); (try clear hcz29_1); (try clear hcz37_0); (try clear hcz37_1); (try clear hcz40_0); (try clear hcz40_1); (try clear hcz42_0); (try clear hcz42_1); (try clear hcz45_0); (try clear hcz45_1); (try clear hcz8_0); (try clear hcz8_1); (try clear hfz11_0); (try clear hfz11_1); (try clear hfz16_0); (try clear hfz16_1); (try clear hfz19_0); (try clear hfz19_1); (try clear hfz26_0); (try clear hfz26_1); (try clear hfz29_0); (try clear hfz29_1); (try clear hfz37_0); (try clear hfz37_1); (try clear hfz40_0); (try clear hfz40_1); (try clear hfz42_0); (try clear hfz42_1); (try clear hfz45_0); (try clear hfz45_1); (try clear hfz8_0); (try clear hfz8_1); (try clear hx221_0); (try clear hx221_1); (try clear hx223_0); (try clear hx224_0); (try clear hx225_0); (try clear hx227_0); (try clear hx228_0); (try clear p2); (try clear p22); (try clear p221); (try clear p223); (try clear p224); (try clear p225); (try clear p227); (try clear p228); (try clear q2); (try clear q22); (try clear q221); (try clear q223); (try clear q224); (try clear q225); (try clear q227); (try clear q228)
      obtain ⟨x9_1, x10_1, rfl, HA, HK1, HO_9, BK220, BK222, HB⟩ := hrel
      cases gk with
      | zero => exact absurd HA.out (by simp [atticref19_counted.l1])
      | succ k1 =>
       have H := HA.out
       clear HA
       simp only [atticref19_counted.l1] at H
       by_cases c46 : x10_1 < (((rd_T56 l0_0 a2).f1).length : Int)
       ·rw [if_pos c46] at H
        have c46b0 : decide (x10_1 < (((rd_T56 l0_0 a2).f1).length : Int)) = true := decide_eq_true c46
        clear c46
        by_cases c47 : 0 ≤ x10_1
        ·rw [if_pos c47] at H
         have c47b0 : decide (0 ≤ x10_1) = true := decide_eq_true c47
         clear c47
         by_cases c48 : (rd ((rd_T56 l0_0 a2).f1) x10_1) = (-1)
         ·rw [if_pos c48] at H
          have c48b0 : ((rd ((rd_T56 l0_0 a2).f1) x10_1) == (-1)) = true := beq_iff_eq.mpr c48
          have c48b1 : ((rd ((rd_T56 l0_0 a2).f1) x10_1) != (-1)) = false := bne_eq_false_iff_eq.mpr c48
          clear c48
          have H' := ak H
          clear H
          have p232 : 0 ≤ (x10_1 : Int) := of_decide_eq_true (by first | (with_reducible assumption) | assumption)
          have q232 : x10_1 < (((rd_T56 l0_0 a2).f1).length : Int) := of_decide_eq_true (by first | (with_reducible assumption) | assumption)
          obtain ⟨ad232, e232, hx232_0⟩ := Kd.at_int HR221_1.out x10_1 p232 q232
          cases e232
          replace hx232_0 := (HB.out.cell (World.block_lt_of_cell? w _ hx232_0)).trans hx232_0
          replace p232 := eq_true p232
          replace q232 := eq_true q232
          go_wp2
          go_roundg k1
          case measure => have := HK1.out; omega
          case rel => exact ⟨(x9_1), (wrap64 (x10_1 + 1)), (by first | rfl | (simp; done) | (simp [*]; done) | (simp [Int.tdiv_eq_ediv_of_nonneg]; done)), H', ⟨by have := HK1.out; omega⟩, ⟨by (with_reducible repeat (first | apply Kd.R_alloc | apply Kd.R_drewN | apply Kd.R_drew)); exact HO_9.out⟩, ⟨by (with_reducible repeat first | apply kn_ | apply kd_ | apply ka_); exact BK220.out⟩, ⟨by (with_reducible repeat first | apply kn_ | apply kd_ | apply ka_); exact BK222.out⟩, ⟨by repeat (first | (with_reducible first | exact HB.out | apply ba_ | apply bn_ | apply b1_ | refine bs_ ?_ GE220.out | refine bs_ ?_ GE222.out) | exact HB.out)⟩⟩
         ·rw [if_neg c48] at H
          have c48b0 : ((rd ((rd_T56 l0_0 a2).f1) x10_1) == (-1)) = false := beq_eq_false_iff_ne.mpr c48
          have c48b1 : ((rd ((rd_T56 l0_0 a2).f1) x10_1) != (-1)) = true := bne_iff_ne.mpr c48
          by_cases c49 : x9_1.length < 17592186044416
          ·rw [if_pos c49] at H
           have LMc49 := ak c49
           clear c49
           obtain ⟨y234, hy234⟩ : ∃ y_ : List Int, y_ = (x9_1 ++ [rd ((rd_T56 l0_0 a2).f1) x10_1]) := ⟨_, rfl⟩
           replace H : (atticref19_counted.l1 k1 ((rd_T56 l0_0 a2).f1) y234 (wrap64 (x10_1 + 1))) = some r := by first | (rw [hy234]; with_reducible exact H) | (have H2_ := (Option.bind_some _ _).symm.trans H; rw [hy234]; with_reducible exact H2_) | (have H2_ := (Option.bind_some _ _).symm.trans H; with_reducible exact H2_) | with_reducible exact H | (rw [hy234]; exact H) | exact H
           have Ny234 := ak hy234
           clear hy234
           have H' := ak H
           clear H
           have p232 : 0 ≤ (x10_1 : Int) := of_decide_eq_true (by first | (with_reducible assumption) | assumption)
           have q232 : x10_1 < (((rd_T56 l0_0 a2).f1).length : Int) := of_decide_eq_true (by first | (with_reducible assumption) | assumption)
           obtain ⟨ad232, e232, hx232_0⟩ := Kd.at_int HR221_1.out x10_1 p232 q232
           cases e232
           replace hx232_0 := (HB.out.cell (World.block_lt_of_cell? w _ hx232_0)).trans hx232_0
           replace p232 := eq_true p232
           replace q232 := eq_true q232
           have p233 : 0 ≤ (x10_1 : Int) := of_decide_eq_true (by first | (with_reducible assumption) | assumption)
           have q233 : x10_1 < (((rd_T56 l0_0 a2).f1).length : Int) := of_decide_eq_true (by first | (with_reducible assumption) | assumption)
           obtain ⟨ad233, e233, hx233_0⟩ := Kd.at_int HR221_1.out x10_1 p233 q233
           obtain rfl : ad232 = ad233 := (by injection e233)
           replace hx233_0 := (HB.out.cell (World.block_lt_of_cell? w _ hx233_0)).trans hx233_0
           replace p233 := eq_true p233
           replace q233 := eq_true q233
           go_wp2_with (first | ((with_reducible refine gate_builtin (b := .append) (xs := #[.tmp 52, .tmp 57]) rfl ?_); at_builtin; refine Kd.R_append (Kd.int .i64) (w0 := w) w.heap.size rfl (.tmp 52) (.tmp 57) 23 3 (.int .i64 0) 8 rfl Try.underlying23 info3 rfl (by decide) (by omega) u9 x9_1 (rd ((rd_T56 l0_0 a2).f1) x10_1) [.int .i64 (rd ((rd_T56 l0_0 a2).f1) x10_1)] (fun _ => True) (fun _ => False) rfl rfl ?aP (fun _ hk => hk.elim) ?aF ?aO ?aB ?aS ?aL ?_; (case aP => exact rfl); (case aB => exact (by repeat (first | (with_reducible first | exact HB.out | apply ba_ | apply bn_ | apply b1_ | refine bs_ ?_ GE220.out | refine bs_ ?_ GE222.out) | exact HB.out))); (case aF => exact (fun _ _ => trivial)); (case aO => exact (by (with_reducible repeat (first | apply Kd.R_alloc | apply Kd.R_drewN | apply Kd.R_drew)); exact HO_9.out)); (case aS => exact (below_size (by repeat (first | (with_reducible first | exact HB.out | apply ba_ | apply bn_ | apply b1_ | refine bs_ ?_ GE220.out | refine bs_ ?_ GE222.out) | exact HB.out)))); (case aL => have := LMc49.out; omega); intro v235 w50 ho hb hg hat; rw [← Ny234.out] at ho; have n0_ := ak (blk_grown (g := gb220) (o := .cells #[.slice (some ad221) l0_0.length c0_0, .slice A0_1 l0_1.length c0_1] 25 (0, 0)) (by (with_reducible repeat first | apply kn_ | apply kd_ | apply ka_); exact BK220.out) hg (Kd.R_ne HO_9.out BK220.out (by decide))); have n1_ := ak (blk_grown (g := gb222) (o := .cells #[.int .i64 ((rd_T56 l0_0 a2).f0), .slice (some ad232) ((rd_T56 l0_0 a2).f1).length c221_1] 56 (0, 0)) (by (with_reducible repeat first | apply kn_ | apply kd_ | apply ka_); exact BK222.out) hg (Kd.R_ne HO_9.out BK222.out (by decide))); have n2_ := ak (hb); have n3_ := ak (ho); clear BK220; clear BK222; clear HB; clear HO_9; have BK220 := n0_; have BK222 := n1_; have HB := n2_; have HO236 := n3_; clear n0_ n1_ n2_ n3_; clear ho hb hg hat))
           go_roundg k1
           case measure => have := HK1.out; omega
           case rel => exact ⟨(y234), (wrap64 (x10_1 + 1)), (by first | rfl | (simp; done) | (simp [*]; done) | (simp [Int.tdiv_eq_ediv_of_nonneg]; done)), H', ⟨by have := HK1.out; omega⟩, ⟨by (with_reducible repeat (first | apply Kd.R_alloc | apply Kd.R_drewN | apply Kd.R_drew)); exact HO236.out⟩, ⟨by (with_reducible repeat first | apply kn_ | apply kd_ | apply ka_); exact BK220.out⟩, ⟨by (with_reducible repeat first | apply kn_ | apply kd_ | apply ka_); exact BK222.out⟩, ⟨by repeat (first | (with_reducible first | exact HB.out | apply ba_ | apply bn_ | apply b1_ | refine bs_ ?_ GE220.out | refine bs_ ?_ GE222.out) | exact HB.out)⟩⟩
          ·rw [if_neg c49] at H
           exact absurd H (by simp)
        ·rw [if_neg c47] at H
         exact absurd H (by simp)
       ·rw [if_neg c46] at H
        have c46b0 : decide (x10_1 < (((rd_T56 l0_0 a2).f1).length : Int)) = false := decide_eq_false c46
        clear c46
        obtain rfl := Option.some.inj H
        go_wp2
        go_ret
        exact ⟨_, by first | rfl | (simp [errW_none, errW_some] <;> rfl) | (simp [*, errW_none, errW_some] <;> rfl) | (simp [Int.tdiv_eq_ediv_of_nonneg]; done), by (with_reducible repeat (first | apply Kd.R_alloc | apply Kd.R_drewN | apply Kd.R_drew)); exact HO_9.out, by repeat (first | (with_reducible first | exact HB.out | apply ba_ | apply bn_ | apply b1_ | refine bs_ ?_ GE220.out | refine bs_ ?_ GE222.out) | exact HB.out)⟩
  ·rw [if_neg c5] at H
   exact absurd H (by simp)
 ·rw [if_neg c4] at H
  exact absurd H (by simp)
/-! ### atticref19_Reach: function 32 -/
mutual
def atticref19_Reach.l0 : Nat → List Bool → Int → List (S56) → List Int → Option (List Bool)
 | 0, _, _, _, _ => none
 | k + 1, x3, x4, x238000, x238001 => if x4 < (x238001.length : Int) then (if 0 ≤ x4 then (if 0 ≤ (rd x238001 x4) then (if (rd x238001 x4) < (x3.length : Int) then (atticref19_Reach.l0 k (x3.set ((rd x238001 x4) : Int).toNat true) (wrap64 (x4 + 1)) x238000 x238001) else (none)) else (none)) else (none)) else (atticref19_Reach.l1 k x3 true x238000 x238001)
def atticref19_Reach.l1 : Nat → List Bool → Bool → List (S56) → List Int → Option (List Bool)
 | 0, _, _, _, _ => none
 | k + 1, x3, x5, x238000, x238001 => if x5 = true then (atticref19_Reach.l2 k x3 false 0 x238000 x238001) else (some x3)
def atticref19_Reach.l2 : Nat → List Bool → Bool → Int → List (S56) → List Int → Option (List Bool)
 | 0, _, _, _, _, _ => none
 | k + 1, x3, x5, x6, x238000, x238001 => if x6 < (x3.length : Int) then (if 0 ≤ x6 then (if rdOf false x3 x6 = true then ((atticref19_counted.f k x238000 x238001 x3 x6).bind fun t244 => (atticref19_Reach.l3 k x3 x5 x6 t244 0 x238000 x238001)) else (atticref19_Reach.l2 k x3 x5 (wrap64 (x6 + 1)) x238000 x238001)) else (none)) else (atticref19_Reach.l1 k x3 x5 x238000 x238001)
def atticref19_Reach.l3 : Nat → List Bool → Bool → Int → List Int → Int → List (S56) → List Int → Option (List Bool)
 | 0, _, _, _, _, _, _, _ => none
 | k + 1, x3, x5, x6, x7, x8, x238000, x238001 => if x8 < (x7.length : Int) then (if 0 ≤ x8 then (if 0 ≤ (rd x7 x8) then (if (rd x7 x8) < (x3.length : Int) then (if (rdOf false x3 (rd x7 x8) = true) then (atticref19_Reach.l3 k x3 x5 x6 x7 (wrap64 (x8 + 1)) x238000 x238001) else (atticref19_Reach.l3 k (x3.set ((rd x7 x8) : Int).toNat true) true x6 x7 (wrap64 (x8 + 1)) x238000 x238001)) else (none)) else (none)) else (none)) else (atticref19_Reach.l2 k x3 x5 (wrap64 (x6 + 1)) x238000 x238001)
end
def atticref19_Reach.f (k : Nat) (l0_0 : List (S56)) (l0_1 : List Int) : Option (List Bool) := if 0 ≤ (l0_0.length : Int) then (if ((l0_0.length : Int) : Int).toNat ≤ 281474976710656 then (atticref19_Reach.l0 k (List.replicate ((l0_0.length : Int) : Int).toNat false) 0 l0_0 l0_1) else (none)) else (none)
theorem atticref19_Reach.mono_l : ∀ k, (∀ y0 y1 y2 y3, LeO (atticref19_Reach.l0 k y0 y1 y2 y3) (atticref19_Reach.l0 (k + 1) y0 y1 y2 y3)) ∧ (∀ y0 y1 y2 y3, LeO (atticref19_Reach.l1 k y0 y1 y2 y3) (atticref19_Reach.l1 (k + 1) y0 y1 y2 y3)) ∧ (∀ y0 y1 y2 y3 y4, LeO (atticref19_Reach.l2 k y0 y1 y2 y3 y4) (atticref19_Reach.l2 (k + 1) y0 y1 y2 y3 y4)) ∧ (∀ y0 y1 y2 y3 y4 y5 y6, LeO (atticref19_Reach.l3 k y0 y1 y2 y3 y4 y5 y6) (atticref19_Reach.l3 (k + 1) y0 y1 y2 y3 y4 y5 y6))
 | 0 => ⟨fun _ _ _ _ r h => by simp [atticref19_Reach.l0] at h, fun _ _ _ _ r h => by simp [atticref19_Reach.l1] at h, fun _ _ _ _ _ r h => by simp [atticref19_Reach.l2] at h, fun _ _ _ _ _ _ _ r h => by simp [atticref19_Reach.l3] at h⟩
 | k + 1 => by
  obtain ⟨ih0, ih1, ih2, ih3⟩ := atticref19_Reach.mono_l k
  refine ⟨?_, ?_, ?_, ?_⟩
  ·intro y0 y1 y2 y3
   unfold atticref19_Reach.l0
   repeat' first | (with_reducible first | exact ih0 _ _ _ _ | exact ih1 _ _ _ _ | exact ih2 _ _ _ _ _ | exact ih3 _ _ _ _ _ _ _ | exact atticref19_counted.mono _ _ _ _ _ | exact LeO.refl _ | exact LeO.none _ | refine LeO.ite ?_ ?_ | refine LeO.bind ?_ (fun _ => ?_)) | exact ih0 _ _ _ _ | exact ih1 _ _ _ _ | exact ih2 _ _ _ _ _ | exact ih3 _ _ _ _ _ _ _ | exact atticref19_counted.mono _ _ _ _ _ | exact LeO.none _ | refine LeO.ite ?_ ?_ | refine LeO.bind ?_ (fun _ => ?_)
  ·intro y0 y1 y2 y3
   unfold atticref19_Reach.l1
   repeat' first | (with_reducible first | exact ih0 _ _ _ _ | exact ih1 _ _ _ _ | exact ih2 _ _ _ _ _ | exact ih3 _ _ _ _ _ _ _ | exact atticref19_counted.mono _ _ _ _ _ | exact LeO.refl _ | exact LeO.none _ | refine LeO.ite ?_ ?_ | refine LeO.bind ?_ (fun _ => ?_)) | exact ih0 _ _ _ _ | exact ih1 _ _ _ _ | exact ih2 _ _ _ _ _ | exact ih3 _ _ _ _ _ _ _ | exact atticref19_counted.mono _ _ _ _ _ | exact LeO.none _ | refine LeO.ite ?_ ?_ | refine LeO.bind ?_ (fun _ => ?_)
  ·intro y0 y1 y2 y3 y4
   unfold atticref19_Reach.l2
   repeat' first | (with_reducible first | exact ih0 _ _ _ _ | exact ih1 _ _ _ _ | exact ih2 _ _ _ _ _ | exact ih3 _ _ _ _ _ _ _ | exact atticref19_counted.mono _ _ _ _ _ | exact LeO.refl _ | exact LeO.none _ | refine LeO.ite ?_ ?_ | refine LeO.bind ?_ (fun _ => ?_)) | exact ih0 _ _ _ _ | exact ih1 _ _ _ _ | exact ih2 _ _ _ _ _ | exact ih3 _ _ _ _ _ _ _ | exact atticref19_counted.mono _ _ _ _ _ | exact LeO.none _ | refine LeO.ite ?_ ?_ | refine LeO.bind ?_ (fun _ => ?_)
  ·intro y0 y1 y2 y3 y4 y5 y6
   unfold atticref19_Reach.l3
   repeat' first | (with_reducible first | exact ih0 _ _ _ _ | exact ih1 _ _ _ _ | exact ih2 _ _ _ _ _ | exact ih3 _ _ _ _ _ _ _ | exact atticref19_counted.mono _ _ _ _ _ | exact LeO.refl _ | exact LeO.none _ | refine LeO.ite ?_ ?_ | refine LeO.bind ?_ (fun _ => ?_)) | exact ih0 _ _ _ _ | exact ih1 _ _ _ _ | exact ih2 _ _ _ _ _ | exact ih3 _ _ _ _ _ _ _ | exact atticref19_counted.mono _ _ _ _ _ | exact LeO.none _ | refine LeO.ite ?_ ?_ | refine LeO.bind ?_ (fun _ => ?_)
theorem atticref19_Reach.mono : ∀ a0 a1 k, LeO (atticref19_Reach.f k a0 a1) (atticref19_Reach.f (k + 1) a0 a1) := by
 intro a0 a1 k
 obtain ⟨ih0, ih1, ih2, ih3⟩ := atticref19_Reach.mono_l k
 unfold atticref19_Reach.f
 repeat' first | (with_reducible first | exact ih0 _ _ _ _ | exact ih1 _ _ _ _ | exact ih2 _ _ _ _ _ | exact ih3 _ _ _ _ _ _ _ | exact atticref19_counted.mono _ _ _ _ _ | exact LeO.refl _ | exact LeO.none _ | refine LeO.ite ?_ ?_ | refine LeO.bind ?_ (fun _ => ?_)) | exact ih0 _ _ _ _ | exact ih1 _ _ _ _ | exact ih2 _ _ _ _ _ | exact ih3 _ _ _ _ _ _ _ | exact atticref19_counted.mono _ _ _ _ _ | exact LeO.none _ | refine LeO.ite ?_ ?_ | refine LeO.bind ?_ (fun _ => ?_)
set_option maxHeartbeats 8000000 in
set_option maxRecDepth 100000 in
theorem atticref19_Reach.calls (k : Nat) (A0_0 : Option Addr) (c0_0 : Nat) (l0_0 : List (S56)) (A0_1 : Option Addr) (c0_1 : Nat) (l0_1 : List Int) (r : List Bool) (w : World) (hr0_0 : Kd.C k56 w A0_0 l0_0.length l0_0) (hc0_0 : l0_0.length ≤ c0_0) (hr0_1 : Kd.C (Kd.int .i64) w A0_1 l0_1.length l0_1) (hc0_1 : l0_1.length ≤ c0_1) (h : atticref19_Reach.f k l0_0 l0_1 = some r) :
  Calls Try.prog 32 #[.agg #[.slice A0_0 l0_0.length c0_0, .slice A0_1 l0_1.length c0_1]] w fun e w' => ∃ v0_ : Value, e = .returned (v0_) ∧ Kd.R Kd.bool 4 w' w.heap.size (fun _ => True) v0_ r ∧ Below w.heap.size w w' := by
 have hu25 := Try.underlying25
 have HR0_0 := ak hr0_0
 have HC0_0 := ak hc0_0
 clear hr0_0 hc0_0
 have HR0_1 := ak hr0_1
 have HC0_1 := ak hc0_1
 clear hr0_1 hc0_1
 have HB := ak (Below.refl w.heap.size w)
 have H : (if 0 ≤ (l0_0.length : Int) then (if ((l0_0.length : Int) : Int).toNat ≤ 281474976710656 then (atticref19_Reach.l0 k (List.replicate ((l0_0.length : Int) : Int).toNat false) 0 l0_0 l0_1) else (none)) else (none)) = some r := h
 clear h
 by_cases c2 : 0 ≤ (l0_0.length : Int)
 ·rw [if_pos c2] at H
  have c2b0 := eq_true c2
  have c2b1 : decide (0 ≤ (l0_0.length : Int)) = true := decide_eq_true c2
  clear c2
  by_cases c3 : ((l0_0.length : Int) : Int).toNat ≤ 281474976710656
  ·rw [if_pos c3] at H
   have c3b0 := eq_true c3
   have c3b1 : decide (((l0_0.length : Int) : Int).toNat ≤ 281474976710656) = true := decide_eq_true c3
   clear c3
   obtain ⟨y238, hy238⟩ : ∃ y_ : List Bool, y_ = (List.replicate ((l0_0.length : Int) : Int).toNat false) := ⟨_, rfl⟩
   replace H : (atticref19_Reach.l0 k y238 0 l0_0 l0_1) = some r := by first | (rw [hy238]; with_reducible exact H) | (have H2_ := (Option.bind_some _ _).symm.trans H; rw [hy238]; with_reducible exact H2_) | (have H2_ := (Option.bind_some _ _).symm.trans H; with_reducible exact H2_) | with_reducible exact H | (rw [hy238]; exact H) | exact H
   have Ny238 := ak hy238
   clear hy238
   have H' := ak H
   clear H
   go_enter Try.func32, Try.ntmps32
   go_wp2_with (first | ((with_reducible refine gate_dst (N := 1) rfl ?_); refine box_event ?hg (N := 1) ?hd (cs := #[.slice A0_0 l0_0.length c0_0, .slice A0_1 l0_1.length c0_1]) (t := 25) ?hr ?_; (case hd => rfl); (case hg => rfl); (case hr => first | (go_simp; done) | (go_simp; rfl)); intro gb237 hg w4 hbox hb; have n0_ := ak (below_step (by repeat (first | (with_reducible first | exact HB.out | apply ba_ | apply bn_ | apply b1_) | exact HB.out)) hb); have n1_ := ak (hbox); have n2_ := ak ((by rw [hg]; exact (below_size (by repeat (first | (with_reducible first | exact HB.out | apply ba_ | apply bn_ | apply b1_) | exact HB.out))) : w.heap.size ≤ gb237)); have n3_ := ak ((by rw [hg]; exact (below_size (by repeat (first | (with_reducible first | exact HB.out | apply ba_ | apply bn_ | apply b1_) | exact HB.out))) : w.heap.size ≤ gb237)); clear HB; have HB := n0_; have BK237 := n1_; have GW237 := n2_; have GE237 := n3_; clear n0_ n1_ n2_ n3_; clear hb hbox hg; obtain ⟨hcz5_0, hcz5_1, hfz5_0, hfz5_1⟩ := kk2 BK237.out) | ((with_reducible refine gate_dst (N := 12) rfl ?_); refine Kd.R_make Kd.bool _ 4 rfl (N := 12) rfl 26 _ _ rfl (l0_0.length : Int) rfl rfl Try.underlying26 (.bool false) 1 info4 rfl (by decide) (by omega) false (ok := fun _ => True) (okp := fun _ => True) rfl (fun _ hk => hk) trivial (of_decide_eq_true (by first | (with_reducible assumption) | assumption)) (Nat.le_trans (Nat.mul_le_mul_right _ (of_decide_eq_true (by first | (with_reducible assumption) | assumption) : (l0_0.length : Int).toNat ≤ 281474976710656)) (by omega)) (Below.refl _ _) (Nat.le_refl _) ?_; intro v239 w6 ho7 hb hg_ hnew_; clear hg_ hnew_; (first | rw [← Ny238.out] at ho7 | (simp only [Int.reduceToNat] at ho7; rw [← Ny238.out] at ho7)); have n0_ := ak (Kd.R_lower ho7 (below_size (by repeat (first | (with_reducible first | exact HB.out | apply ba_ | apply bn_ | apply b1_ | refine bs_ ?_ GE237.out) | exact HB.out)))); have n1_ := ak (blk_below (g := gb237) (o := .cells #[.slice A0_0 l0_0.length c0_0, .slice A0_1 l0_1.length c0_1] 25 (0, 0)) (by (with_reducible repeat first | apply kn_ | apply kd_ | apply ka_); exact BK237.out) hb); have n2_ := ak (below_step (by repeat (first | (with_reducible first | exact HB.out | apply ba_ | apply bn_ | apply b1_ | refine bs_ ?_ GE237.out) | exact HB.out)) hb); clear BK237; clear HB; have HO240 := n0_; have BK237 := n1_; have HB := n2_; clear n0_ n1_ n2_; clear hb ho7))
   go_loopg [4] k (fun kq v4 w' => ∃ (x3_1 : List Bool) (x4_1 : Int), v4 = .int .i64 x4_1 ∧ Aside0 (atticref19_Reach.l0 kq x3_1 x4_1 l0_0 l0_1 = some r) ∧ Aside0 (kq ≤ k) ∧ Aside0 (Kd.R Kd.bool 4 w' w.heap.size (fun _ => True) v239 x3_1) ∧ Aside0 (w'.heap[gb237]? = some (.cells #[(.slice A0_0 l0_0.length c0_0), (.slice A0_1 l0_1.length c0_1)] 25 (0, 0))) ∧ Aside0 (Below w.heap.size w w'))
   case atStart => exact ⟨(y238), (0), (by first | rfl | (simp; done) | (simp [*]; done) | (simp [Int.tdiv_eq_ediv_of_nonneg]; done)), H', ⟨Nat.le_refl _⟩, ⟨by (with_reducible repeat (first | apply Kd.R_alloc | apply Kd.R_drewN | apply Kd.R_drew)); exact HO240.out⟩, ⟨by (with_reducible repeat first | apply kn_ | apply kd_ | apply ka_); exact BK237.out⟩, ⟨by repeat (first | (with_reducible first | exact HB.out | apply ba_ | apply bn_ | apply b1_ | refine bs_ ?_ GE237.out) | exact HB.out)⟩⟩
   case round =>
    clear H'
    (try clear c2); (try clear c2b0); (try clear c2b1); (try clear p2); (try clear c3); (try clear c3b0); (try clear c3b1); (try clear hcz5_0); (try clear hcz5_1); (try clear hfz5_0); (try clear hfz5_1)
    obtain ⟨x3_1, x4_1, rfl, HA, HK1, HO_3, BK237, HB⟩ := hrel
    cases gk with
    | zero => exact absurd HA.out (by simp [atticref19_Reach.l0])
    | succ k1 =>
     have H := HA.out
     clear HA
     simp only [atticref19_Reach.l0] at H
     by_cases c8 : x4_1 < (l0_1.length : Int)
     ·rw [if_pos c8] at H
      have c8b0 : decide (x4_1 < (l0_1.length : Int)) = true := decide_eq_true c8
      clear c8
      by_cases c9 : 0 ≤ x4_1
      ·rw [if_pos c9] at H
       have c9b0 : decide (0 ≤ x4_1) = true := decide_eq_true c9
       clear c9
       by_cases c10 : 0 ≤ (rd l0_1 x4_1)
       ·rw [if_pos c10] at H
        have c10b0 : decide (0 ≤ (rd l0_1 x4_1)) = true := decide_eq_true c10
        clear c10
        by_cases c11 : (rd l0_1 x4_1) < (x3_1.length : Int)
        ·rw [if_pos c11] at H
         have c11b0 : decide ((rd l0_1 x4_1) < (x3_1.length : Int)) = true := decide_eq_true c11
         clear c11
         obtain ⟨y242, hy242⟩ : ∃ y_ : List Bool, y_ = (x3_1.set ((rd l0_1 x4_1) : Int).toNat true) := ⟨_, rfl⟩
         replace H : (atticref19_Reach.l0 k1 y242 (wrap64 (x4_1 + 1)) l0_0 l0_1) = some r := by first | (rw [hy242]; with_reducible exact H) | (have H2_ := (Option.bind_some _ _).symm.trans H; rw [hy242]; with_reducible exact H2_) | (have H2_ := (Option.bind_some _ _).symm.trans H; with_reducible exact H2_) | with_reducible exact H | (rw [hy242]; exact H) | exact H
         have Ny242 := ak hy242
         clear hy242
         have H' := ak H
         clear H
         obtain ⟨hcz13_0, hcz13_1, hfz13_0, hfz13_1⟩ := kk2 BK237.out
         have p241 : 0 ≤ (x4_1 : Int) := of_decide_eq_true (by first | (with_reducible assumption) | assumption)
         have q241 : x4_1 < (l0_1.length : Int) := of_decide_eq_true (by first | (with_reducible assumption) | assumption)
         obtain ⟨ad241, e241, hx241_0⟩ := Kd.at_int HR0_1.out x4_1 p241 q241
         cases e241
         replace hx241_0 := (HB.out.cell (World.block_lt_of_cell? w _ hx241_0)).trans hx241_0
         replace p241 := eq_true p241
         replace q241 := eq_true q241
         have p12 : 0 ≤ ((rd l0_1 x4_1) : Int) := of_decide_eq_true (by first | (with_reducible assumption) | assumption)
         have q12 : ((rd l0_1 x4_1) : Int) < ((x3_1.length : Int) : Int) := of_decide_eq_true (by first | (with_reducible assumption) | assumption)
         obtain ⟨go12, co12, eo12, gb12, gl12, cl12, HG12⟩ := Kd.R_form HO_3.out (by omega)
         (first | cases eo12 | (injection eo12 with ea_ en_ ec_; (first | subst ea_ | (injection ea_ with ea_; subst ea_)); subst ec_; clear en_))
         have GB12 := ak gb12
         have GG12 := ak HG12
         clear gb12 gl12 HG12
         obtain ⟨hx12_0, hf12_0⟩ := Kd.R_celln false HO_3.out ((rd l0_1 x4_1) : Int) p12 q12
         replace p12 := eq_true p12
         replace q12 := eq_true q12
         have HP14 := Kd.R_putg HO_3.out ((rd l0_1 x4_1) : Int) true
         go_wp2_with (first | ((with_reducible refine gate_store (t := 4) (p := 26) rfl ?_); refine store_event (t := 4) (p := 26) (v := ?vo_w15) (w1 := (wr.setCell ⟨go12, ((rd l0_1 x4_1) : Int).toNat, none⟩ (.bool true))) ?hg ?ho ?hn ?hr ?_; (case ho => rfl); (case hg => rfl); (case hn => rfl); (case hr => first | (go_simp; done) | (go_simp; rfl)); intro w15 hw; have hg : wr.grownBy w15 (some go12) := (by rw [hw]; exact HP14.2); have hp_ : Kd.R Kd.bool 4 w15 w.heap.size (fun _ => True) (.slice (some ⟨go12, 0, none⟩) x3_1.length co12) y242 := (by rw [hw, Ny242.out]; exact HP14.1); clear HP14; have n0_ := ak (hp_); have n1_ := ak (blk_grown (g := gb237) (o := .cells #[.slice A0_0 l0_0.length c0_0, .slice (some ad241) l0_1.length c0_1] 25 (0, 0)) (by (with_reducible repeat first | apply kn_ | apply kd_ | apply ka_); exact BK237.out) hg (Kd.R_ne HO_3.out BK237.out (by decide))); have n2_ := ak ((by rw [hw]; exact bs_ (HB.out) GB12.out : Below w.heap.size w w15)); clear HO_3; clear BK237; clear HB; have HO_3 := n0_; have BK237 := n1_; have HB := n2_; clear n0_ n1_ n2_; clear hg hw hp_))
         go_roundg k1
         case measure => have := HK1.out; omega
         case rel => exact ⟨(y242), (wrap64 (x4_1 + 1)), (by first | rfl | (simp; done) | (simp [*]; done) | (simp [Int.tdiv_eq_ediv_of_nonneg]; done)), H', ⟨by have := HK1.out; omega⟩, ⟨by (with_reducible repeat (first | apply Kd.R_alloc | apply Kd.R_drewN | apply Kd.R_drew)); exact HO_3.out⟩, ⟨by (with_reducible repeat first | apply kn_ | apply kd_ | apply ka_); exact BK237.out⟩, ⟨by repeat (first | (with_reducible first | exact HB.out | apply ba_ | apply bn_ | apply b1_ | refine bs_ ?_ GE237.out) | exact HB.out)⟩⟩
        ·rw [if_neg c11] at H
         exact absurd H (by simp)
       ·rw [if_neg c10] at H
        exact absurd H (by simp)
      ·rw [if_neg c9] at H
       exact absurd H (by simp)
     ·rw [if_neg c8] at H
      have c8b0 : decide (x4_1 < (l0_1.length : Int)) = false := decide_eq_false c8
      clear c8
      have H' := ak H
      clear H
      obtain ⟨hcz16_0, hcz16_1, hfz16_0, hfz16_1⟩ := kk2 BK237.out
      go_wp2
      go_loopg [5] k1 (fun kq v5 w' => ∃ (x3_2 : List Bool) (x5_2 : Bool), v5 = .bool x5_2 ∧ Aside0 (atticref19_Reach.l1 kq x3_2 x5_2 l0_0 l0_1 = some r) ∧ Aside0 (kq ≤ k1) ∧ Aside0 (Kd.R Kd.bool 4 w' w.heap.size (fun _ => True) v239 x3_2) ∧ Aside0 (w'.heap[gb237]? = some (.cells #[(.slice A0_0 l0_0.length c0_0), (.slice A0_1 l0_1.length c0_1)] 25 (0, 0))) ∧ Aside0 (Below w.heap.size w w'))
      case atStart => exact ⟨(x3_1), (true), (by first | rfl | (simp; done) | (simp [*]; done) | (simp [Int.tdiv_eq_ediv_of_nonneg]; done)), H', ⟨Nat.le_refl _⟩, ⟨by (with_reducible repeat (first | apply Kd.R_alloc | apply Kd.R_drewN | apply Kd.R_drew)); exact HO_3.out⟩, ⟨by (with_reducible repeat first | apply kn_ | apply kd_ | apply ka_); exact BK237.out⟩, ⟨by repeat (first | (with_reducible first | exact HB.out | apply ba_ | apply bn_ | apply b1_ | refine bs_ ?_ GE237.out) | exact HB.out)⟩⟩
      case round =>
       clear H'
       (try clear c1); (try clear p1); (try clear q1); (try clear hx1); (try clear hf1); (try clear c2); (try clear c2b0); (try clear c2b1); (try clear p2); (try clear q2); (try clear hx2); (try clear c3); (try clear c3b0); (try clear c3b1); (try clear p6); (try clear c8); (try clear c8b0); (try clear c9); (try clear c9b0); (try clear c10); (try clear c10b0); (try clear c11); (try clear c11b0); (try clear p12); (try clear q12); (try clear hx12); (try clear hf12); (try clear hcz13_0); (try clear hcz13_1); (try clear hcz16_0); (try clear hcz16_1); (try clear hcz5_0); (try clear hcz5_1); (try clear hfz13_0); (try clear hfz13_1); (try clear hfz16_0); (try clear hfz16_1); (try clear hfz5_0); (try clear hfz5_1); (try clear hx12_0); (try clear hx241_0); (try clear p12); (try clear p2); (try clear p241); (try clear q12); (try clear q241)
       obtain ⟨x3_2, x5_2, rfl, HA, HK2, HO_3, BK237, HB⟩ := hrel
       cases gk with
       | zero => exact absurd HA.out (by simp [atticref19_Reach.l1])
       | succ k2 =>
        have H := HA.out
        clear HA
        simp only [atticref19_Reach.l1] at H
        by_cases c17 : x5_2 = true
        ·subst c17
         have H1 : (atticref19_Reach.l2 k2 x3_2 false 0 l0_0 l0_1) = some r := by rw [if_pos rfl] at H; exact H
         clear H
         have H := H1
         clear H1
         have H' := ak H
         clear H
         go_wp2
         go_loopg [5, 6] k2 (fun kq v5 v6 w' => ∃ (x3_3 : List Bool) (x5_3 : Bool) (x6_3 : Int), v5 = .bool x5_3 ∧ v6 = .int .i64 x6_3 ∧ Aside0 (atticref19_Reach.l2 kq x3_3 x5_3 x6_3 l0_0 l0_1 = some r) ∧ Aside0 (kq ≤ k2) ∧ Aside0 (Kd.R Kd.bool 4 w' w.heap.size (fun _ => True) v239 x3_3) ∧ Aside0 (w'.heap[gb237]? = some (.cells #[(.slice A0_0 l0_0.length c0_0), (.slice A0_1 l0_1.length c0_1)] 25 (0, 0))) ∧ Aside0 (Below w.heap.size w w'))
         case atStart => exact ⟨(x3_2), (false), (0), (by first | rfl | (simp; done) | (simp [*]; done) | (simp [Int.tdiv_eq_ediv_of_nonneg]; done)), (by first | rfl | (simp; done) | (simp [*]; done) | (simp [Int.tdiv_eq_ediv_of_nonneg]; done)), H', ⟨Nat.le_refl _⟩, ⟨by (with_reducible repeat (first | apply Kd.R_alloc | apply Kd.R_drewN | apply Kd.R_drew)); exact HO_3.out⟩, ⟨by (with_reducible repeat first | apply kn_ | apply kd_ | apply ka_); exact BK237.out⟩, ⟨by repeat (first | (with_reducible first | exact HB.out | apply ba_ | apply bn_ | apply b1_ | refine bs_ ?_ GE237.out) | exact HB.out)⟩⟩
         case round =>
          clear H'
          (try clear c1); (try clear p1); (try clear q1); (try clear hx1); (try clear hf1); (try clear c2); (try clear c2b0); (try clear c2b1); (try clear p2); (try clear q2); (try clear hx2); (try clear c3); (try clear c3b0); (try clear c3b1); (try clear p6); (try clear c8); (try clear c8b0); (try clear c9); (try clear c9b0); (try clear c10); (try clear c10b0); (try clear c11); (try clear c11b0); (try clear p12); (try clear q12); (try clear hx12); (try clear hf12); (try clear c17); (try clear hcz13_0); (try clear hcz13_1); (try clear hcz16_0); (try clear hcz16_1); (try clear hcz5_0); (try clear hcz5_1); (try clear hfz13_0); (try clear hfz13_1); (try clear hfz16_0); (try clear hfz16_1); (try clear hfz5_0); (try clear hfz5_1); (try clear hx12_0); (try clear hx241_0); (try clear p1); (try clear p12); (try clear p2); (try clear p241); (try clear p6); (try clear q1); (try clear q12); (try clear q2); (try clear q241)
          obtain ⟨x3_3, x5_3, x6_3, rfl, rfl, HA, HK3, HO_3, BK237, HB⟩ := hrel
          cases gk with
          | zero => exact absurd HA.out (by simp [atticref19_Reach.l2])
          | succ k3 =>
           have H := HA.out
           clear HA
           simp only [atticref19_Reach.l2] at H
           by_cases c18 : x6_3 < (x3_3.length : Int)
           ·rw [if_pos c18] at H
            have c18b0 : decide (x6_3 < (x3_3.length : Int)) = true := decide_eq_true c18
            clear c18
            by_cases c19 : 0 ≤ x6_3
            ·rw [if_pos c19] at H
             have c19b0 : decide (0 ≤ x6_3) = true := decide_eq_true c19
             clear c19
             obtain ⟨bq20, hbq20⟩ : ∃ b_ : Bool, b_ = (rdOf false x3_3 x6_3) := ⟨_, rfl⟩
             replace H : (if bq20 = true then ((atticref19_counted.f k3 l0_0 l0_1 x3_3 x6_3).bind fun t244 => (atticref19_Reach.l3 k3 x3_3 x5_3 x6_3 t244 0 l0_0 l0_1)) else (atticref19_Reach.l2 k3 x3_3 x5_3 (wrap64 (x6_3 + 1)) l0_0 l0_1)) = some r := by rw [← hbq20] at H; exact H
             have Nbq20 := ak hbq20
             clear hbq20
             by_cases c21 : bq20 = true
             ·subst c21
              have H1 : ((atticref19_counted.f k3 l0_0 l0_1 x3_3 x6_3).bind fun t244 => (atticref19_Reach.l3 k3 x3_3 x5_3 x6_3 t244 0 l0_0 l0_1)) = some r := by rw [if_pos rfl] at H; exact H
              clear H
              have H := H1
              clear H1
              replace H := Option.bind_eq_some_iff.mp H
              obtain ⟨t244, A220, H⟩ := H
              replace H : (atticref19_Reach.l3 k3 x3_3 x5_3 x6_3 t244 0 l0_0 l0_1) = some r := H
              have A22 := ak A220
              clear A220
              have H' := ak H
              clear H
              obtain ⟨Ao23, co23, eo23⟩ := Kd.R_slice HO_3.out
              subst eo23
              have p243 : 0 ≤ (x6_3 : Int) := of_decide_eq_true (by first | (with_reducible assumption) | assumption)
              have q243 : x6_3 < (x3_3.length : Int) := of_decide_eq_true (by first | (with_reducible assumption) | assumption)
              obtain ⟨ad243, e243, hx243_0⟩ := Kd.at_bool (Kd.R_reads' HO_3.out).2.2 x6_3 p243 q243
              (try rw [← Nbq20.out] at hx243_0)
              cases e243
              replace p243 := eq_true p243
              replace q243 := eq_true q243
              obtain ⟨hcz24_0, hcz24_1, hfz24_0, hfz24_1⟩ := kk2 BK237.out
              go_wp2_with (first | ((with_reducible refine gate_callee (f := 46) rfl ?_); refine goesL_ (some 42) rfl rfl Try.func46 (by kernel_rfl) rfl #[.agg #[.slice A0_0 l0_0.length c0_0, .slice A0_1 l0_1.length c0_1], .slice (some ad243) x3_3.length co23, .int .i64 x6_3] rfl (by (try simp only [List.map_toArray, List.map_cons, List.map_nil]); first | done | rfl | (simp only [List.length_drop, List.length_take]; rfl)) ?_; (with_reducible refine (atticref19_counted.calls k3 _ _ l0_0 _ _ l0_1 _ _ x3_3 x6_3 t244 _ ?side1 ?side2 ?side3 ?side4 ?side5 ?side6 A22.out).mono ?_); (case side1 => repeat (first | exact (Kd.C_below HR0_0.out HB.out) | (with_reducible refine Kd.C_alloc ?_ _) | (with_reducible refine Kd.C_drewN ?_ _) | (with_reducible refine Kd.C_drew ?_))); (case side2 => exact HC0_0.out); (case side3 => repeat (first | exact (Kd.C_below HR0_1.out HB.out) | (with_reducible refine Kd.C_alloc ?_ _) | (with_reducible refine Kd.C_drewN ?_ _) | (with_reducible refine Kd.C_drew ?_))); (case side4 => exact HC0_1.out); (case side5 => repeat (first | exact (Kd.R_reads' HO_3.out).2.2 | (with_reducible refine Kd.C_alloc ?_ _) | (with_reducible refine Kd.C_drewN ?_ _) | (with_reducible refine Kd.C_drew ?_))); (case side6 => exact (Kd.R_reads' HO_3.out).2.1); rintro e w25 ⟨v245, rfl, ho0, hb⟩; refine ⟨_, rfl, ?_⟩; have n0_ := ak (Kd.R_below (by (with_reducible repeat (first | apply Kd.R_alloc | apply Kd.R_drewN | apply Kd.R_drew)); exact HO_3.out) hb); have n1_ := ak (Kd.R_lower ho0 (below_size (by repeat (first | (with_reducible first | exact HB.out | apply ba_ | apply bn_ | apply b1_ | refine bs_ ?_ GE237.out) | exact HB.out)))); have n2_ := ak (blk_below (g := gb237) (o := .cells #[.slice A0_0 l0_0.length c0_0, .slice A0_1 l0_1.length c0_1] 25 (0, 0)) (by (with_reducible repeat first | apply kn_ | apply kd_ | apply ka_); exact BK237.out) hb); have n3_ := ak (below_step (by repeat (first | (with_reducible first | exact HB.out | apply ba_ | apply bn_ | apply b1_ | refine bs_ ?_ GE237.out) | exact HB.out)) hb); clear HO_3; clear BK237; clear HB; have HO_3 := n0_; have HO246 := n1_; have BK237 := n2_; have HB := n3_; clear n0_ n1_ n2_ n3_; (try clear hb); (try clear hb2); (try clear hk); (try clear hi); (try clear ho0); (try clear A22)))
              go_loopg [5, 8] k3 (fun kq v5 v8 w' => ∃ (x3_4 : List Bool) (x5_4 : Bool) (x8_4 : Int), v5 = .bool x5_4 ∧ v8 = .int .i64 x8_4 ∧ Aside0 (atticref19_Reach.l3 kq x3_4 x5_4 x6_3 t244 x8_4 l0_0 l0_1 = some r) ∧ Aside0 (kq ≤ k3) ∧ Aside0 (Kd.R Kd.bool 4 w' w.heap.size (fun _ => True) (.slice (some ad243) x3_3.length co23) x3_4) ∧ Aside0 (Kd.R (Kd.int .i64) 3 w' w.heap.size (fun _ => True) v245 t244) ∧ Aside0 (w'.heap[gb237]? = some (.cells #[(.slice A0_0 l0_0.length c0_0), (.slice A0_1 l0_1.length c0_1)] 25 (0, 0))) ∧ Aside0 (Below w.heap.size w w'))
              case atStart => exact ⟨(x3_3), (x5_3), (0), (by first | rfl | (simp; done) | (simp [*]; done) | (simp [Int.tdiv_eq_ediv_of_nonneg]; done)), (by first | rfl | (simp; done) | (simp [*]; done) | (simp [Int.tdiv_eq_ediv_of_nonneg]; done)), H', ⟨Nat.le_refl _⟩, ⟨by (with_reducible repeat (first | apply Kd.R_alloc | apply Kd.R_drewN | apply Kd.R_drew)); exact HO_3.out⟩, ⟨by (with_reducible repeat (first | apply Kd.R_alloc | apply Kd.R_drewN | apply Kd.R_drew)); exact HO246.out⟩, ⟨by (with_reducible repeat first | apply kn_ | apply kd_ | apply ka_); exact BK237.out⟩, ⟨by repeat (first | (with_reducible first | exact HB.out | apply ba_ | apply bn_ | apply b1_ | refine bs_ ?_ GE237.out) | exact HB.out)⟩⟩
              case round =>
               clear H'
               (try clear c1); (try clear p1); (try clear q1); (try clear hx1); (try clear hf1); (try clear c2); (try clear c2b0); (try clear c2b1); (try clear p2); (try clear q2); (try clear hx2); (try clear c3); (try clear c3b0); (try clear c3b1); (try clear c4); (try clear p6); (try clear c8); (try clear c8b0); (try clear c9); (try clear c9b0); (try clear c10); (try clear c10b0); (try clear c11); (try clear c11b0); (try clear p12); (try clear q12); (try clear hx12); (try clear hf12); (try clear c17); (try clear c18); (try clear c18b0); (try clear c19); (try clear c19b0); (try clear q20); (try clear c21); (try clear p24); (try clear q24); (try clear hx24); (try clear hcz13_0); (try clear hcz13_1); (try clear hcz16_0); (try clear hcz16_1); (try clear hcz24_0); (try clear hcz24_1); (try clear hcz5_0); (try clear hcz5_1); (try clear hfz13_0); (try clear hfz13_1); (try clear hfz16_0); (try clear hfz16_1); (try clear hfz24_0); (try clear hfz24_1); (try clear hfz5_0); (try clear hfz5_1); (try clear hx12_0); (try clear hx241_0); (try clear hx243_0); (try clear p1); (try clear p12); (try clear p2); (try clear p241); (try clear p243); (try clear p6); (try clear q1); (try clear q12); (try clear q2); (try clear q241); (try clear q243)
               obtain ⟨x3_4, x5_4, x8_4, rfl, rfl, HA, HK4, HO_3, HO_7, BK237, HB⟩ := hrel
               have hl3_4 := (Kd.R_reads' HO_3.out).1
               rw [hl3_4] at HO_3
               (try simp only [hl3_4])
               (try simp only [hl3_4] at BK237)
               (try simp only [hl3_4] at HO_7)
               cases gk with
               | zero => exact absurd HA.out (by simp [atticref19_Reach.l3])
               | succ k4 =>
                have H := HA.out
                clear HA
                simp only [atticref19_Reach.l3] at H
                by_cases c26 : x8_4 < (t244.length : Int)
                ·rw [if_pos c26] at H
                 have c26b0 : decide (x8_4 < (t244.length : Int)) = true := decide_eq_true c26
                 clear c26
                 by_cases c27 : 0 ≤ x8_4
                 ·rw [if_pos c27] at H
                  have c27b0 : decide (0 ≤ x8_4) = true := decide_eq_true c27
                  clear c27
                  by_cases c28 : 0 ≤ (rd t244 x8_4)
                  ·rw [if_pos c28] at H
                   have c28b0 : decide (0 ≤ (rd t244 x8_4)) = true := decide_eq_true c28
                   clear c28
                   by_cases c29 : (rd t244 x8_4) < (x3_4.length : Int)
                   ·rw [if_pos c29] at H
                    have c29b0 : decide ((rd t244 x8_4) < (x3_4.length : Int)) = true := decide_eq_true c29
                    clear c29
                    obtain ⟨bq30, hbq30⟩ : ∃ b_ : Bool, b_ = (rdOf false x3_4 (rd t244 x8_4)) := ⟨_, rfl⟩
                    replace H : (if (bq30 = true) then (atticref19_Reach.l3 k4 x3_4 x5_4 x6_3 t244 (wrap64 (x8_4 + 1)) l0_0 l0_1) else (atticref19_Reach.l3 k4 (x3_4.set ((rd t244 x8_4) : Int).toNat true) true x6_3 t244 (wrap64 (x8_4 + 1)) l0_0 l0_1)) = some r := by rw [← hbq30] at H; exact H
                    have Nbq30 := ak hbq30
                    clear hbq30
                    by_cases c31 : (bq30 = true)
                    ·subst c31
                     have H1 : (atticref19_Reach.l3 k4 x3_4 x5_4 x6_3 t244 (wrap64 (x8_4 + 1)) l0_0 l0_1) = some r := by rw [if_pos rfl] at H; exact H
                     clear H
                     have H := H1
                     clear H1
                     have H' := ak H
                     clear H
                     obtain ⟨Ao32, co32, eo32⟩ := Kd.R_slice HO_7.out
                     subst eo32
                     have p247 : 0 ≤ (x8_4 : Int) := of_decide_eq_true (by first | (with_reducible assumption) | assumption)
                     have q247 : x8_4 < (t244.length : Int) := of_decide_eq_true (by first | (with_reducible assumption) | assumption)
                     obtain ⟨ad247, e247, hx247_0⟩ := Kd.at_int (Kd.R_reads' HO_7.out).2.2 x8_4 p247 q247
                     cases e247
                     replace p247 := eq_true p247
                     replace q247 := eq_true q247
                     have p248 : 0 ≤ ((rd t244 x8_4) : Int) := of_decide_eq_true (by first | (with_reducible assumption) | assumption)
                     have q248 : (rd t244 x8_4) < (x3_4.length : Int) := of_decide_eq_true (by first | (with_reducible assumption) | assumption)
                     obtain ⟨ad248, e248, hx248_0⟩ := Kd.at_bool (Kd.R_reads' HO_3.out).2.2 (rd t244 x8_4) p248 q248
                     (try rw [← Nbq20.out] at hx248_0)
                     (try rw [← Nbq30.out] at hx248_0)
                     obtain rfl : ad243 = ad248 := (by injection e248)
                     replace p248 := eq_true p248
                     replace q248 := eq_true q248
                     go_wp2
                     (try simp only [← hl3_4])
                     go_roundg k4
                     case measure => have := HK1.out; have := HK2.out; have := HK3.out; have := HK4.out; omega
                     case rel => exact ⟨(x3_4), (x5_4), (wrap64 (x8_4 + 1)), (by first | rfl | (simp; done) | (simp [*]; done) | (simp [Int.tdiv_eq_ediv_of_nonneg]; done)), (by first | rfl | (simp; done) | (simp [*]; done) | (simp [Int.tdiv_eq_ediv_of_nonneg]; done)), H', ⟨by have := HK1.out; have := HK2.out; have := HK3.out; have := HK4.out; omega⟩, ⟨by (try simp only [hl3_4]); (with_reducible repeat (first | apply Kd.R_alloc | apply Kd.R_drewN | apply Kd.R_drew)); exact HO_3.out⟩, ⟨by (try simp only [hl3_4]); (with_reducible repeat (first | apply Kd.R_alloc | apply Kd.R_drewN | apply Kd.R_drew)); exact HO_7.out⟩, ⟨by (try simp only [hl3_4]); (with_reducible repeat first | apply kn_ | apply kd_ | apply ka_); exact BK237.out⟩, ⟨by repeat (first | (with_reducible first | exact HB.out | apply ba_ | apply bn_ | apply b1_ | refine bs_ ?_ GE237.out) | exact HB.out)⟩⟩
                    ·replace c31 := Bool.eq_false_iff.mpr c31
                     subst c31
                     have H1 : (atticref19_Reach.l3 k4 (x3_4.set ((rd t244 x8_4) : Int).toNat true) true x6_3 t244 (wrap64 (x8_4 + 1)) l0_0 l0_1) = some r := by rw [if_neg (show ¬ (false = true) by decide)] at H; exact H
                     clear H
                     have H := H1
                     clear H1
                     obtain ⟨y250, hy250⟩ : ∃ y_ : List Bool, y_ = (x3_4.set ((rd t244 x8_4) : Int).toNat true) := ⟨_, rfl⟩
                     replace H : (atticref19_Reach.l3 k4 y250 true x6_3 t244 (wrap64 (x8_4 + 1)) l0_0 l0_1) = some r := by first | (rw [hy250]; with_reducible exact H) | (have H2_ := (Option.bind_some _ _).symm.trans H; rw [hy250]; with_reducible exact H2_) | (have H2_ := (Option.bind_some _ _).symm.trans H; with_reducible exact H2_) | with_reducible exact H | (rw [hy250]; exact H) | exact H
                     have Ny250 := ak hy250
                     clear hy250
                     have H' := ak H
                     clear H
                     obtain ⟨Ao34, co34, eo34⟩ := Kd.R_slice HO_7.out
                     subst eo34
                     have p247 : 0 ≤ (x8_4 : Int) := of_decide_eq_true (by first | (with_reducible assumption) | assumption)
                     have q247 : x8_4 < (t244.length : Int) := of_decide_eq_true (by first | (with_reducible assumption) | assumption)
                     obtain ⟨ad247, e247, hx247_0⟩ := Kd.at_int (Kd.R_reads' HO_7.out).2.2 x8_4 p247 q247
                     cases e247
                     replace p247 := eq_true p247
                     replace q247 := eq_true q247
                     have p248 : 0 ≤ ((rd t244 x8_4) : Int) := of_decide_eq_true (by first | (with_reducible assumption) | assumption)
                     have q248 : (rd t244 x8_4) < (x3_4.length : Int) := of_decide_eq_true (by first | (with_reducible assumption) | assumption)
                     obtain ⟨ad248, e248, hx248_0⟩ := Kd.at_bool (Kd.R_reads' HO_3.out).2.2 (rd t244 x8_4) p248 q248
                     (try rw [← Nbq20.out] at hx248_0)
                     (try rw [← Nbq30.out] at hx248_0)
                     obtain rfl : ad243 = ad248 := (by injection e248)
                     replace p248 := eq_true p248
                     replace q248 := eq_true q248
                     have p249 : 0 ≤ (x8_4 : Int) := of_decide_eq_true (by first | (with_reducible assumption) | assumption)
                     have q249 : x8_4 < (t244.length : Int) := of_decide_eq_true (by first | (with_reducible assumption) | assumption)
                     obtain ⟨ad249, e249, hx249_0⟩ := Kd.at_int (Kd.R_reads' HO_7.out).2.2 x8_4 p249 q249
                     obtain rfl : ad247 = ad249 := (by injection e249)
                     replace p249 := eq_true p249
                     replace q249 := eq_true q249
                     have p33 : 0 ≤ ((rd t244 x8_4) : Int) := of_decide_eq_true (by first | (with_reducible assumption) | assumption)
                     have q33 : ((rd t244 x8_4) : Int) < ((x3_4.length : Int) : Int) := of_decide_eq_true (by first | (with_reducible assumption) | assumption)
                     obtain ⟨go33, co33, eo33, gb33, gl33, cl33, HG33⟩ := Kd.R_form HO_3.out (by omega)
                     (first | cases eo33 | (injection eo33 with ea_ en_ ec_; (first | subst ea_ | (injection ea_ with ea_; subst ea_)); subst ec_; clear en_))
                     have GB33 := ak gb33
                     have GG33 := ak HG33
                     clear gb33 gl33 HG33
                     (first | simp only [add_plain] at hx243_0 | skip)
                     (first | simp only [add_plain] at hx248_0 | skip)
                     obtain ⟨hx33_0, hf33_0⟩ := Kd.R_celln false HO_3.out ((rd t244 x8_4) : Int) p33 q33
                     replace p33 := eq_true p33
                     replace q33 := eq_true q33
                     have HP35 := Kd.R_putg HO_3.out ((rd t244 x8_4) : Int) true
                     go_wp2_with (first | ((with_reducible refine gate_store (t := 4) (p := 62) rfl ?_); refine store_event (t := 4) (p := 62) (v := ?vo_w36) (w1 := (wr.setCell ⟨go33, ((rd t244 x8_4) : Int).toNat, none⟩ (.bool true))) ?hg ?ho ?hn ?hr ?_; (case ho => rfl); (case hg => rfl); (case hn => rfl); (case hr => first | (go_simp; done) | (go_simp; rfl)); intro w36 hw; have hg : wr.grownBy w36 (some go33) := (by rw [hw]; exact HP35.2); have hp_ : Kd.R Kd.bool 4 w36 w.heap.size (fun _ => True) (.slice (some ⟨go33, 0, none⟩) x3_4.length co23) y250 := (by rw [hw, Ny250.out]; exact HP35.1); clear HP35; have n0_ := ak (hp_); have n1_ := ak (Kd.R_over' (v := (.slice (some ⟨go33, 0, none⟩) x3_4.length co23)) (by (with_reducible repeat (first | apply Kd.R_alloc | apply Kd.R_drewN | apply Kd.R_drew)); exact HO_7.out) (Kd.R_typed HO_3.out) (by decide) hg); have n2_ := ak (blk_grown (g := gb237) (o := .cells #[.slice A0_0 l0_0.length c0_0, .slice A0_1 l0_1.length c0_1] 25 (0, 0)) (by (with_reducible repeat first | apply kn_ | apply kd_ | apply ka_); exact BK237.out) hg (Kd.R_ne HO_3.out BK237.out (by decide))); have n3_ := ak ((by rw [hw]; exact bs_ (HB.out) GB33.out : Below w.heap.size w w36)); clear HO_3; clear HO_7; clear BK237; clear HB; have HO_3 := n0_; have HO_7 := n1_; have BK237 := n2_; have HB := n3_; clear n0_ n1_ n2_ n3_; clear hg hw hp_))
                     (try simp only [← hl3_4])
                     (try rw [← add_plain go33 x6_3.toNat])
                     go_roundg k4
                     case measure => have := HK1.out; have := HK2.out; have := HK3.out; have := HK4.out; omega
                     case rel => exact ⟨(y250), (true), (wrap64 (x8_4 + 1)), (by first | rfl | (simp; done) | (simp [*]; done) | (simp [Int.tdiv_eq_ediv_of_nonneg]; done)), (by first | rfl | (simp; done) | (simp [*]; done) | (simp [Int.tdiv_eq_ediv_of_nonneg]; done)), H', ⟨by have := HK1.out; have := HK2.out; have := HK3.out; have := HK4.out; omega⟩, ⟨by (try simp only [hl3_4]); (with_reducible repeat (first | apply Kd.R_alloc | apply Kd.R_drewN | apply Kd.R_drew)); exact HO_3.out⟩, ⟨by (try simp only [hl3_4]); (with_reducible repeat (first | apply Kd.R_alloc | apply Kd.R_drewN | apply Kd.R_drew)); exact HO_7.out⟩, ⟨by (try simp only [hl3_4]); (with_reducible repeat first | apply kn_ | apply kd_ | apply ka_); exact BK237.out⟩, ⟨by repeat (first | (with_reducible first | exact HB.out | apply ba_ | apply bn_ | apply b1_ | refine bs_ ?_ GE237.out) | exact HB.out)⟩⟩
                   ·rw [if_neg c29] at H
                    exact absurd H (by simp)
                  ·rw [if_neg c28] at H
                   exact absurd H (by simp)
                 ·rw [if_neg c27] at H
                  exact absurd H (by simp)
                ·rw [if_neg c26] at H
                 have c26b0 : decide (x8_4 < (t244.length : Int)) = false := decide_eq_false c26
                 clear c26
                 have H' := ak H
                 clear H
                 obtain ⟨Ao37, co37, eo37⟩ := Kd.R_slice HO_7.out
                 subst eo37
                 go_wp2
                 (try simp only [← hl3_4])
                 go_roundg k4
                 case measure => have := HK1.out; have := HK2.out; have := HK3.out; have := HK4.out; omega
                 case rel => exact ⟨(x3_4), (x5_4), (wrap64 (x6_3 + 1)), (by first | rfl | (simp; done) | (simp [*]; done) | (simp [Int.tdiv_eq_ediv_of_nonneg]; done)), (by first | rfl | (simp; done) | (simp [*]; done) | (simp [Int.tdiv_eq_ediv_of_nonneg]; done)), H', ⟨by have := HK1.out; have := HK2.out; have := HK3.out; have := HK4.out; omega⟩, ⟨by (try simp only [hl3_4]); (with_reducible repeat (first | apply Kd.R_alloc | apply Kd.R_drewN | apply Kd.R_drew)); exact HO_3.out⟩, ⟨by (try simp only [hl3_4]); (with_reducible repeat first | apply kn_ | apply kd_ | apply ka_); exact BK237.out⟩, ⟨by repeat (first | (with_reducible first | exact HB.out | apply ba_ | apply bn_ | apply b1_ | refine bs_ ?_ GE237.out) | exact HB.out)⟩⟩
             ·replace c21 := Bool.eq_false_iff.mpr c21
              subst c21
              have H1 : (atticref19_Reach.l2 k3 x3_3 x5_3 (wrap64 (x6_3 + 1)) l0_0 l0_1) = some r := by rw [if_neg (show ¬ (false = true) by decide)] at H; exact H
              clear H
              have H := H1
              clear H1
              have H' := ak H
              clear H
              obtain ⟨Ao38, co38, eo38⟩ := Kd.R_slice HO_3.out
              subst eo38
              have p243 : 0 ≤ (x6_3 : Int) := of_decide_eq_true (by first | (with_reducible assumption) | assumption)
              have q243 : x6_3 < (x3_3.length : Int) := of_decide_eq_true (by first | (with_reducible assumption) | assumption)
              obtain ⟨ad243, e243, hx243_0⟩ := Kd.at_bool (Kd.R_reads' HO_3.out).2.2 x6_3 p243 q243
              (try rw [← Nbq20.out] at hx243_0)
              cases e243
              replace p243 := eq_true p243
              replace q243 := eq_true q243
              go_wp2
              go_roundg k3
              case measure => have := HK1.out; have := HK2.out; have := HK3.out; omega
              case rel => exact ⟨(x3_3), (x5_3), (wrap64 (x6_3 + 1)), (by first | rfl | (simp; done) | (simp [*]; done) | (simp [Int.tdiv_eq_ediv_of_nonneg]; done)), (by first | rfl | (simp; done) | (simp [*]; done) | (simp [Int.tdiv_eq_ediv_of_nonneg]; done)), H', ⟨by have := HK1.out; have := HK2.out; have := HK3.out; omega⟩, ⟨by (with_reducible repeat (first | apply Kd.R_alloc | apply Kd.R_drewN | apply Kd.R_drew)); exact HO_3.out⟩, ⟨by (with_reducible repeat first | apply kn_ | apply kd_ | apply ka_); exact BK237.out⟩, ⟨by repeat (first | (with_reducible first | exact HB.out | apply ba_ | apply bn_ | apply b1_ | refine bs_ ?_ GE237.out) | exact HB.out)⟩⟩
            ·rw [if_neg c19] at H
             exact absurd H (by simp)
           ·rw [if_neg c18] at H
            have c18b0 : decide (x6_3 < (x3_3.length : Int)) = false := decide_eq_false c18
            clear c18
            have H' := ak H
            clear H
            obtain ⟨Ao39, co39, eo39⟩ := Kd.R_slice HO_3.out
            subst eo39
            go_wp2
            go_roundg k3
            case measure => have := HK1.out; have := HK2.out; have := HK3.out; omega
            case rel => exact ⟨(x3_3), (x5_3), (by first | rfl | (simp; done) | (simp [*]; done) | (simp [Int.tdiv_eq_ediv_of_nonneg]; done)), H', ⟨by have := HK1.out; have := HK2.out; have := HK3.out; omega⟩, ⟨by (with_reducible repeat (first | apply Kd.R_alloc | apply Kd.R_drewN | apply Kd.R_drew)); exact HO_3.out⟩, ⟨by (with_reducible repeat first | apply kn_ | apply kd_ | apply ka_); exact BK237.out⟩, ⟨by repeat (first | (with_reducible first | exact HB.out | apply ba_ | apply bn_ | apply b1_ | refine bs_ ?_ GE237.out) | exact HB.out)⟩⟩
        ·replace c17 := Bool.eq_false_iff.mpr c17
         subst c17
         have H1 : (some x3_2) = some r := by rw [if_neg (show ¬ (false = true) by decide)] at H; exact H
         clear H
         have H := H1
         clear H1
         obtain rfl := Option.some.inj H
         go_wp2
         go_ret
         exact ⟨_, by first | rfl | (simp [errW_none, errW_some] <;> rfl) | (simp [*, errW_none, errW_some] <;> rfl) | (simp [Int.tdiv_eq_ediv_of_nonneg]; done), by (with_reducible repeat (first | apply Kd.R_alloc | apply Kd.R_drewN | apply Kd.R_drew)); exact HO_3.out, by repeat (first | (with_reducible first | exact HB.out | apply ba_ | apply bn_ | apply b1_ | refine bs_ ?_ GE237.out) | exact HB.out)⟩
  ·rw [if_neg c3] at H
   exact absurd H (by simp)
 ·rw [if_neg c2] at H
  exact absurd H (by simp)
/-! ### atticlaw19_within: function 33 -/
def atticlaw19_within.l0 : Nat → List Bool → List Bool → Int → Int → Option (Bool)
 | 0, _, _, _, _ => none
 | k + 1, x1, x7, x8, x9 => if x9 < x8 then (if 0 ≤ x9 then (if x9 < (x7.length : Int) then (if rdOf false x7 x9 = true then (if x9 ≥ (x1.length : Int) then (some false) else (if x9 < (x1.length : Int) then (if rdOf false x1 x9 = true then (atticlaw19_within.l0 k x1 x7 x8 (wrap64 (x9 + 1))) else (some false)) else (none))) else (atticlaw19_within.l0 k x1 x7 x8 (wrap64 (x9 + 1)))) else (none)) else (none)) else (some true)
def atticlaw19_within.f (k : Nat) (l0 : List Bool) (l1 : List Bool) : Option (Bool) := atticlaw19_within.l0 k l1 l0 (l0.length : Int) 0
theorem atticlaw19_within.mono_l : ∀ k, (∀ y0 y1 y2 y3, LeO (atticlaw19_within.l0 k y0 y1 y2 y3) (atticlaw19_within.l0 (k + 1) y0 y1 y2 y3))
 | 0 => fun _ _ _ _ r h => by simp [atticlaw19_within.l0] at h
 | k + 1 => by
  have ih0 := atticlaw19_within.mono_l k
  ·intro y0 y1 y2 y3
   unfold atticlaw19_within.l0
   repeat' first | (with_reducible first | exact ih0 _ _ _ _ | exact LeO.refl _ | exact LeO.none _ | refine LeO.ite ?_ ?_ | refine LeO.bind ?_ (fun _ => ?_)) | exact ih0 _ _ _ _ | exact LeO.none _ | refine LeO.ite ?_ ?_ | refine LeO.bind ?_ (fun _ => ?_)
theorem atticlaw19_within.mono : ∀ a0 a1 k, LeO (atticlaw19_within.f k a0 a1) (atticlaw19_within.f (k + 1) a0 a1) := by
 intro a0 a1 k
 have ih0 := atticlaw19_within.mono_l k
 unfold atticlaw19_within.f
 repeat' first | (with_reducible first | exact ih0 _ _ _ _ | exact LeO.refl _ | exact LeO.none _ | refine LeO.ite ?_ ?_ | refine LeO.bind ?_ (fun _ => ?_)) | exact ih0 _ _ _ _ | exact LeO.none _ | refine LeO.ite ?_ ?_ | refine LeO.bind ?_ (fun _ => ?_)
set_option maxHeartbeats 8000000 in
set_option maxRecDepth 100000 in
theorem atticlaw19_within.calls (k : Nat) (A0 : Option Addr) (c0 : Nat) (l0 : List Bool) (A1 : Option Addr) (c1 : Nat) (l1 : List Bool) (r : Bool) (w : World) (hr0 : Kd.C Kd.bool w A0 l0.length l0) (hc0 : l0.length ≤ c0) (hr1 : Kd.C Kd.bool w A1 l1.length l1) (hc1 : l1.length ≤ c1) (h : atticlaw19_within.f k l0 l1 = some r) :
  Calls Try.prog 33 #[.slice A0 l0.length c0, .slice A1 l1.length c1] w fun e w' => e = .returned (.bool r) ∧ Drawn0 w w' := by
 have HR0 := ak hr0
 have HC0 := ak hc0
 clear hr0 hc0
 have HR1 := ak hr1
 have HC1 := ak hc1
 clear hr1 hc1
 have H : (atticlaw19_within.l0 k l1 l0 (l0.length : Int) 0) = some r := h
 clear h
 have H' := ak H
 clear H
 go_enter Try.func33, Try.ntmps33
 go_wp2
 go_loopg [9] k (fun kq v9 w' => ∃ (x9_1 : Int), v9 = .int .i64 x9_1 ∧ Aside0 (atticlaw19_within.l0 kq l1 l0 (l0.length : Int) x9_1 = some r) ∧ Aside0 (kq ≤ k) ∧ Drawn0 w w')
 case atStart => exact ⟨(0), (by first | rfl | (simp; done) | (simp [*]; done) | (simp [Int.tdiv_eq_ediv_of_nonneg]; done)), H', ⟨Nat.le_refl _⟩, by repeat (first | exact Drawn0.refl _ | apply Drawn0.step)⟩
 case round =>
  clear H'
  (try clear c1); (try clear p2)
  obtain ⟨x9_1, rfl, HA, HK1, ⟨m1, rfl⟩⟩ := hrel
  cases gk with
  | zero => exact absurd HA.out (by simp [atticlaw19_within.l0])
  | succ k1 =>
   have H := HA.out
   clear HA
   simp only [atticlaw19_within.l0] at H
   by_cases c3 : x9_1 < (l0.length : Int)
   ·rw [if_pos c3] at H
    have c3b0 : decide (x9_1 < (l0.length : Int)) = true := decide_eq_true c3
    clear c3
    by_cases c4 : 0 ≤ x9_1
    ·rw [if_pos c4] at H
     have c4b0 : decide (0 ≤ x9_1) = true := decide_eq_true c4
     clear c4
     by_cases c5 : x9_1 < (l0.length : Int)
     ·rw [if_pos c5] at H
      have c5b0 : decide (x9_1 < (l0.length : Int)) = true := decide_eq_true c5
      clear c5
      obtain ⟨bq6, hbq6⟩ : ∃ b_ : Bool, b_ = (rdOf false l0 x9_1) := ⟨_, rfl⟩
      replace H : (if bq6 = true then (if x9_1 ≥ (l1.length : Int) then (some false) else (if x9_1 < (l1.length : Int) then (if rdOf false l1 x9_1 = true then (atticlaw19_within.l0 k1 l1 l0 (l0.length : Int) (wrap64 (x9_1 + 1))) else (some false)) else (none))) else (atticlaw19_within.l0 k1 l1 l0 (l0.length : Int) (wrap64 (x9_1 + 1)))) = some r := by rw [← hbq6] at H; exact H
      have Nbq6 := ak hbq6
      clear hbq6
      by_cases c7 : bq6 = true
      ·subst c7
       have H1 : (if x9_1 ≥ (l1.length : Int) then (some false) else (if x9_1 < (l1.length : Int) then (if rdOf false l1 x9_1 = true then (atticlaw19_within.l0 k1 l1 l0 (l0.length : Int) (wrap64 (x9_1 + 1))) else (some false)) else (none))) = some r := by rw [if_pos rfl] at H; exact H
       clear H
       have H := H1
       clear H1
       by_cases c8 : x9_1 ≥ (l1.length : Int)
       ·rw [if_pos c8] at H
        have c8b0 : decide ((l1.length : Int) ≤ x9_1) = true := decide_eq_true c8
        clear c8
        obtain rfl := Option.some.inj H
        have p251 : 0 ≤ (x9_1 : Int) := of_decide_eq_true (by first | (with_reducible assumption) | assumption)
        have q251 : x9_1 < (l0.length : Int) := of_decide_eq_true (by first | (with_reducible assumption) | assumption)
        obtain ⟨ad251, e251, hx251_0⟩ := Kd.at_bool HR0.out x9_1 p251 q251
        (try rw [← Nbq6.out] at hx251_0)
        cases e251
        replace p251 := eq_true p251
        replace q251 := eq_true q251
        go_wp2
        go_ret
        exact ⟨by first | rfl | (simp; done) | (simp [*]; done) | (simp [Int.tdiv_eq_ediv_of_nonneg]; done), by repeat (first | exact Drawn0.refl _ | apply Drawn0.step)⟩
       ·rw [if_neg c8] at H
        have c8b0 : decide ((l1.length : Int) ≤ x9_1) = false := decide_eq_false c8
        clear c8
        by_cases c9 : x9_1 < (l1.length : Int)
        ·rw [if_pos c9] at H
         have c9b0 : decide (x9_1 < (l1.length : Int)) = true := decide_eq_true c9
         clear c9
         obtain ⟨bq10, hbq10⟩ : ∃ b_ : Bool, b_ = (rdOf false l1 x9_1) := ⟨_, rfl⟩
         replace H : (if bq10 = true then (atticlaw19_within.l0 k1 l1 l0 (l0.length : Int) (wrap64 (x9_1 + 1))) else (some false)) = some r := by rw [← hbq10] at H; exact H
         have Nbq10 := ak hbq10
         clear hbq10
         by_cases c11 : bq10 = true
         ·subst c11
          have H1 : (atticlaw19_within.l0 k1 l1 l0 (l0.length : Int) (wrap64 (x9_1 + 1))) = some r := by rw [if_pos rfl] at H; exact H
          clear H
          have H := H1
          clear H1
          have H' := ak H
          clear H
          have p251 : 0 ≤ (x9_1 : Int) := of_decide_eq_true (by first | (with_reducible assumption) | assumption)
          have q251 : x9_1 < (l0.length : Int) := of_decide_eq_true (by first | (with_reducible assumption) | assumption)
          obtain ⟨ad251, e251, hx251_0⟩ := Kd.at_bool HR0.out x9_1 p251 q251
          (try rw [← Nbq6.out] at hx251_0)
          (try rw [← Nbq10.out] at hx251_0)
          cases e251
          replace p251 := eq_true p251
          replace q251 := eq_true q251
          have p252 : 0 ≤ (x9_1 : Int) := of_decide_eq_true (by first | (with_reducible assumption) | assumption)
          have q252 : x9_1 < (l1.length : Int) := of_decide_eq_true (by first | (with_reducible assumption) | assumption)
          obtain ⟨ad252, e252, hx252_0⟩ := Kd.at_bool HR1.out x9_1 p252 q252
          (try rw [← Nbq6.out] at hx252_0)
          (try rw [← Nbq10.out] at hx252_0)
          cases e252
          replace p252 := eq_true p252
          replace q252 := eq_true q252
          go_wp2
          go_roundg k1
          case measure => have := HK1.out; omega
          case rel => exact ⟨(wrap64 (x9_1 + 1)), (by first | rfl | (simp; done) | (simp [*]; done) | (simp [Int.tdiv_eq_ediv_of_nonneg]; done)), H', ⟨by have := HK1.out; omega⟩, by repeat (first | exact Drawn0.refl _ | apply Drawn0.step)⟩
         ·replace c11 := Bool.eq_false_iff.mpr c11
          subst c11
          have H1 : (some false) = some r := by rw [if_neg (show ¬ (false = true) by decide)] at H; exact H
          clear H
          have H := H1
          clear H1
          obtain rfl := Option.some.inj H
          have p251 : 0 ≤ (x9_1 : Int) := of_decide_eq_true (by first | (with_reducible assumption) | assumption)
          have q251 : x9_1 < (l0.length : Int) := of_decide_eq_true (by first | (with_reducible assumption) | assumption)
          obtain ⟨ad251, e251, hx251_0⟩ := Kd.at_bool HR0.out x9_1 p251 q251
          (try rw [← Nbq6.out] at hx251_0)
          (try rw [← Nbq10.out] at hx251_0)
          cases e251
          replace p251 := eq_true p251
          replace q251 := eq_true q251
          have p252 : 0 ≤ (x9_1 : Int) := of_decide_eq_true (by first | (with_reducible assumption) | assumption)
          have q252 : x9_1 < (l1.length : Int) := of_decide_eq_true (by first | (with_reducible assumption) | assumption)
          obtain ⟨ad252, e252, hx252_0⟩ := Kd.at_bool HR1.out x9_1 p252 q252
          (try rw [← Nbq6.out] at hx252_0)
          (try rw [← Nbq10.out] at hx252_0)
          cases e252
          replace p252 := eq_true p252
          replace q252 := eq_true q252
          go_wp2
          go_ret
          exact ⟨by first | rfl | (simp; done) | (simp [*]; done) | (simp [Int.tdiv_eq_ediv_of_nonneg]; done), by repeat (first | exact Drawn0.refl _ | apply Drawn0.step)⟩
        ·rw [if_neg c9] at H
         exact absurd H (by simp)
      ·replace c7 := Bool.eq_false_iff.mpr c7
       subst c7
       have H1 : (atticlaw19_within.l0 k1 l1 l0 (l0.length : Int) (wrap64 (x9_1 + 1))) = some r := by rw [if_neg (show ¬ (false = true) by decide)] at H; exact H
       clear H
       have H := H1
       clear H1
       have H' := ak H
       clear H
       have p251 : 0 ≤ (x9_1 : Int) := of_decide_eq_true (by first | (with_reducible assumption) | assumption)
       have q251 : x9_1 < (l0.length : Int) := of_decide_eq_true (by first | (with_reducible assumption) | assumption)
       obtain ⟨ad251, e251, hx251_0⟩ := Kd.at_bool HR0.out x9_1 p251 q251
       (try rw [← Nbq6.out] at hx251_0)
       cases e251
       replace p251 := eq_true p251
       replace q251 := eq_true q251
       go_wp2
       go_roundg k1
       case measure => have := HK1.out; omega
       case rel => exact ⟨(wrap64 (x9_1 + 1)), (by first | rfl | (simp; done) | (simp [*]; done) | (simp [Int.tdiv_eq_ediv_of_nonneg]; done)), H', ⟨by have := HK1.out; omega⟩, by repeat (first | exact Drawn0.refl _ | apply Drawn0.step)⟩
     ·rw [if_neg c5] at H
      exact absurd H (by simp)
    ·rw [if_neg c4] at H
     exact absurd H (by simp)
   ·rw [if_neg c3] at H
    have c3b0 : decide (x9_1 < (l0.length : Int)) = false := decide_eq_false c3
    clear c3
    obtain rfl := Option.some.inj H
    go_wp2
    go_ret
    exact ⟨by first | rfl | (simp; done) | (simp [*]; done) | (simp [Int.tdiv_eq_ediv_of_nonneg]; done), by repeat (first | exact Drawn0.refl _ | apply Drawn0.step)⟩
end Go.Proofs.Ytnmpmjbkelogaaa.Print
