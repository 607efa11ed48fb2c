-- Written by a program of this session (wip/xprint.py, by way of the print): Lean functions and proofs that the Go functions come to them.
import Derived.Test.YtnmpmjbkelogaaaPrint0
import Derived.Test.YtnmpmjbkelogaaaPrint1
import Derived.Test.YtnmpmjbkelogaaaPrint2
import Derived.Test.YtnmpmjbkelogaaaPrint4
namespace Go.Proofs.Ytnmpmjbkelogaaa.Print
open Go.RowKit Go.Proofs.YtnmpmjbkelogaaaW.PrintWords Go.Proofs.YtnmpmjbkelogaaaW.PrintLast Go.Proofs.YtnmpmjbkelogaaaW.PrintMore
attribute [local go_sem] max2_int min2_int max_two min_two max_three min_three max_four min_four   -- for this text's walks alone
set_option linter.unusedVariables false
set_option linter.unusedSimpArgs false
/-! ### atticref19_Clone: function 47 -/
def atticref19_Clone.f (a0_0 : Int) (a0_1 : Int) (l0_2 : List Bool) (l0_3 : List Int) (a0_4 : Bool) (a0_5 : Bool) (a0_6 : Bool) : Option (Int × Int × List Bool × List Int × Bool × Bool × Bool) := if ([] : List Bool).length + l0_2.length < 140737488355328 then (if ([] : List Int).length + l0_3.length < 17592186044416 then (some (a0_0, a0_1, (([] : List Bool) ++ l0_2), (([] : List Int) ++ l0_3), a0_4, a0_5, a0_6)) else (none)) else (none)
set_option maxHeartbeats 8000000 in
set_option maxRecDepth 100000 in
theorem atticref19_Clone.calls (a0_0 : Int) (a0_1 : Int) (A0_2 : Option Addr) (c0_2 : Nat) (l0_2 : List Bool) (A0_3 : Option Addr) (c0_3 : Nat) (l0_3 : List Int) (a0_4 : Bool) (a0_5 : Bool) (a0_6 : Bool) (r1 : Int) (r2 : Int) (r3 : List Bool) (r4 : List Int) (r5 : Bool) (r6 : Bool) (r7 : Bool) (w : World) (hr0_2 : Kd.C Kd.bool w A0_2 l0_2.length l0_2) (hc0_2 : l0_2.length ≤ c0_2) (hr0_3 : Kd.C (Kd.int .i64) w A0_3 l0_3.length l0_3) (hc0_3 : l0_3.length ≤ c0_3) (h : atticref19_Clone.f a0_0 a0_1 l0_2 l0_3 a0_4 a0_5 a0_6 = some (r1, r2, r3, r4, r5, r6, r7)) :
  Calls Try.prog 47 #[.agg #[.int .i64 a0_0, .int .i64 a0_1, .slice A0_2 l0_2.length c0_2, .slice A0_3 l0_3.length c0_3, .bool a0_4, .bool a0_5, .bool a0_6]] w fun e w' => ∃ v2_ v3_ : Value, e = .returned (.agg #[.int .i64 r1, .int .i64 r2, v2_, v3_, .bool r5, .bool r6, .bool r7]) ∧ Kd.R Kd.bool 4 w' w.heap.size (fun _ => True) v2_ r3 ∧ Kd.R (Kd.int .i64) 3 w' w.heap.size (fun _ => True) v3_ r4 ∧ Below w.heap.size w w' := by
 have hu28 := Try.underlying28
 have HR0_2 := ak hr0_2
 have HC0_2 := ak hc0_2
 clear hr0_2 hc0_2
 have HR0_3 := ak hr0_3
 have HC0_3 := ak hc0_3
 clear hr0_3 hc0_3
 have HB := ak (Below.refl w.heap.size w)
 have H : (if ([] : List Bool).length + l0_2.length < 140737488355328 then (if ([] : List Int).length + l0_3.length < 17592186044416 then (some (a0_0, a0_1, (([] : List Bool) ++ l0_2), (([] : List Int) ++ l0_3), a0_4, a0_5, a0_6)) else (none)) else (none)) = some (r1, r2, r3, r4, r5, r6, r7) := h
 clear h
 by_cases c2 : ([] : List Bool).length + l0_2.length < 140737488355328; rotate_left
 ·rw [if_neg c2] at H
  exact absurd H (by simp)
 rw [if_pos c2] at H
 have LMc2 := ak c2
 clear c2
 obtain ⟨y248, hy248⟩ : ∃ y_ : List Bool, y_ = (([] : List Bool) ++ l0_2) := ⟨_, rfl⟩
 replace H : (if ([] : List Int).length + l0_3.length < 17592186044416 then (some (a0_0, a0_1, y248, (([] : List Int) ++ l0_3), a0_4, a0_5, a0_6)) else (none)) = some (r1, r2, r3, r4, r5, r6, r7) := by first | (rw [hy248]; with_reducible exact H) | (have H2_ := (Option.bind_some _ _).symm.trans H; rw [hy248]; with_reducible exact H2_) | (have H2_ := (Option.bind_some _ _).symm.trans H; with_reducible exact H2_) | with_reducible exact H | (rw [hy248]; exact H) | exact H
 have Ny248 := ak hy248
 clear hy248
 by_cases c3 : ([] : List Int).length + l0_3.length < 17592186044416; rotate_left
 ·rw [if_neg c3] at H
  exact absurd H (by simp)
 rw [if_pos c3] at H
 have LMc3 := ak c3
 clear c3
 obtain ⟨y251, hy251⟩ : ∃ y_ : List Int, y_ = (([] : List Int) ++ l0_3) := ⟨_, rfl⟩
 replace H : (some (a0_0, a0_1, y248, y251, a0_4, a0_5, a0_6)) = some (r1, r2, r3, r4, r5, r6, r7) := by first | (rw [hy251]; with_reducible exact H) | (have H2_ := (Option.bind_some _ _).symm.trans H; rw [hy251]; with_reducible exact H2_) | (have H2_ := (Option.bind_some _ _).symm.trans H; with_reducible exact H2_) | with_reducible exact H | (rw [hy251]; exact H) | exact H
 have Ny251 := ak hy251
 clear hy251
 simp only [Option.some.injEq, Prod.mk.injEq] at H
 obtain ⟨rfl, rfl, rfl, rfl, rfl, rfl, rfl⟩ := H
 go_enter Try.func47, Try.ntmps47
 go_wp2_with (first | ((with_reducible refine gate_dst (N := 1) rfl ?_); refine box_event ?hg (N := 1) ?hd (cs := #[.int .i64 a0_0, .int .i64 a0_1, .slice A0_2 l0_2.length c0_2, .slice A0_3 l0_3.length c0_3, .bool a0_4, .bool a0_5, .bool a0_6]) (t := 28) ?hr ?_; (case hd => rfl); (case hg => rfl); (case hr => go_simp <;> rfl); intro gb246 hg w4 hbox hb; have n0_ := ak (below_step (by repeat (with_reducible first | exact HB.out | apply ba_ | apply bn_ | apply b1_)) hb); have n1_ := ak (hbox); have n2_ := ak ((by rw [hg]; exact (below_size (by repeat (with_reducible first | exact HB.out | apply ba_ | apply bn_ | apply b1_))) : w.heap.size ≤ gb246)); have n3_ := n2_; clear HB; have HB := n0_; have BK246 := n1_; have GW246 := n2_; have GE246 := n3_; clear n0_ n1_ n2_ n3_ hb hbox hg) | ((with_reducible refine gate_dst (N := 2) rfl ?_); refine box_event ?hg (N := 2) ?hd (cs := #[.int .i64 0, .int .i64 0, .slice none 0 0, .slice none 0 0, .bool false, .bool false, .bool false]) (t := 28) ?hr ?_; (case hd => rfl); (case hg => rfl); (case hr => go_simp <;> rfl); intro gb247 hg w5 hbox hb; have n0_ := ak (blk_below (by (with_reducible repeat first | apply kn_ | apply kd_ | apply ka_); exact BK246.out) hb); have n1_ := ak (below_step (by repeat (with_reducible first | exact HB.out | apply ba_ | apply bn_ | apply b1_ | refine bs_ ?_ GE246.out)) hb); have n2_ := ak (hbox); have n3_ := ak ((by rw [hg]; exact (below_size (by repeat (with_reducible first | exact HB.out | apply ba_ | apply bn_ | apply b1_ | refine bs_ ?_ GE246.out))) : w.heap.size ≤ gb247)); have n4_ := n3_; have n5_ := ak ((by rw [hg]; exact Nat.ne_of_lt (blk_lt (g := gb246) (o := .cells #[.int .i64 a0_0, .int .i64 a0_1, .slice A0_2 l0_2.length c0_2, .slice A0_3 l0_3.length c0_3, .bool a0_4, .bool a0_5, .bool a0_6] 28 (0, 0)) (by (with_reducible repeat first | apply kn_ | apply kd_ | apply ka_); exact BK246.out)) : gb246 ≠ gb247)); have n6_ := ak ((by rw [hg]; exact Nat.ne_of_gt (blk_lt (g := gb246) (o := .cells #[.int .i64 a0_0, .int .i64 a0_1, .slice A0_2 l0_2.length c0_2, .slice A0_3 l0_3.length c0_3, .bool a0_4, .bool a0_5, .bool a0_6] 28 (0, 0)) (by (with_reducible repeat first | apply kn_ | apply kd_ | apply ka_); exact BK246.out)) : gb247 ≠ gb246)); clear BK246 HB; have BK246 := n0_; have HB := n1_; have BK247 := n2_; have GW247 := n3_; have GE247 := n4_; have NB246_247 := n5_; have NB247_246 := n6_; clear n0_ n1_ n2_ n3_ n4_ n5_ n6_ hb hbox hg; have hnb6 := NB246_247.out; have hnc6 := NB247_246.out; obtain ⟨z7_0, z7_1, z7_2, z7_3, z7_4, z7_5, z7_6, f7_0, f7_1, f7_2, f7_3, f7_4, f7_5, f7_6⟩ := kk7 BK246.out) | ((with_reducible refine gate_builtin (b := .append) (xs := #[.const (.slice none 0 0), .tmp 4]) rfl ?_); at_builtin; refine Kd.R_append_rows Kd.bool (w0 := w) w.heap.size rfl (.const (.slice none 0 0)) (.tmp 4) 26 4 (.bool false) 1 rfl Try.underlying26 info4 rfl (by decide) (by omega) (.slice none 0 0) ([] : List Bool) l0_2 _ _ _ (fun _ => True) (fun _ => False) rfl rfl ?aO ?aR (fun _ _ h => h) (fun _ h => h.elim) ?aF ?aB ?aS ?aL ?_; (case aR => repeat (first | exact (Kd.C_below HR0_2.out HB.out) | (with_reducible first | refine ca_ ?_ _ | refine cn_ ?_ _ | refine cd_ ?_))); (case aB => exact (by repeat (with_reducible first | exact HB.out | apply ba_ | apply bn_ | apply b1_ | refine bs_ ?_ GE246.out | refine bs_ ?_ GE247.out))); (case aF => exact (fun _ _ => trivial)); (case aO => exact ((Kd.R_nil _ _ _ _ (fun _ => True)))); (case aS => exact (below_size (by repeat (with_reducible first | exact HB.out | apply ba_ | apply bn_ | apply b1_ | refine bs_ ?_ GE246.out | refine bs_ ?_ GE247.out)))); (case aL => have := LMc2.out; omega); intro v249 w8 ho hb hg hat; rw [← Ny248.out] at ho; have n0_ := ak (blk_grown (g := gb246) (o := .cells #[.int .i64 a0_0, .int .i64 a0_1, .slice A0_2 l0_2.length c0_2, .slice A0_3 l0_3.length c0_3, .bool a0_4, .bool a0_5, .bool a0_6] 28 (0, 0)) (by (with_reducible repeat first | apply kn_ | apply kd_ | apply ka_); exact BK246.out) hg (by simp [Value.ownBlock])); have n1_ := ak (blk_grown (g := gb247) (o := .cells #[.int .i64 0, .int .i64 0, .slice none 0 0, .slice none 0 0, .bool false, .bool false, .bool false] 28 (0, 0)) (by (with_reducible repeat first | apply kn_ | apply kd_ | apply ka_); exact BK247.out) hg (by simp [Value.ownBlock])); have n2_ := ak (hb); have n3_ := ak (ho); clear BK246 BK247 HB; have BK246 := n0_; have BK247 := n1_; have HB := n2_; have HO250 := n3_; clear n0_ n1_ n2_ n3_ ho hb hg hat; obtain ⟨Ao9, co9, eo9⟩ := Kd.R_slice HO250.out; subst eo9; obtain ⟨z10_0, z10_1, z10_2, z10_3, z10_4, z10_5, z10_6, f10_0, f10_1, f10_2, f10_3, f10_4, f10_5, f10_6⟩ := kk7 BK246.out) | ((with_reducible refine gate_builtin (b := .append) (xs := #[.const (.slice none 0 0), .tmp 8]) rfl ?_); at_builtin; refine Kd.R_append_rows (Kd.int .i64) (w0 := w) w.heap.size rfl (.const (.slice none 0 0)) (.tmp 8) 23 3 (.int .i64 0) 8 rfl Try.underlying23 info3 rfl (by decide) (by omega) (.slice none 0 0) ([] : List Int) l0_3 _ _ _ (fun _ => True) (fun _ => False) rfl rfl ?aO ?aR (fun _ _ h => h) (fun _ h => h.elim) ?aF ?aB ?aS ?aL ?_; (case aR => exact Kd.C_below HR0_3.out (by repeat (with_reducible first | exact HB.out | apply ba_ | apply bn_ | apply b1_ | refine bs_ ?_ GE246.out | refine bs_ ?_ GE247.out))); (case aB => exact (by repeat (with_reducible first | exact HB.out | apply ba_ | apply bn_ | apply b1_ | refine bs_ ?_ GE246.out | refine bs_ ?_ GE247.out))); (case aF => exact (fun _ _ => trivial)); (case aO => exact ((Kd.R_nil _ _ _ _ (fun _ => True)))); (case aS => exact (below_size (by repeat (with_reducible first | exact HB.out | apply ba_ | apply bn_ | apply b1_ | refine bs_ ?_ GE246.out | refine bs_ ?_ GE247.out)))); (case aL => have := LMc3.out; omega); intro v252 w11 ho hb hg hat; rw [← Ny251.out] at ho; have n0_ := ak (blk_grown (g := gb246) (o := .cells #[.int .i64 a0_0, .int .i64 a0_1, .slice Ao9 y248.length co9, .slice A0_3 l0_3.length c0_3, .bool a0_4, .bool a0_5, .bool a0_6] 28 (0, 0)) (by (with_reducible repeat first | apply kn_ | apply kd_ | apply ka_); refine blk_put (cs := #[.int .i64 a0_0, .int .i64 a0_1, .slice A0_2 l0_2.length c0_2, .slice A0_3 l0_3.length c0_3, .bool a0_4, .bool a0_5, .bool a0_6]) ?_ 2 _ rfl; (with_reducible repeat first | apply kn_ | apply kd_ | apply ka_); exact BK246.out) hg (by simp [Value.ownBlock])); have n1_ := ak (blk_grown (g := gb247) (o := .cells #[.int .i64 0, .int .i64 0, .slice none 0 0, .slice none 0 0, .bool false, .bool false, .bool false] 28 (0, 0)) (by (with_reducible repeat first | apply kn_ | apply kd_ | apply ka_); refine blk_far ?_ NB247_246.out _; (with_reducible repeat first | apply kn_ | apply kd_ | apply ka_); exact BK247.out) hg (by simp [Value.ownBlock])); have n2_ := ak (Kd.R_grown (by (with_reducible repeat (first | apply Kd.R_alloc | apply Kd.R_drewN | apply Kd.R_drew)); exact (Kd.R_mono (Kd.R_far (p := ⟨gb246, 2, none⟩) (Kd.R_types HO250.out BK246.out (by decide)) (fun _ hk => hk.2) (.slice Ao9 y248.length co9)) (fun _ h_ => h_.1))) hg (fun _ _ => by simp [Value.ownBlock])); have n3_ := ak (hb); have n4_ := ak (ho); clear BK246 BK247 HO250 HB; have BK246 := n0_; have BK247 := n1_; have HO250 := n2_; have HB := n3_; have HO253 := n4_; clear n0_ n1_ n2_ n3_ n4_ ho hb hg hat; obtain ⟨Ao12, co12, eo12⟩ := Kd.R_slice HO253.out; subst eo12; obtain ⟨z13_0, z13_1, z13_2, z13_3, z13_4, z13_5, z13_6, f13_0, f13_1, f13_2, f13_3, f13_4, f13_5, f13_6⟩ := kk7 BK246.out; obtain ⟨z14_0, z14_1, z14_2, z14_3, z14_4, z14_5, z14_6, f14_0, f14_1, f14_2, f14_3, f14_4, f14_5, f14_6⟩ := kk7 BK247.out))
 refine bodyPost_ret (results_cell_row rfl _ _ gb247 28 #[.int .i64 a0_0, .int .i64 a0_1, .slice Ao9 y248.length co9, .slice Ao12 y251.length co12, .bool a0_4, .bool a0_5, .bool a0_6] (0, 0) _ rfl (by (with_reducible repeat first | apply kn_ | apply kd_ | apply ka_); refine blk_put (cs := #[.int .i64 a0_0, .int .i64 a0_1, .slice Ao9 y248.length co9, .slice Ao12 y251.length co12, .bool a0_4, .bool a0_5, .bool false]) ?_ 6 _ rfl; (with_reducible repeat first | apply kn_ | apply kd_ | apply ka_); refine blk_put (cs := #[.int .i64 a0_0, .int .i64 a0_1, .slice Ao9 y248.length co9, .slice Ao12 y251.length co12, .bool a0_4, .bool false, .bool false]) ?_ 5 _ rfl; (with_reducible repeat first | apply kn_ | apply kd_ | apply ka_); refine blk_put (cs := #[.int .i64 a0_0, .int .i64 a0_1, .slice Ao9 y248.length co9, .slice Ao12 y251.length co12, .bool false, .bool false, .bool false]) ?_ 4 _ rfl; (with_reducible repeat first | apply kn_ | apply kd_ | apply ka_); refine blk_put (cs := #[.int .i64 a0_0, .int .i64 a0_1, .slice Ao9 y248.length co9, .slice none 0 0, .bool false, .bool false, .bool false]) ?_ 3 _ rfl; (with_reducible repeat first | apply kn_ | apply kd_ | apply ka_); refine blk_put (cs := #[.int .i64 a0_0, .int .i64 a0_1, .slice none 0 0, .slice none 0 0, .bool false, .bool false, .bool false]) ?_ 2 _ rfl; (with_reducible repeat first | apply kn_ | apply kd_ | apply ka_); refine blk_put (cs := #[.int .i64 a0_0, .int .i64 0, .slice none 0 0, .slice none 0 0, .bool false, .bool false, .bool false]) ?_ 1 _ rfl; (with_reducible repeat first | apply kn_ | apply kd_ | apply ka_); refine blk_put (cs := #[.int .i64 0, .int .i64 0, .slice none 0 0, .slice none 0 0, .bool false, .bool false, .bool false]) ?_ 0 _ rfl; (with_reducible repeat first | apply kn_ | apply kd_ | apply ka_); refine blk_far ?_ NB247_246.out _; (with_reducible repeat first | apply kn_ | apply kd_ | apply ka_); exact BK247.out) Try.underlying28 rfl (by kernel_rfl)) rfl ?_
 exact ⟨_, _, by first | rfl | (simp [errW_none, errW_some] <;> rfl) | (simp [*, errW_none, errW_some] <;> rfl) | (simp [Int.tdiv_eq_ediv_of_nonneg]; done), by (with_reducible repeat (first | apply Kd.R_alloc | apply Kd.R_drewN | apply Kd.R_drew)); exact Kd.R_mono (Kd.R_far (p := ⟨gb247, 6, none⟩) (Kd.R_far (p := ⟨gb247, 5, none⟩) (Kd.R_far (p := ⟨gb247, 4, none⟩) (Kd.R_far (p := ⟨gb247, 3, none⟩) (Kd.R_far (p := ⟨gb247, 2, none⟩) (Kd.R_far (p := ⟨gb247, 1, none⟩) (Kd.R_far (p := ⟨gb247, 0, none⟩) (Kd.R_far (p := ⟨gb246, 3, none⟩) (Kd.R_types (Kd.R_types HO250.out BK246.out (by decide)) BK247.out (by decide)) (fun _ hk => hk.1.2) (.slice Ao12 y251.length co12)) (fun _ hk => hk.2) (.int .i64 a0_0)) (fun _ hk => hk.2) (.int .i64 a0_1)) (fun _ hk => hk.2) (.slice Ao9 y248.length co9)) (fun _ hk => hk.2) (.slice Ao12 y251.length co12)) (fun _ hk => hk.2) (.bool a0_4)) (fun _ hk => hk.2) (.bool a0_5)) (fun _ hk => hk.2) (.bool a0_6)) (fun _ hk => trivial), by (with_reducible repeat (first | apply Kd.R_alloc | apply Kd.R_drewN | apply Kd.R_drew)); exact Kd.R_mono (Kd.R_far (p := ⟨gb247, 6, none⟩) (Kd.R_far (p := ⟨gb247, 5, none⟩) (Kd.R_far (p := ⟨gb247, 4, none⟩) (Kd.R_far (p := ⟨gb247, 3, none⟩) (Kd.R_far (p := ⟨gb247, 2, none⟩) (Kd.R_far (p := ⟨gb247, 1, none⟩) (Kd.R_far (p := ⟨gb247, 0, none⟩) (Kd.R_far (p := ⟨gb246, 3, none⟩) (Kd.R_types (Kd.R_types HO253.out BK246.out (by decide)) BK247.out (by decide)) (fun _ hk => hk.1.2) (.slice Ao12 y251.length co12)) (fun _ hk => hk.2) (.int .i64 a0_0)) (fun _ hk => hk.2) (.int .i64 a0_1)) (fun _ hk => hk.2) (.slice Ao9 y248.length co9)) (fun _ hk => hk.2) (.slice Ao12 y251.length co12)) (fun _ hk => hk.2) (.bool a0_4)) (fun _ hk => hk.2) (.bool a0_5)) (fun _ hk => hk.2) (.bool a0_6)) (fun _ hk => trivial), by repeat (with_reducible first | exact HB.out | apply ba_ | apply bn_ | apply b1_ | refine bs_ ?_ GE246.out | refine bs_ ?_ GE247.out)⟩
-- NOT PRINTED: function 48 (atticref19_touch)
/-! ### atticref19_counted: function 46 -/
mutual
def atticref19_counted.l0 : Nat → List Int → List Int → Int → Option (List Int)
 | 0, _, _, _ => none
 | k + 1, x8, x9, x10 => if x10 < (x8.length : Int) then (if 0 ≤ x10 then (if (rd x8 x10) = (-1) then (atticref19_counted.l0 k x8 x9 (wrap64 (x10 + 1))) else (if x9.length < 17592186044416 then (atticref19_counted.l0 k x8 (x9 ++ [rd x8 x10]) (wrap64 (x10 + 1))) else (none))) else (none)) else (some x9)
def atticref19_counted.l1 : Nat → List Int → List Int → Int → Option (List Int)
 | 0, _, _, _ => none
 | k + 1, x8, x9, x10 => if x10 < (x8.length : Int) then (if 0 ≤ x10 then (if (rd x8 x10) = (-1) then (atticref19_counted.l1 k x8 x9 (wrap64 (x10 + 1))) else (if x9.length < 17592186044416 then (atticref19_counted.l1 k x8 (x9 ++ [rd x8 x10]) (wrap64 (x10 + 1))) else (none))) else (none)) else (some x9)
end
def atticref19_counted.f (k : Nat) (l0_0 : List (S56)) (l0_1 : List Int) (l1 : List Bool) (a2 : Int) : Option (List Int) := if 0 ≤ a2 then (if a2 < (l0_0.length : Int) then (if ((rd_T56 l0_0 a2).f0) = 2 then (some ([] : List Int)) else (if ((rd_T56 l0_0 a2).f0) = 3 then (if 0 < (((rd_T56 l0_0 a2).f1).length : Int) then (if (rd ((rd_T56 l0_0 a2).f1) 0) = (-1) then (some ([] : List Int)) else (if 0 ≤ (rd ((rd_T56 l0_0 a2).f1) 0) then (if (rd ((rd_T56 l0_0 a2).f1) 0) < (l1.length : Int) then (if (rdOf false l1 (rd ((rd_T56 l0_0 a2).f1) 0) = true) then (if 1 ≤ (((rd_T56 l0_0 a2).f1).length : Int) then (atticref19_counted.l0 k (((rd_T56 l0_0 a2).f1).drop 1) ([] : List Int) 0) else (none)) else (some ([] : List Int))) else (none)) else (none))) else (none)) else (atticref19_counted.l1 k ((rd_T56 l0_0 a2).f1) ([] : List Int) 0))) else (none)) else (none)
theorem atticref19_counted.mono_l : ∀ k, (∀ y0 y1 y2, LeO (atticref19_counted.l0 k y0 y1 y2) (atticref19_counted.l0 (k + 1) y0 y1 y2)) ∧ (∀ y0 y1 y2, LeO (atticref19_counted.l1 k y0 y1 y2) (atticref19_counted.l1 (k + 1) y0 y1 y2))
 | 0 => ⟨fun _ _ _ r h => by simp [atticref19_counted.l0] at h, fun _ _ _ r h => by simp [atticref19_counted.l1] at h⟩
 | k + 1 => by
  obtain ⟨ih0, ih1⟩ := atticref19_counted.mono_l k
  refine ⟨?_, ?_⟩
  ·intro y0 y1 y2
   unfold atticref19_counted.l0
   repeat' first | (with_reducible first | exact ih0 _ _ _ | exact ih1 _ _ _ | exact LeO.refl _ | exact LeO.none _ | refine LeO.ite ?_ ?_ | refine LeO.bind ?_ (fun _ => ?_)) | exact ih0 _ _ _ | exact ih1 _ _ _ | exact LeO.none _ | refine LeO.ite ?_ ?_ | refine LeO.bind ?_ (fun _ => ?_)
  ·intro y0 y1 y2
   unfold atticref19_counted.l1
   repeat' first | (with_reducible first | exact ih0 _ _ _ | exact ih1 _ _ _ | exact LeO.refl _ | exact LeO.none _ | refine LeO.ite ?_ ?_ | refine LeO.bind ?_ (fun _ => ?_)) | exact ih0 _ _ _ | exact ih1 _ _ _ | exact LeO.none _ | refine LeO.ite ?_ ?_ | refine LeO.bind ?_ (fun _ => ?_)
theorem atticref19_counted.mono : ∀ a0 a1 a2 a3 k, LeO (atticref19_counted.f k a0 a1 a2 a3) (atticref19_counted.f (k + 1) a0 a1 a2 a3) := by
 intro a0 a1 a2 a3 k
 obtain ⟨ih0, ih1⟩ := atticref19_counted.mono_l k
 unfold atticref19_counted.f
 repeat' first | (with_reducible first | exact ih0 _ _ _ | exact ih1 _ _ _ | exact LeO.refl _ | exact LeO.none _ | refine LeO.ite ?_ ?_ | refine LeO.bind ?_ (fun _ => ?_)) | exact ih0 _ _ _ | exact ih1 _ _ _ | exact LeO.none _ | refine LeO.ite ?_ ?_ | refine LeO.bind ?_ (fun _ => ?_)
set_option maxHeartbeats 8000000 in
set_option maxRecDepth 100000 in
theorem atticref19_counted.calls (k : Nat) (A0_0 : Option Addr) (c0_0 : Nat) (l0_0 : List (S56)) (A0_1 : Option Addr) (c0_1 : Nat) (l0_1 : List Int) (A1 : Option Addr) (c1 : Nat) (l1 : List Bool) (a2 : Int) (r : List Int) (w : World) (hr0_0 : Kd.C k56 w A0_0 l0_0.length l0_0) (hc0_0 : l0_0.length ≤ c0_0) (hr0_1 : Kd.C (Kd.int .i64) w A0_1 l0_1.length l0_1) (hc0_1 : l0_1.length ≤ c0_1) (hr1 : Kd.C Kd.bool w A1 l1.length l1) (hc1 : l1.length ≤ c1) (h : atticref19_counted.f k l0_0 l0_1 l1 a2 = some r) :
  Calls Try.prog 46 #[.agg #[.slice A0_0 l0_0.length c0_0, .slice A0_1 l0_1.length c0_1], .slice A1 l1.length c1, .int .i64 a2] w fun e w' => ∃ v0_ : Value, e = .returned (v0_) ∧ Kd.R (Kd.int .i64) 3 w' w.heap.size (fun _ => True) v0_ r ∧ Below w.heap.size w w' := by
 have hu25 := Try.underlying25
 have hu56 := Try.underlying56
 have HR0_0 := ak hr0_0
 have HC0_0 := ak hc0_0
 clear hr0_0 hc0_0
 have HR0_1 := ak hr0_1
 have HC0_1 := ak hc0_1
 clear hr0_1 hc0_1
 have HR1 := ak hr1
 have HC1 := ak hc1
 clear hr1 hc1
 have HB := ak (Below.refl w.heap.size w)
 have H : (if 0 ≤ a2 then (if a2 < (l0_0.length : Int) then (if ((rd_T56 l0_0 a2).f0) = 2 then (some ([] : List Int)) else (if ((rd_T56 l0_0 a2).f0) = 3 then (if 0 < (((rd_T56 l0_0 a2).f1).length : Int) then (if (rd ((rd_T56 l0_0 a2).f1) 0) = (-1) then (some ([] : List Int)) else (if 0 ≤ (rd ((rd_T56 l0_0 a2).f1) 0) then (if (rd ((rd_T56 l0_0 a2).f1) 0) < (l1.length : Int) then (if (rdOf false l1 (rd ((rd_T56 l0_0 a2).f1) 0) = true) then (if 1 ≤ (((rd_T56 l0_0 a2).f1).length : Int) then (atticref19_counted.l0 k (((rd_T56 l0_0 a2).f1).drop 1) ([] : List Int) 0) else (none)) else (some ([] : List Int))) else (none)) else (none))) else (none)) else (atticref19_counted.l1 k ((rd_T56 l0_0 a2).f1) ([] : List Int) 0))) else (none)) else (none)) = some r := h
 clear h
 by_cases c4 : 0 ≤ a2; rotate_left
 ·rw [if_neg c4] at H
  exact absurd H (by simp)
 rw [if_pos c4] at H
 have c4b0 : decide (0 ≤ a2) = true := decide_eq_true c4
 clear c4
 by_cases c5 : a2 < (l0_0.length : Int); rotate_left
 ·rw [if_neg c5] at H
  exact absurd H (by simp)
 rw [if_pos c5] at H
 have c5b0 : decide (a2 < (l0_0.length : Int)) = true := decide_eq_true c5
 clear c5
 by_cases c6 : ((rd_T56 l0_0 a2).f0) = 2
 ·rw [if_pos c6] at H
  have c6b0 : (((rd_T56 l0_0 a2).f0) == 2) = true := beq_iff_eq.mpr c6
  have c6b1 : (((rd_T56 l0_0 a2).f0) != 2) = false := bne_eq_false_iff_eq.mpr c6
  clear c6
  obtain rfl := Option.some.inj H
  go_enter Try.func46, Try.ntmps46
  go_wp2_with (first | ((with_reducible refine gate_dst (N := 3) rfl ?_); refine box_event ?hg (N := 3) ?hd (cs := #[.slice A0_0 l0_0.length c0_0, .slice A0_1 l0_1.length c0_1]) (t := 25) ?hr ?_; (case hd => rfl); (case hg => rfl); (case hr => go_simp <;> rfl); intro gb257 hg w7 hbox hb; have n0_ := ak (below_step (by repeat (with_reducible first | exact HB.out | apply ba_ | apply bn_ | apply b1_)) hb); have n1_ := ak (hbox); have n2_ := ak ((by rw [hg]; exact (below_size (by repeat (with_reducible first | exact HB.out | apply ba_ | apply bn_ | apply b1_))) : w.heap.size ≤ gb257)); have n3_ := n2_; clear HB; have HB := n0_; have BK257 := n1_; have GW257 := n2_; have GE257 := n3_; clear n0_ n1_ n2_ n3_ hb hbox hg; obtain ⟨z8_0, z8_1, f8_0, f8_1⟩ := kk2 BK257.out; have p258 : 0 ≤ (a2 : Int) := of_decide_eq_true (by first | (with_reducible assumption) | assumption); have q258 : a2 < (l0_0.length : Int) := of_decide_eq_true (by first | (with_reducible assumption) | assumption); obtain ⟨ad258, A258_1, c258_1, e258, hx258_0, hx258_1, hl258_1, hi258_1⟩ := at_T56 HR0_0.out a2 p258 q258; cases e258; replace hx258_0 := (HB.out.cell (World.block_lt_of_cell? w _ hx258_0)).trans hx258_0; replace hx258_1 := (HB.out.cell (World.block_lt_of_cell? w _ hx258_1)).trans hx258_1; have HR258_1 := ak hi258_1; have HC258_1 := ak hl258_1; clear hi258_1 hl258_1; replace p258 := eq_true p258; replace q258 := eq_true q258) | ((with_reducible refine gate_dst (N := 7) rfl ?_); refine box_event ?hg (N := 7) ?hd (cs := #[.int .i64 0, .slice none 0 0]) (t := 56) ?hr ?_; (case hd => rfl); (case hg => rfl); (case hr => go_simp <;> rfl); intro gb259 hg w9 hbox hb; have n0_ := ak (blk_below (by (with_reducible repeat first | apply kn_ | apply kd_ | apply ka_); exact BK257.out) hb); have n1_ := ak (below_step (by repeat (with_reducible first | exact HB.out | apply ba_ | apply bn_ | apply b1_ | refine bs_ ?_ GE257.out)) hb); have n2_ := ak (hbox); have n3_ := ak ((by rw [hg]; exact (below_size (by repeat (with_reducible first | exact HB.out | apply ba_ | apply bn_ | apply b1_ | refine bs_ ?_ GE257.out))) : w.heap.size ≤ gb259)); have n4_ := n3_; have n5_ := ak ((by rw [hg]; exact Nat.ne_of_lt (blk_lt (g := gb257) (o := .cells #[.slice (some ad258) l0_0.length c0_0, .slice A0_1 l0_1.length c0_1] 25 (0, 0)) (by (with_reducible repeat first | apply kn_ | apply kd_ | apply ka_); exact BK257.out)) : gb257 ≠ gb259)); have n6_ := ak ((by rw [hg]; exact Nat.ne_of_gt (blk_lt (g := gb257) (o := .cells #[.slice (some ad258) l0_0.length c0_0, .slice A0_1 l0_1.length c0_1] 25 (0, 0)) (by (with_reducible repeat first | apply kn_ | apply kd_ | apply ka_); exact BK257.out)) : gb259 ≠ gb257)); clear BK257 HB; have BK257 := n0_; have HB := n1_; have BK259 := n2_; have GW259 := n3_; have GE259 := n4_; have NB257_259 := n5_; have NB259_257 := n6_; clear n0_ n1_ n2_ n3_ n4_ n5_ n6_ hb hbox hg; have hnb10 := NB259_257.out; have hnc10 := NB257_259.out; obtain ⟨z11_0, z11_1, f11_0, f11_1⟩ := kk2 BK259.out))
  go_ret
  exact ⟨_, by first | rfl | (simp [errW_none, errW_some] <;> rfl) | (simp [*, errW_none, errW_some] <;> rfl) | (simp [Int.tdiv_eq_ediv_of_nonneg]; done), by first | exact Kd.R_nil _ _ _ _ _ | exact Kd.N_nil _ _ _ _ _ | exact Kd.V_nil _ _ _ _ _ | exact Kd.Q_nil _ _ _ _ _ | exact Kd.S_nil _ _ _ _ _, by repeat (with_reducible first | exact HB.out | apply ba_ | apply bn_ | apply b1_ | refine bs_ ?_ GE257.out | refine bs_ ?_ GE259.out)⟩
 rw [if_neg c6] at H
 have c6b0 : (((rd_T56 l0_0 a2).f0) == 2) = false := beq_eq_false_iff_ne.mpr c6
 have c6b1 : (((rd_T56 l0_0 a2).f0) != 2) = true := bne_iff_ne.mpr c6
 by_cases c12 : ((rd_T56 l0_0 a2).f0) = 3; rotate_left
 ·rw [if_neg c12] at H
  have c12b0 : (((rd_T56 l0_0 a2).f0) == 3) = false := beq_eq_false_iff_ne.mpr c12
  have c12b1 : (((rd_T56 l0_0 a2).f0) != 3) = true := bne_iff_ne.mpr c12
  have H' := ak H
  clear H
  go_enter Try.func46, Try.ntmps46
  go_wp2_with (first | ((with_reducible refine gate_dst (N := 3) rfl ?_); refine box_event ?hg (N := 3) ?hd (cs := #[.slice A0_0 l0_0.length c0_0, .slice A0_1 l0_1.length c0_1]) (t := 25) ?hr ?_; (case hd => rfl); (case hg => rfl); (case hr => go_simp <;> rfl); intro gb257 hg w41 hbox hb; have n0_ := ak (below_step (by repeat (with_reducible first | exact HB.out | apply ba_ | apply bn_ | apply b1_)) hb); have n1_ := ak (hbox); have n2_ := ak ((by rw [hg]; exact (below_size (by repeat (with_reducible first | exact HB.out | apply ba_ | apply bn_ | apply b1_))) : w.heap.size ≤ gb257)); have n3_ := n2_; clear HB; have HB := n0_; have BK257 := n1_; have GW257 := n2_; have GE257 := n3_; clear n0_ n1_ n2_ n3_ hb hbox hg; obtain ⟨z42_0, z42_1, f42_0, f42_1⟩ := kk2 BK257.out; have p258 : 0 ≤ (a2 : Int) := of_decide_eq_true (by first | (with_reducible assumption) | assumption); have q258 : a2 < (l0_0.length : Int) := of_decide_eq_true (by first | (with_reducible assumption) | assumption); obtain ⟨ad258, A258_1, c258_1, e258, hx258_0, hx258_1, hl258_1, hi258_1⟩ := at_T56 HR0_0.out a2 p258 q258; cases e258; replace hx258_0 := (HB.out.cell (World.block_lt_of_cell? w _ hx258_0)).trans hx258_0; replace hx258_1 := (HB.out.cell (World.block_lt_of_cell? w _ hx258_1)).trans hx258_1; have HR258_1 := ak hi258_1; have HC258_1 := ak hl258_1; clear hi258_1 hl258_1; replace p258 := eq_true p258; replace q258 := eq_true q258) | ((with_reducible refine gate_dst (N := 7) rfl ?_); refine box_event ?hg (N := 7) ?hd (cs := #[.int .i64 0, .slice none 0 0]) (t := 56) ?hr ?_; (case hd => rfl); (case hg => rfl); (case hr => go_simp <;> rfl); intro gb259 hg w43 hbox hb; have n0_ := ak (blk_below (by (with_reducible repeat first | apply kn_ | apply kd_ | apply ka_); exact BK257.out) hb); have n1_ := ak (below_step (by repeat (with_reducible first | exact HB.out | apply ba_ | apply bn_ | apply b1_ | refine bs_ ?_ GE257.out)) hb); have n2_ := ak (hbox); have n3_ := ak ((by rw [hg]; exact (below_size (by repeat (with_reducible first | exact HB.out | apply ba_ | apply bn_ | apply b1_ | refine bs_ ?_ GE257.out))) : w.heap.size ≤ gb259)); have n4_ := n3_; have n5_ := ak ((by rw [hg]; exact Nat.ne_of_lt (blk_lt (g := gb257) (o := .cells #[.slice (some ad258) l0_0.length c0_0, .slice A0_1 l0_1.length c0_1] 25 (0, 0)) (by (with_reducible repeat first | apply kn_ | apply kd_ | apply ka_); exact BK257.out)) : gb257 ≠ gb259)); have n6_ := ak ((by rw [hg]; exact Nat.ne_of_gt (blk_lt (g := gb257) (o := .cells #[.slice (some ad258) l0_0.length c0_0, .slice A0_1 l0_1.length c0_1] 25 (0, 0)) (by (with_reducible repeat first | apply kn_ | apply kd_ | apply ka_); exact BK257.out)) : gb259 ≠ gb257)); clear BK257 HB; have BK257 := n0_; have HB := n1_; have BK259 := n2_; have GW259 := n3_; have GE259 := n4_; have NB257_259 := n5_; have NB259_257 := n6_; clear n0_ n1_ n2_ n3_ n4_ n5_ n6_ hb hbox hg; have hnb44 := NB259_257.out; have hnc44 := NB257_259.out; obtain ⟨z45_0, z45_1, f45_0, f45_1⟩ := kk2 BK259.out))
  go_loopg [9, 10] k (fun kq v9 v10 w' => ∃ (x9_1 : List Int) (x10_1 : Int), v10 = .int .i64 x10_1 ∧ Aside0 (atticref19_counted.l1 kq ((rd_T56 l0_0 a2).f1) x9_1 x10_1 = some r) ∧ Aside0 (kq ≤ k) ∧ Aside0 (Kd.R (Kd.int .i64) 3 w' w.heap.size (fun _ => True) v9 x9_1) ∧ Aside0 (w'.heap[gb257]? = some (.cells #[(.slice (some ad258) l0_0.length c0_0), (.slice A0_1 l0_1.length c0_1)] 25 (0, 0))) ∧ Aside0 (w'.heap[gb259]? = some (.cells #[.int .i64 ((rd_T56 l0_0 a2).f0), (.slice A258_1 ((rd_T56 l0_0 a2).f1).length c258_1)] 56 (0, 0))) ∧ Aside0 (Below w.heap.size w w'))
  case atStart => exact ⟨(([] : List Int)), (0), (by first | rfl | (simp; done) | (simp [*]; done) | (simp [Int.tdiv_eq_ediv_of_nonneg]; done)), H', ⟨Nat.le_refl _⟩, ⟨by first | exact Kd.R_nil _ _ _ _ _ | exact Kd.N_nil _ _ _ _ _ | exact Kd.V_nil _ _ _ _ _ | exact Kd.Q_nil _ _ _ _ _ | exact Kd.S_nil _ _ _ _ _⟩, ⟨by (with_reducible repeat first | apply kn_ | apply kd_ | apply ka_); refine blk_far ?_ NB257_259.out _; (with_reducible repeat first | apply kn_ | apply kd_ | apply ka_); refine blk_far ?_ NB257_259.out _; (with_reducible repeat first | apply kn_ | apply kd_ | apply ka_); exact BK257.out⟩, ⟨by (with_reducible repeat first | apply kn_ | apply kd_ | apply ka_); refine blk_put (cs := #[.int .i64 ((rd_T56 l0_0 a2).f0), .slice none 0 0]) ?_ 1 _ rfl; (with_reducible repeat first | apply kn_ | apply kd_ | apply ka_); refine blk_put (cs := #[.int .i64 0, .slice none 0 0]) ?_ 0 _ rfl; (with_reducible repeat first | apply kn_ | apply kd_ | apply ka_); exact BK259.out⟩, ⟨by repeat (with_reducible first | exact HB.out | apply ba_ | apply bn_ | apply b1_ | refine bs_ ?_ GE257.out | refine bs_ ?_ GE259.out)⟩⟩
  case round =>
   clear H'
   (try clear c1); (try clear c2); (try clear p2); (try clear q2); (try clear hx2); (try clear qi2); (try clear c3); (try clear c4); (try clear c4b0); (try clear c5); (try clear c5b0); (try clear c6); (try clear c6b0); (try clear c6b1); (try clear p6); (try clear c10); (try clear c12); (try clear c12b0); (try clear c12b1); (try clear c13); (try clear c13b0); (try clear c13b1); (try clear c14); (try clear c14b0); (try clear c14b1); (try clear c18); (try clear c20); (try clear c20b0); (try clear c21); (try clear c21b0); (try clear q22); (try clear c23); (try clear c24); (try clear c24b0); (try clear c24b1); (try clear c25); (try clear p25); (try clear q25); (try clear hx25); (try clear p26); (try clear q26); (try clear hx26); (try clear qi26); (try clear c28); (try clear c31); (try clear c31b0); (try clear c32); (try clear c32b0); (try clear c33); (try clear c33b0); (try clear c33b1); (try clear c34); (try clear c39); (try clear c44); (try clear z11_0 z11_1); (try clear z16_0 z16_1); (try clear z19_0 z19_1); (try clear z26_0 z26_1); (try clear z29_0 z29_1); (try clear z37_0 z37_1); (try clear z40_0 z40_1); (try clear z42_0 z42_1); (try clear z45_0 z45_1); (try clear z8_0 z8_1); (try clear f11_0 f11_1); (try clear f16_0 f16_1); (try clear f19_0 f19_1); (try clear f26_0 f26_1); (try clear f29_0 f29_1); (try clear f37_0 f37_1); (try clear f40_0 f40_1); (try clear f42_0 f42_1); (try clear f45_0 f45_1); (try clear f8_0 f8_1); (try clear hx258_0); (try clear hx258_1); (try clear hx260_0); (try clear hx261_0); (try clear hx262_0); (try clear hx264_0); (try clear hx265_0); (try clear p2); (try clear p25); (try clear p258); (try clear p26); (try clear p260); (try clear p261); (try clear p262); (try clear p264); (try clear p265); (try clear q2); (try clear q22); (try clear q25); (try clear q258); (try clear q26); (try clear q260); (try clear q261); (try clear q262); (try clear q264); (try clear q265)
   obtain ⟨x9_1, x10_1, rfl, HA, HK1, HO_9, BK257, BK259, HB⟩ := hrel
   cases gk with
   | zero => exact absurd HA.out (by simp [atticref19_counted.l1])
   | succ k1 =>
    have H := HA.out
    clear HA
    simp only [atticref19_counted.l1] at H
    by_cases c46 : x10_1 < (((rd_T56 l0_0 a2).f1).length : Int); rotate_left
    ·rw [if_neg c46] at H
     have c46b0 : decide (x10_1 < (((rd_T56 l0_0 a2).f1).length : Int)) = false := decide_eq_false c46
     clear c46
     obtain rfl := Option.some.inj H
     go_wp2
     go_ret
     exact ⟨_, by first | rfl | (simp [errW_none, errW_some] <;> rfl) | (simp [*, errW_none, errW_some] <;> rfl) | (simp [Int.tdiv_eq_ediv_of_nonneg]; done), by (with_reducible repeat (first | apply Kd.R_alloc | apply Kd.R_drewN | apply Kd.R_drew)); exact HO_9.out, by repeat (with_reducible first | exact HB.out | apply ba_ | apply bn_ | apply b1_ | refine bs_ ?_ GE257.out | refine bs_ ?_ GE259.out)⟩
    rw [if_pos c46] at H
    have c46b0 : decide (x10_1 < (((rd_T56 l0_0 a2).f1).length : Int)) = true := decide_eq_true c46
    clear c46
    by_cases c47 : 0 ≤ x10_1; rotate_left
    ·rw [if_neg c47] at H
     exact absurd H (by simp)
    rw [if_pos c47] at H
    have c47b0 : decide (0 ≤ x10_1) = true := decide_eq_true c47
    clear c47
    by_cases c48 : (rd ((rd_T56 l0_0 a2).f1) x10_1) = (-1)
    ·rw [if_pos c48] at H
     have c48b0 : ((rd ((rd_T56 l0_0 a2).f1) x10_1) == (-1)) = true := beq_iff_eq.mpr c48
     have c48b1 : ((rd ((rd_T56 l0_0 a2).f1) x10_1) != (-1)) = false := bne_eq_false_iff_eq.mpr c48
     clear c48
     have H' := ak H
     clear H
     have p269 : 0 ≤ (x10_1 : Int) := of_decide_eq_true (by first | (with_reducible assumption) | assumption)
     have q269 : x10_1 < (((rd_T56 l0_0 a2).f1).length : Int) := of_decide_eq_true (by first | (with_reducible assumption) | assumption)
     obtain ⟨ad269, e269, hx269_0⟩ := Kd.at_int HR258_1.out x10_1 p269 q269
     cases e269
     replace hx269_0 := (HB.out.cell (World.block_lt_of_cell? w _ hx269_0)).trans hx269_0
     replace p269 := eq_true p269
     replace q269 := eq_true q269
     go_wp2
     go_roundg k1
     case measure => have := HK1.out; omega
     case rel => exact ⟨(x9_1), (wrap64 (x10_1 + 1)), (by first | rfl | (simp; done) | (simp [*]; done) | (simp [Int.tdiv_eq_ediv_of_nonneg]; done)), H', ⟨by have := HK1.out; omega⟩, ⟨by (with_reducible repeat (first | apply Kd.R_alloc | apply Kd.R_drewN | apply Kd.R_drew)); exact HO_9.out⟩, ⟨by (with_reducible repeat first | apply kn_ | apply kd_ | apply ka_); exact BK257.out⟩, ⟨by (with_reducible repeat first | apply kn_ | apply kd_ | apply ka_); exact BK259.out⟩, ⟨by repeat (with_reducible first | exact HB.out | apply ba_ | apply bn_ | apply b1_ | refine bs_ ?_ GE257.out | refine bs_ ?_ GE259.out)⟩⟩
    rw [if_neg c48] at H
    have c48b0 : ((rd ((rd_T56 l0_0 a2).f1) x10_1) == (-1)) = false := beq_eq_false_iff_ne.mpr c48
    have c48b1 : ((rd ((rd_T56 l0_0 a2).f1) x10_1) != (-1)) = true := bne_iff_ne.mpr c48
    by_cases c49 : x9_1.length < 17592186044416; rotate_left
    ·rw [if_neg c49] at H
     exact absurd H (by simp)
    rw [if_pos c49] at H
    have LMc49 := ak c49
    clear c49
    obtain ⟨y271, hy271⟩ : ∃ y_ : List Int, y_ = (x9_1 ++ [rd ((rd_T56 l0_0 a2).f1) x10_1]) := ⟨_, rfl⟩
    replace H : (atticref19_counted.l1 k1 ((rd_T56 l0_0 a2).f1) y271 (wrap64 (x10_1 + 1))) = some r := by first | (rw [hy271]; with_reducible exact H) | (have H2_ := (Option.bind_some _ _).symm.trans H; rw [hy271]; with_reducible exact H2_) | (have H2_ := (Option.bind_some _ _).symm.trans H; with_reducible exact H2_) | with_reducible exact H | (rw [hy271]; exact H) | exact H
    have Ny271 := ak hy271
    clear hy271
    have H' := ak H
    clear H
    have p269 : 0 ≤ (x10_1 : Int) := of_decide_eq_true (by first | (with_reducible assumption) | assumption)
    have q269 : x10_1 < (((rd_T56 l0_0 a2).f1).length : Int) := of_decide_eq_true (by first | (with_reducible assumption) | assumption)
    obtain ⟨ad269, e269, hx269_0⟩ := Kd.at_int HR258_1.out x10_1 p269 q269
    cases e269
    replace hx269_0 := (HB.out.cell (World.block_lt_of_cell? w _ hx269_0)).trans hx269_0
    replace p269 := eq_true p269
    replace q269 := eq_true q269
    have p270 : 0 ≤ (x10_1 : Int) := of_decide_eq_true (by first | (with_reducible assumption) | assumption)
    have q270 : x10_1 < (((rd_T56 l0_0 a2).f1).length : Int) := of_decide_eq_true (by first | (with_reducible assumption) | assumption)
    obtain ⟨ad270, e270, hx270_0⟩ := Kd.at_int HR258_1.out x10_1 p270 q270
    obtain rfl : ad269 = ad270 := (by injection e270)
    replace hx270_0 := (HB.out.cell (World.block_lt_of_cell? w _ hx270_0)).trans hx270_0
    replace p270 := eq_true p270
    replace q270 := eq_true q270
    go_wp2_with (first | ((with_reducible refine gate_builtin (b := .append) (xs := #[.tmp 52, .tmp 57]) rfl ?_); at_builtin; refine Kd.R_append (Kd.int .i64) (w0 := w) w.heap.size rfl (.tmp 52) (.tmp 57) 23 3 (.int .i64 0) 8 rfl Try.underlying23 info3 rfl (by decide) (by omega) u9 x9_1 (rd ((rd_T56 l0_0 a2).f1) x10_1) [.int .i64 (rd ((rd_T56 l0_0 a2).f1) x10_1)] (fun _ => True) (fun _ => False) rfl rfl ?aP (fun _ hk => hk.elim) ?aF ?aO ?aB ?aS ?aL ?_; (case aP => exact rfl); (case aB => exact (by repeat (with_reducible first | exact HB.out | apply ba_ | apply bn_ | apply b1_ | refine bs_ ?_ GE257.out | refine bs_ ?_ GE259.out))); (case aF => exact (fun _ _ => trivial)); (case aO => exact (by (with_reducible repeat (first | apply Kd.R_alloc | apply Kd.R_drewN | apply Kd.R_drew)); exact HO_9.out)); (case aS => exact (below_size (by repeat (with_reducible first | exact HB.out | apply ba_ | apply bn_ | apply b1_ | refine bs_ ?_ GE257.out | refine bs_ ?_ GE259.out)))); (case aL => have := LMc49.out; omega); intro v272 w50 ho hb hg hat; rw [← Ny271.out] at ho; have n0_ := ak (blk_grown (g := gb257) (o := .cells #[.slice (some ad258) l0_0.length c0_0, .slice A0_1 l0_1.length c0_1] 25 (0, 0)) (by (with_reducible repeat first | apply kn_ | apply kd_ | apply ka_); exact BK257.out) hg (Kd.R_ne HO_9.out BK257.out (by decide))); have n1_ := ak (blk_grown (g := gb259) (o := .cells #[.int .i64 ((rd_T56 l0_0 a2).f0), .slice (some ad269) ((rd_T56 l0_0 a2).f1).length c258_1] 56 (0, 0)) (by (with_reducible repeat first | apply kn_ | apply kd_ | apply ka_); exact BK259.out) hg (Kd.R_ne HO_9.out BK259.out (by decide))); have n2_ := ak (hb); have n3_ := ak (ho); clear BK257 BK259 HB HO_9; have BK257 := n0_; have BK259 := n1_; have HB := n2_; have HO273 := n3_; clear n0_ n1_ n2_ n3_ ho hb hg hat))
    go_roundg k1
    case measure => have := HK1.out; omega
    case rel => exact ⟨(y271), (wrap64 (x10_1 + 1)), (by first | rfl | (simp; done) | (simp [*]; done) | (simp [Int.tdiv_eq_ediv_of_nonneg]; done)), H', ⟨by have := HK1.out; omega⟩, ⟨by (with_reducible repeat (first | apply Kd.R_alloc | apply Kd.R_drewN | apply Kd.R_drew)); exact HO273.out⟩, ⟨by (with_reducible repeat first | apply kn_ | apply kd_ | apply ka_); exact BK257.out⟩, ⟨by (with_reducible repeat first | apply kn_ | apply kd_ | apply ka_); exact BK259.out⟩, ⟨by repeat (with_reducible first | exact HB.out | apply ba_ | apply bn_ | apply b1_ | refine bs_ ?_ GE257.out | refine bs_ ?_ GE259.out)⟩⟩
 rw [if_pos c12] at H
 have c12b0 : (((rd_T56 l0_0 a2).f0) == 3) = true := beq_iff_eq.mpr c12
 have c12b1 : (((rd_T56 l0_0 a2).f0) != 3) = false := bne_eq_false_iff_eq.mpr c12
 clear c12
 by_cases c13 : 0 < (((rd_T56 l0_0 a2).f1).length : Int); rotate_left
 ·rw [if_neg c13] at H
  exact absurd H (by simp)
 rw [if_pos c13] at H
 have c13b0 : decide (0 < (((rd_T56 l0_0 a2).f1).length : Int)) = true := decide_eq_true c13
 have c13b1 : decide (0 < ((rd_T56 l0_0 a2).f1).length) = true := decide_eq_true (by omega)
 clear c13
 by_cases c14 : (rd ((rd_T56 l0_0 a2).f1) 0) = (-1)
 ·rw [if_pos c14] at H
  have c14b0 : ((rd ((rd_T56 l0_0 a2).f1) 0) == (-1)) = true := beq_iff_eq.mpr c14
  have c14b1 : ((rd ((rd_T56 l0_0 a2).f1) 0) != (-1)) = false := bne_eq_false_iff_eq.mpr c14
  clear c14
  obtain rfl := Option.some.inj H
  go_enter Try.func46, Try.ntmps46
  go_wp2_with (first | ((with_reducible refine gate_dst (N := 3) rfl ?_); refine box_event ?hg (N := 3) ?hd (cs := #[.slice A0_0 l0_0.length c0_0, .slice A0_1 l0_1.length c0_1]) (t := 25) ?hr ?_; (case hd => rfl); (case hg => rfl); (case hr => go_simp <;> rfl); intro gb257 hg w15 hbox hb; have n0_ := ak (below_step (by repeat (with_reducible first | exact HB.out | apply ba_ | apply bn_ | apply b1_)) hb); have n1_ := ak (hbox); have n2_ := ak ((by rw [hg]; exact (below_size (by repeat (with_reducible first | exact HB.out | apply ba_ | apply bn_ | apply b1_))) : w.heap.size ≤ gb257)); have n3_ := n2_; clear HB; have HB := n0_; have BK257 := n1_; have GW257 := n2_; have GE257 := n3_; clear n0_ n1_ n2_ n3_ hb hbox hg; obtain ⟨z16_0, z16_1, f16_0, f16_1⟩ := kk2 BK257.out; have p258 : 0 ≤ (a2 : Int) := of_decide_eq_true (by first | (with_reducible assumption) | assumption); have q258 : a2 < (l0_0.length : Int) := of_decide_eq_true (by first | (with_reducible assumption) | assumption); obtain ⟨ad258, A258_1, c258_1, e258, hx258_0, hx258_1, hl258_1, hi258_1⟩ := at_T56 HR0_0.out a2 p258 q258; cases e258; replace hx258_0 := (HB.out.cell (World.block_lt_of_cell? w _ hx258_0)).trans hx258_0; replace hx258_1 := (HB.out.cell (World.block_lt_of_cell? w _ hx258_1)).trans hx258_1; have HR258_1 := ak hi258_1; have HC258_1 := ak hl258_1; clear hi258_1 hl258_1; replace p258 := eq_true p258; replace q258 := eq_true q258) | ((with_reducible refine gate_dst (N := 7) rfl ?_); refine box_event ?hg (N := 7) ?hd (cs := #[.int .i64 0, .slice none 0 0]) (t := 56) ?hr ?_; (case hd => rfl); (case hg => rfl); (case hr => go_simp <;> rfl); intro gb259 hg w17 hbox hb; have n0_ := ak (blk_below (by (with_reducible repeat first | apply kn_ | apply kd_ | apply ka_); exact BK257.out) hb); have n1_ := ak (below_step (by repeat (with_reducible first | exact HB.out | apply ba_ | apply bn_ | apply b1_ | refine bs_ ?_ GE257.out)) hb); have n2_ := ak (hbox); have n3_ := ak ((by rw [hg]; exact (below_size (by repeat (with_reducible first | exact HB.out | apply ba_ | apply bn_ | apply b1_ | refine bs_ ?_ GE257.out))) : w.heap.size ≤ gb259)); have n4_ := n3_; have n5_ := ak ((by rw [hg]; exact Nat.ne_of_lt (blk_lt (g := gb257) (o := .cells #[.slice (some ad258) l0_0.length c0_0, .slice A0_1 l0_1.length c0_1] 25 (0, 0)) (by (with_reducible repeat first | apply kn_ | apply kd_ | apply ka_); exact BK257.out)) : gb257 ≠ gb259)); have n6_ := ak ((by rw [hg]; exact Nat.ne_of_gt (blk_lt (g := gb257) (o := .cells #[.slice (some ad258) l0_0.length c0_0, .slice A0_1 l0_1.length c0_1] 25 (0, 0)) (by (with_reducible repeat first | apply kn_ | apply kd_ | apply ka_); exact BK257.out)) : gb259 ≠ gb257)); clear BK257 HB; have BK257 := n0_; have HB := n1_; have BK259 := n2_; have GW259 := n3_; have GE259 := n4_; have NB257_259 := n5_; have NB259_257 := n6_; clear n0_ n1_ n2_ n3_ n4_ n5_ n6_ hb hbox hg; have hnb18 := NB259_257.out; have hnc18 := NB257_259.out; obtain ⟨z19_0, z19_1, f19_0, f19_1⟩ := kk2 BK259.out; have p260 : 0 ≤ (0 : Int) := (by omega); have q260 : 0 < (((rd_T56 l0_0 a2).f1).length : Int) := of_decide_eq_true (by first | (with_reducible assumption) | assumption); obtain ⟨ad260, e260, hx260_0⟩ := Kd.at_int HR258_1.out 0 p260 q260; cases e260; have qi260 : (0 < ((rd_T56 l0_0 a2).f1).length) = True := eq_true (by omega); (try rw [show ((0 : Int)).toNat = 0 from rfl] at hx260_0); (try rw [Addr.add_zero'] at hx260_0); have hn260_0 : ad260.block ≠ gb259 := Nat.ne_of_lt (Nat.lt_of_lt_of_le (by have := World.block_lt_of_cell? _ _ hx260_0; first | rwa [add_block] at this | exact this) GW259.out); have hn260_1 : ad260.block ≠ gb259 := Nat.ne_of_lt (Nat.lt_of_lt_of_le (by have := World.block_lt_of_cell? _ _ hx260_0; first | rwa [add_block] at this | exact this) GW259.out); replace hx260_0 := (HB.out.cell (World.block_lt_of_cell? w _ hx260_0)).trans hx260_0; replace hx260_0 := (cell_far (p := ⟨gb259, 0, none⟩) (by first | (rw [add_block]; exact hn260_0) | (show (Addr.add _ _).block ≠ _; rw [add_block]; exact hn260_0) | exact hn260_0) (.int .i64 ((rd_T56 l0_0 a2).f0))).trans hx260_0; replace hx260_0 := (cell_far (p := ⟨gb259, 1, none⟩) (by first | (rw [add_block]; exact hn260_1) | (show (Addr.add _ _).block ≠ _; rw [add_block]; exact hn260_1) | exact hn260_1) (.slice (some ad260) ((rd_T56 l0_0 a2).f1).length c258_1)).trans hx260_0; clear hn260_0 hn260_1; replace p260 := eq_true p260; replace q260 := eq_true q260))
  go_ret
  exact ⟨_, by first | rfl | (simp [errW_none, errW_some] <;> rfl) | (simp [*, errW_none, errW_some] <;> rfl) | (simp [Int.tdiv_eq_ediv_of_nonneg]; done), by first | exact Kd.R_nil _ _ _ _ _ | exact Kd.N_nil _ _ _ _ _ | exact Kd.V_nil _ _ _ _ _ | exact Kd.Q_nil _ _ _ _ _ | exact Kd.S_nil _ _ _ _ _, by repeat (with_reducible first | exact HB.out | apply ba_ | apply bn_ | apply b1_ | refine bs_ ?_ GE257.out | refine bs_ ?_ GE259.out)⟩
 rw [if_neg c14] at H
 have c14b0 : ((rd ((rd_T56 l0_0 a2).f1) 0) == (-1)) = false := beq_eq_false_iff_ne.mpr c14
 have c14b1 : ((rd ((rd_T56 l0_0 a2).f1) 0) != (-1)) = true := bne_iff_ne.mpr c14
 by_cases c20 : 0 ≤ (rd ((rd_T56 l0_0 a2).f1) 0); rotate_left
 ·rw [if_neg c20] at H
  exact absurd H (by simp)
 rw [if_pos c20] at H
 have c20b0 : decide (0 ≤ (rd ((rd_T56 l0_0 a2).f1) 0)) = true := decide_eq_true c20
 clear c20
 by_cases c21 : (rd ((rd_T56 l0_0 a2).f1) 0) < (l1.length : Int); rotate_left
 ·rw [if_neg c21] at H
  exact absurd H (by simp)
 rw [if_pos c21] at H
 have c21b0 : decide ((rd ((rd_T56 l0_0 a2).f1) 0) < (l1.length : Int)) = true := decide_eq_true c21
 clear c21
 obtain ⟨bq22, hbq22⟩ : ∃ b_ : Bool, b_ = (rdOf false l1 (rd ((rd_T56 l0_0 a2).f1) 0)) := ⟨_, rfl⟩
 replace H : (if (bq22 = true) then (if 1 ≤ (((rd_T56 l0_0 a2).f1).length : Int) then (atticref19_counted.l0 k (((rd_T56 l0_0 a2).f1).drop 1) ([] : List Int) 0) else (none)) else (some ([] : List Int))) = some r := by rw [← hbq22] at H; exact H
 have Nbq22 := ak hbq22
 clear hbq22
 by_cases c23 : (bq22 = true); rotate_left
 ·replace c23 := Bool.eq_false_iff.mpr c23
  subst c23
  have H1 : (some ([] : List Int)) = some r := by rw [if_neg (show ¬ (false = true) by decide)] at H; exact H
  clear H
  have H := H1
  clear H1
  obtain rfl := Option.some.inj H
  go_enter Try.func46, Try.ntmps46
  go_wp2_with (first | ((with_reducible refine gate_dst (N := 3) rfl ?_); refine box_event ?hg (N := 3) ?hd (cs := #[.slice A0_0 l0_0.length c0_0, .slice A0_1 l0_1.length c0_1]) (t := 25) ?hr ?_; (case hd => rfl); (case hg => rfl); (case hr => go_simp <;> rfl); intro gb257 hg w36 hbox hb; have n0_ := ak (below_step (by repeat (with_reducible first | exact HB.out | apply ba_ | apply bn_ | apply b1_)) hb); have n1_ := ak (hbox); have n2_ := ak ((by rw [hg]; exact (below_size (by repeat (with_reducible first | exact HB.out | apply ba_ | apply bn_ | apply b1_))) : w.heap.size ≤ gb257)); have n3_ := n2_; clear HB; have HB := n0_; have BK257 := n1_; have GW257 := n2_; have GE257 := n3_; clear n0_ n1_ n2_ n3_ hb hbox hg; obtain ⟨z37_0, z37_1, f37_0, f37_1⟩ := kk2 BK257.out; have p258 : 0 ≤ (a2 : Int) := of_decide_eq_true (by first | (with_reducible assumption) | assumption); have q258 : a2 < (l0_0.length : Int) := of_decide_eq_true (by first | (with_reducible assumption) | assumption); obtain ⟨ad258, A258_1, c258_1, e258, hx258_0, hx258_1, hl258_1, hi258_1⟩ := at_T56 HR0_0.out a2 p258 q258; cases e258; replace hx258_0 := (HB.out.cell (World.block_lt_of_cell? w _ hx258_0)).trans hx258_0; replace hx258_1 := (HB.out.cell (World.block_lt_of_cell? w _ hx258_1)).trans hx258_1; have HR258_1 := ak hi258_1; have HC258_1 := ak hl258_1; clear hi258_1 hl258_1; replace p258 := eq_true p258; replace q258 := eq_true q258) | ((with_reducible refine gate_dst (N := 7) rfl ?_); refine box_event ?hg (N := 7) ?hd (cs := #[.int .i64 0, .slice none 0 0]) (t := 56) ?hr ?_; (case hd => rfl); (case hg => rfl); (case hr => go_simp <;> rfl); intro gb259 hg w38 hbox hb; have n0_ := ak (blk_below (by (with_reducible repeat first | apply kn_ | apply kd_ | apply ka_); exact BK257.out) hb); have n1_ := ak (below_step (by repeat (with_reducible first | exact HB.out | apply ba_ | apply bn_ | apply b1_ | refine bs_ ?_ GE257.out)) hb); have n2_ := ak (hbox); have n3_ := ak ((by rw [hg]; exact (below_size (by repeat (with_reducible first | exact HB.out | apply ba_ | apply bn_ | apply b1_ | refine bs_ ?_ GE257.out))) : w.heap.size ≤ gb259)); have n4_ := n3_; have n5_ := ak ((by rw [hg]; exact Nat.ne_of_lt (blk_lt (g := gb257) (o := .cells #[.slice (some ad258) l0_0.length c0_0, .slice A0_1 l0_1.length c0_1] 25 (0, 0)) (by (with_reducible repeat first | apply kn_ | apply kd_ | apply ka_); exact BK257.out)) : gb257 ≠ gb259)); have n6_ := ak ((by rw [hg]; exact Nat.ne_of_gt (blk_lt (g := gb257) (o := .cells #[.slice (some ad258) l0_0.length c0_0, .slice A0_1 l0_1.length c0_1] 25 (0, 0)) (by (with_reducible repeat first | apply kn_ | apply kd_ | apply ka_); exact BK257.out)) : gb259 ≠ gb257)); clear BK257 HB; have BK257 := n0_; have HB := n1_; have BK259 := n2_; have GW259 := n3_; have GE259 := n4_; have NB257_259 := n5_; have NB259_257 := n6_; clear n0_ n1_ n2_ n3_ n4_ n5_ n6_ hb hbox hg; have hnb39 := NB259_257.out; have hnc39 := NB257_259.out; obtain ⟨z40_0, z40_1, f40_0, f40_1⟩ := kk2 BK259.out; have p260 : 0 ≤ (0 : Int) := (by omega); have q260 : 0 < (((rd_T56 l0_0 a2).f1).length : Int) := of_decide_eq_true (by first | (with_reducible assumption) | assumption); obtain ⟨ad260, e260, hx260_0⟩ := Kd.at_int HR258_1.out 0 p260 q260; cases e260; have qi260 : (0 < ((rd_T56 l0_0 a2).f1).length) = True := eq_true (by omega); (try rw [show ((0 : Int)).toNat = 0 from rfl] at hx260_0); (try rw [Addr.add_zero'] at hx260_0); have hn260_0 : ad260.block ≠ gb259 := Nat.ne_of_lt (Nat.lt_of_lt_of_le (by have := World.block_lt_of_cell? _ _ hx260_0; first | rwa [add_block] at this | exact this) GW259.out); have hn260_1 : ad260.block ≠ gb259 := Nat.ne_of_lt (Nat.lt_of_lt_of_le (by have := World.block_lt_of_cell? _ _ hx260_0; first | rwa [add_block] at this | exact this) GW259.out); replace hx260_0 := (HB.out.cell (World.block_lt_of_cell? w _ hx260_0)).trans hx260_0; replace hx260_0 := (cell_far (p := ⟨gb259, 0, none⟩) (by first | (rw [add_block]; exact hn260_0) | (show (Addr.add _ _).block ≠ _; rw [add_block]; exact hn260_0) | exact hn260_0) (.int .i64 ((rd_T56 l0_0 a2).f0))).trans hx260_0; replace hx260_0 := (cell_far (p := ⟨gb259, 1, none⟩) (by first | (rw [add_block]; exact hn260_1) | (show (Addr.add _ _).block ≠ _; rw [add_block]; exact hn260_1) | exact hn260_1) (.slice (some ad260) ((rd_T56 l0_0 a2).f1).length c258_1)).trans hx260_0; clear hn260_0 hn260_1; replace p260 := eq_true p260; replace q260 := eq_true q260; have p261 : 0 ≤ (0 : Int) := (by omega); have q261 : 0 < (((rd_T56 l0_0 a2).f1).length : Int) := of_decide_eq_true (by first | (with_reducible assumption) | assumption); obtain ⟨ad261, e261, hx261_0⟩ := Kd.at_int HR258_1.out 0 p261 q261; obtain rfl : ad260 = ad261 := (by injection e261); have qi261 : (0 < ((rd_T56 l0_0 a2).f1).length) = True := eq_true (by omega); (try rw [show ((0 : Int)).toNat = 0 from rfl] at hx261_0); (try rw [Addr.add_zero'] at hx261_0); have hn261_0 : ad260.block ≠ gb259 := Nat.ne_of_lt (Nat.lt_of_lt_of_le (by have := World.block_lt_of_cell? _ _ hx261_0; first | rwa [add_block] at this | exact this) GW259.out); have hn261_1 : ad260.block ≠ gb259 := Nat.ne_of_lt (Nat.lt_of_lt_of_le (by have := World.block_lt_of_cell? _ _ hx261_0; first | rwa [add_block] at this | exact this) GW259.out); replace hx261_0 := (HB.out.cell (World.block_lt_of_cell? w _ hx261_0)).trans hx261_0; replace hx261_0 := (cell_far (p := ⟨gb259, 0, none⟩) (by first | (rw [add_block]; exact hn261_0) | (show (Addr.add _ _).block ≠ _; rw [add_block]; exact hn261_0) | exact hn261_0) (.int .i64 ((rd_T56 l0_0 a2).f0))).trans hx261_0; replace hx261_0 := (cell_far (p := ⟨gb259, 1, none⟩) (by first | (rw [add_block]; exact hn261_1) | (show (Addr.add _ _).block ≠ _; rw [add_block]; exact hn261_1) | exact hn261_1) (.slice (some ad260) ((rd_T56 l0_0 a2).f1).length c258_1)).trans hx261_0; clear hn261_0 hn261_1; replace p261 := eq_true p261; replace q261 := eq_true q261; have p262 : 0 ≤ ((rd ((rd_T56 l0_0 a2).f1) 0) : Int) := of_decide_eq_true (by first | (with_reducible assumption) | assumption); have q262 : (rd ((rd_T56 l0_0 a2).f1) 0) < (l1.length : Int) := of_decide_eq_true (by first | (with_reducible assumption) | assumption); obtain ⟨ad262, e262, hx262_0⟩ := Kd.at_bool HR1.out (rd ((rd_T56 l0_0 a2).f1) 0) p262 q262; (try rw [← Nbq22.out] at hx262_0); cases e262; have hn262_0 : ad262.block ≠ gb259 := Nat.ne_of_lt (Nat.lt_of_lt_of_le (by have := World.block_lt_of_cell? _ _ hx262_0; first | rwa [add_block] at this | exact this) GW259.out); have hn262_1 : ad262.block ≠ gb259 := Nat.ne_of_lt (Nat.lt_of_lt_of_le (by have := World.block_lt_of_cell? _ _ hx262_0; first | rwa [add_block] at this | exact this) GW259.out); replace hx262_0 := (HB.out.cell (World.block_lt_of_cell? w _ hx262_0)).trans hx262_0; replace hx262_0 := (cell_far (p := ⟨gb259, 0, none⟩) (by first | (rw [add_block]; exact hn262_0) | (show (Addr.add _ _).block ≠ _; rw [add_block]; exact hn262_0) | exact hn262_0) (.int .i64 ((rd_T56 l0_0 a2).f0))).trans hx262_0; replace hx262_0 := (cell_far (p := ⟨gb259, 1, none⟩) (by first | (rw [add_block]; exact hn262_1) | (show (Addr.add _ _).block ≠ _; rw [add_block]; exact hn262_1) | exact hn262_1) (.slice (some ad260) ((rd_T56 l0_0 a2).f1).length c258_1)).trans hx262_0; clear hn262_0 hn262_1; replace p262 := eq_true p262; replace q262 := eq_true q262))
  go_ret
  exact ⟨_, by first | rfl | (simp [errW_none, errW_some] <;> rfl) | (simp [*, errW_none, errW_some] <;> rfl) | (simp [Int.tdiv_eq_ediv_of_nonneg]; done), by first | exact Kd.R_nil _ _ _ _ _ | exact Kd.N_nil _ _ _ _ _ | exact Kd.V_nil _ _ _ _ _ | exact Kd.Q_nil _ _ _ _ _ | exact Kd.S_nil _ _ _ _ _, by repeat (with_reducible first | exact HB.out | apply ba_ | apply bn_ | apply b1_ | refine bs_ ?_ GE257.out | refine bs_ ?_ GE259.out)⟩
 subst c23
 have H1 : (if 1 ≤ (((rd_T56 l0_0 a2).f1).length : Int) then (atticref19_counted.l0 k (((rd_T56 l0_0 a2).f1).drop 1) ([] : List Int) 0) else (none)) = some r := by rw [if_pos rfl] at H; exact H
 clear H
 have H := H1
 clear H1
 by_cases c24 : 1 ≤ (((rd_T56 l0_0 a2).f1).length : Int); rotate_left
 ·rw [if_neg c24] at H
  exact absurd H (by simp)
 rw [if_pos c24] at H
 have c24b0 := eq_true c24
 have c24b1 : decide (1 ≤ (((rd_T56 l0_0 a2).f1).length : Int)) = true := decide_eq_true c24
 clear c24
 have H' := ak H
 clear H
 go_enter Try.func46, Try.ntmps46
 go_wp2_with (first | ((with_reducible refine gate_dst (N := 3) rfl ?_); refine box_event ?hg (N := 3) ?hd (cs := #[.slice A0_0 l0_0.length c0_0, .slice A0_1 l0_1.length c0_1]) (t := 25) ?hr ?_; (case hd => rfl); (case hg => rfl); (case hr => go_simp <;> rfl); intro gb257 hg w25 hbox hb; have n0_ := ak (below_step (by repeat (with_reducible first | exact HB.out | apply ba_ | apply bn_ | apply b1_)) hb); have n1_ := ak (hbox); have n2_ := ak ((by rw [hg]; exact (below_size (by repeat (with_reducible first | exact HB.out | apply ba_ | apply bn_ | apply b1_))) : w.heap.size ≤ gb257)); have n3_ := n2_; clear HB; have HB := n0_; have BK257 := n1_; have GW257 := n2_; have GE257 := n3_; clear n0_ n1_ n2_ n3_ hb hbox hg; obtain ⟨z26_0, z26_1, f26_0, f26_1⟩ := kk2 BK257.out; have p258 : 0 ≤ (a2 : Int) := of_decide_eq_true (by first | (with_reducible assumption) | assumption); have q258 : a2 < (l0_0.length : Int) := of_decide_eq_true (by first | (with_reducible assumption) | assumption); obtain ⟨ad258, A258_1, c258_1, e258, hx258_0, hx258_1, hl258_1, hi258_1⟩ := at_T56 HR0_0.out a2 p258 q258; cases e258; replace hx258_0 := (HB.out.cell (World.block_lt_of_cell? w _ hx258_0)).trans hx258_0; replace hx258_1 := (HB.out.cell (World.block_lt_of_cell? w _ hx258_1)).trans hx258_1; have HR258_1 := ak hi258_1; have HC258_1 := ak hl258_1; clear hi258_1 hl258_1; replace p258 := eq_true p258; replace q258 := eq_true q258) | ((with_reducible refine gate_dst (N := 7) rfl ?_); refine box_event ?hg (N := 7) ?hd (cs := #[.int .i64 0, .slice none 0 0]) (t := 56) ?hr ?_; (case hd => rfl); (case hg => rfl); (case hr => go_simp <;> rfl); intro gb259 hg w27 hbox hb; have n0_ := ak (blk_below (by (with_reducible repeat first | apply kn_ | apply kd_ | apply ka_); exact BK257.out) hb); have n1_ := ak (below_step (by repeat (with_reducible first | exact HB.out | apply ba_ | apply bn_ | apply b1_ | refine bs_ ?_ GE257.out)) hb); have n2_ := ak (hbox); have n3_ := ak ((by rw [hg]; exact (below_size (by repeat (with_reducible first | exact HB.out | apply ba_ | apply bn_ | apply b1_ | refine bs_ ?_ GE257.out))) : w.heap.size ≤ gb259)); have n4_ := n3_; have n5_ := ak ((by rw [hg]; exact Nat.ne_of_lt (blk_lt (g := gb257) (o := .cells #[.slice (some ad258) l0_0.length c0_0, .slice A0_1 l0_1.length c0_1] 25 (0, 0)) (by (with_reducible repeat first | apply kn_ | apply kd_ | apply ka_); exact BK257.out)) : gb257 ≠ gb259)); have n6_ := ak ((by rw [hg]; exact Nat.ne_of_gt (blk_lt (g := gb257) (o := .cells #[.slice (some ad258) l0_0.length c0_0, .slice A0_1 l0_1.length c0_1] 25 (0, 0)) (by (with_reducible repeat first | apply kn_ | apply kd_ | apply ka_); exact BK257.out)) : gb259 ≠ gb257)); clear BK257 HB; have BK257 := n0_; have HB := n1_; have BK259 := n2_; have GW259 := n3_; have GE259 := n4_; have NB257_259 := n5_; have NB259_257 := n6_; clear n0_ n1_ n2_ n3_ n4_ n5_ n6_ hb hbox hg; have hnb28 := NB259_257.out; have hnc28 := NB257_259.out; obtain ⟨z29_0, z29_1, f29_0, f29_1⟩ := kk2 BK259.out; have p260 : 0 ≤ (0 : Int) := (by omega); have q260 : 0 < (((rd_T56 l0_0 a2).f1).length : Int) := of_decide_eq_true (by first | (with_reducible assumption) | assumption); obtain ⟨ad260, e260, hx260_0⟩ := Kd.at_int HR258_1.out 0 p260 q260; cases e260; have qi260 : (0 < ((rd_T56 l0_0 a2).f1).length) = True := eq_true (by omega); (try rw [show ((0 : Int)).toNat = 0 from rfl] at hx260_0); (try rw [Addr.add_zero'] at hx260_0); have hn260_0 : ad260.block ≠ gb259 := Nat.ne_of_lt (Nat.lt_of_lt_of_le (by have := World.block_lt_of_cell? _ _ hx260_0; first | rwa [add_block] at this | exact this) GW259.out); have hn260_1 : ad260.block ≠ gb259 := Nat.ne_of_lt (Nat.lt_of_lt_of_le (by have := World.block_lt_of_cell? _ _ hx260_0; first | rwa [add_block] at this | exact this) GW259.out); replace hx260_0 := (HB.out.cell (World.block_lt_of_cell? w _ hx260_0)).trans hx260_0; replace hx260_0 := (cell_far (p := ⟨gb259, 0, none⟩) (by first | (rw [add_block]; exact hn260_0) | (show (Addr.add _ _).block ≠ _; rw [add_block]; exact hn260_0) | exact hn260_0) (.int .i64 ((rd_T56 l0_0 a2).f0))).trans hx260_0; replace hx260_0 := (cell_far (p := ⟨gb259, 1, none⟩) (by first | (rw [add_block]; exact hn260_1) | (show (Addr.add _ _).block ≠ _; rw [add_block]; exact hn260_1) | exact hn260_1) (.slice (some ad260) ((rd_T56 l0_0 a2).f1).length c258_1)).trans hx260_0; clear hn260_0 hn260_1; replace p260 := eq_true p260; replace q260 := eq_true q260; have p261 : 0 ≤ (0 : Int) := (by omega); have q261 : 0 < (((rd_T56 l0_0 a2).f1).length : Int) := of_decide_eq_true (by first | (with_reducible assumption) | assumption); obtain ⟨ad261, e261, hx261_0⟩ := Kd.at_int HR258_1.out 0 p261 q261; obtain rfl : ad260 = ad261 := (by injection e261); have qi261 : (0 < ((rd_T56 l0_0 a2).f1).length) = True := eq_true (by omega); (try rw [show ((0 : Int)).toNat = 0 from rfl] at hx261_0); (try rw [Addr.add_zero'] at hx261_0); have hn261_0 : ad260.block ≠ gb259 := Nat.ne_of_lt (Nat.lt_of_lt_of_le (by have := World.block_lt_of_cell? _ _ hx261_0; first | rwa [add_block] at this | exact this) GW259.out); have hn261_1 : ad260.block ≠ gb259 := Nat.ne_of_lt (Nat.lt_of_lt_of_le (by have := World.block_lt_of_cell? _ _ hx261_0; first | rwa [add_block] at this | exact this) GW259.out); replace hx261_0 := (HB.out.cell (World.block_lt_of_cell? w _ hx261_0)).trans hx261_0; replace hx261_0 := (cell_far (p := ⟨gb259, 0, none⟩) (by first | (rw [add_block]; exact hn261_0) | (show (Addr.add _ _).block ≠ _; rw [add_block]; exact hn261_0) | exact hn261_0) (.int .i64 ((rd_T56 l0_0 a2).f0))).trans hx261_0; replace hx261_0 := (cell_far (p := ⟨gb259, 1, none⟩) (by first | (rw [add_block]; exact hn261_1) | (show (Addr.add _ _).block ≠ _; rw [add_block]; exact hn261_1) | exact hn261_1) (.slice (some ad260) ((rd_T56 l0_0 a2).f1).length c258_1)).trans hx261_0; clear hn261_0 hn261_1; replace p261 := eq_true p261; replace q261 := eq_true q261; have p262 : 0 ≤ ((rd ((rd_T56 l0_0 a2).f1) 0) : Int) := of_decide_eq_true (by first | (with_reducible assumption) | assumption); have q262 : (rd ((rd_T56 l0_0 a2).f1) 0) < (l1.length : Int) := of_decide_eq_true (by first | (with_reducible assumption) | assumption); obtain ⟨ad262, e262, hx262_0⟩ := Kd.at_bool HR1.out (rd ((rd_T56 l0_0 a2).f1) 0) p262 q262; (try rw [← Nbq22.out] at hx262_0); cases e262; have hn262_0 : ad262.block ≠ gb259 := Nat.ne_of_lt (Nat.lt_of_lt_of_le (by have := World.block_lt_of_cell? _ _ hx262_0; first | rwa [add_block] at this | exact this) GW259.out); have hn262_1 : ad262.block ≠ gb259 := Nat.ne_of_lt (Nat.lt_of_lt_of_le (by have := World.block_lt_of_cell? _ _ hx262_0; first | rwa [add_block] at this | exact this) GW259.out); replace hx262_0 := (HB.out.cell (World.block_lt_of_cell? w _ hx262_0)).trans hx262_0; replace hx262_0 := (cell_far (p := ⟨gb259, 0, none⟩) (by first | (rw [add_block]; exact hn262_0) | (show (Addr.add _ _).block ≠ _; rw [add_block]; exact hn262_0) | exact hn262_0) (.int .i64 ((rd_T56 l0_0 a2).f0))).trans hx262_0; replace hx262_0 := (cell_far (p := ⟨gb259, 1, none⟩) (by first | (rw [add_block]; exact hn262_1) | (show (Addr.add _ _).block ≠ _; rw [add_block]; exact hn262_1) | exact hn262_1) (.slice (some ad260) ((rd_T56 l0_0 a2).f1).length c258_1)).trans hx262_0; clear hn262_0 hn262_1; replace p262 := eq_true p262; replace q262 := eq_true q262; obtain ⟨i030, hi030, _, hsz30, _⟩ := info_parts info3; obtain ⟨A30, hcut30, hA30, hC30⟩ := print_drop_of (P := Try.prog) (Value.int .i64) 0 23 3 .i64 Try.underlying23 hi030 hsz30 (some ad260) c258_1 ((rd_T56 l0_0 a2).f1) 1 (by omega) (of_decide_eq_true (by first | (with_reducible assumption) | assumption)) HC258_1.out; have HR263 := ak (Kd.C_of_reads (h1 := fun _ => rfl) (hA30 _ (Kd.reads_of_C HR258_1.out))); have HC263 := ak hC30; clear hA30 hC30 hi030 hsz30))
 go_loopg [9, 10] k (fun kq v9 v10 w' => ∃ (x9_1 : List Int) (x10_1 : Int), v10 = .int .i64 x10_1 ∧ Aside0 (atticref19_counted.l0 kq (((rd_T56 l0_0 a2).f1).drop 1) x9_1 x10_1 = some r) ∧ Aside0 (kq ≤ k) ∧ Aside0 (Kd.R (Kd.int .i64) 3 w' w.heap.size (fun _ => True) v9 x9_1) ∧ Aside0 (w'.heap[gb257]? = some (.cells #[(.slice (some ad258) l0_0.length c0_0), (.slice A0_1 l0_1.length c0_1)] 25 (0, 0))) ∧ Aside0 (w'.heap[gb259]? = some (.cells #[.int .i64 ((rd_T56 l0_0 a2).f0), (.slice (some ad260) ((rd_T56 l0_0 a2).f1).length c258_1)] 56 (0, 0))) ∧ Aside0 (Below w.heap.size w w'))
 case atStart => exact ⟨(([] : List Int)), (0), (by first | rfl | (simp; done) | (simp [*]; done) | (simp [Int.tdiv_eq_ediv_of_nonneg]; done)), H', ⟨Nat.le_refl _⟩, ⟨by first | exact Kd.R_nil _ _ _ _ _ | exact Kd.N_nil _ _ _ _ _ | exact Kd.V_nil _ _ _ _ _ | exact Kd.Q_nil _ _ _ _ _ | exact Kd.S_nil _ _ _ _ _⟩, ⟨by (with_reducible repeat first | apply kn_ | apply kd_ | apply ka_); refine blk_far ?_ NB257_259.out _; (with_reducible repeat first | apply kn_ | apply kd_ | apply ka_); refine blk_far ?_ NB257_259.out _; (with_reducible repeat first | apply kn_ | apply kd_ | apply ka_); exact BK257.out⟩, ⟨by (with_reducible repeat first | apply kn_ | apply kd_ | apply ka_); refine blk_put (cs := #[.int .i64 ((rd_T56 l0_0 a2).f0), .slice none 0 0]) ?_ 1 _ rfl; (with_reducible repeat first | apply kn_ | apply kd_ | apply ka_); refine blk_put (cs := #[.int .i64 0, .slice none 0 0]) ?_ 0 _ rfl; (with_reducible repeat first | apply kn_ | apply kd_ | apply ka_); exact BK259.out⟩, ⟨by repeat (with_reducible first | exact HB.out | apply ba_ | apply bn_ | apply b1_ | refine bs_ ?_ GE257.out | refine bs_ ?_ GE259.out)⟩⟩
 case round =>
  clear H'
  (try clear c1); (try clear c2); (try clear p2); (try clear q2); (try clear hx2); (try clear qi2); (try clear c4); (try clear c4b0); (try clear c5); (try clear c5b0); (try clear c6); (try clear c6b0); (try clear c6b1); (try clear c10); (try clear c12); (try clear c12b0); (try clear c12b1); (try clear c13); (try clear c13b0); (try clear c13b1); (try clear c14); (try clear c14b0); (try clear c14b1); (try clear c18); (try clear c20); (try clear c20b0); (try clear c21); (try clear c21b0); (try clear q22); (try clear c23); (try clear c24); (try clear c24b0); (try clear c24b1); (try clear c25); (try clear p25); (try clear q25); (try clear hx25); (try clear p26); (try clear q26); (try clear hx26); (try clear qi26); (try clear c28); (try clear z11_0 z11_1); (try clear z16_0 z16_1); (try clear z19_0 z19_1); (try clear z26_0 z26_1); (try clear z29_0 z29_1); (try clear z8_0 z8_1); (try clear f11_0 f11_1); (try clear f16_0 f16_1); (try clear f19_0 f19_1); (try clear f26_0 f26_1); (try clear f29_0 f29_1); (try clear f8_0 f8_1); (try clear hx258_0); (try clear hx258_1); (try clear hx260_0); (try clear hx261_0); (try clear hx262_0); (try clear p258); (try clear p260); (try clear p261); (try clear p262); (try clear q258); (try clear q260); (try clear q261); (try clear q262)
  obtain ⟨x9_1, x10_1, rfl, HA, HK1, HO_9, BK257, BK259, HB⟩ := hrel
  cases gk with
  | zero => exact absurd HA.out (by simp [atticref19_counted.l0])
  | succ k1 =>
   have H := HA.out
   clear HA
   simp only [atticref19_counted.l0] at H
   rw [show rd (((rd_T56 l0_0 a2).f1).drop 1) x10_1 = rd (((rd_T56 l0_0 a2).f1).tail) x10_1 from by rw [List.drop_one]] at H
   by_cases c31 : x10_1 < ((((rd_T56 l0_0 a2).f1).drop 1).length : Int); rotate_left
   ·rw [if_neg c31] at H
    have c31b0 : decide (x10_1 < ((((rd_T56 l0_0 a2).f1).drop 1).length : Int)) = false := decide_eq_false c31
    have c31b9 : decide (x10_1 < ((((rd_T56 l0_0 a2).f1).length - 1 : Nat) : Int)) = false := by rw [← List.length_drop]; exact c31b0
    clear c31
    obtain rfl := Option.some.inj H
    go_wp2
    go_ret
    exact ⟨_, by first | rfl | (simp [errW_none, errW_some] <;> rfl) | (simp [*, errW_none, errW_some] <;> rfl) | (simp [Int.tdiv_eq_ediv_of_nonneg]; done), by (with_reducible repeat (first | apply Kd.R_alloc | apply Kd.R_drewN | apply Kd.R_drew)); exact HO_9.out, by repeat (with_reducible first | exact HB.out | apply ba_ | apply bn_ | apply b1_ | refine bs_ ?_ GE257.out | refine bs_ ?_ GE259.out)⟩
   rw [if_pos c31] at H
   have c31b0 : decide (x10_1 < ((((rd_T56 l0_0 a2).f1).drop 1).length : Int)) = true := decide_eq_true c31
   have c31b9 : decide (x10_1 < ((((rd_T56 l0_0 a2).f1).length - 1 : Nat) : Int)) = true := by rw [← List.length_drop]; exact c31b0
   clear c31
   by_cases c32 : 0 ≤ x10_1; rotate_left
   ·rw [if_neg c32] at H
    exact absurd H (by simp)
   rw [if_pos c32] at H
   have c32b0 : decide (0 ≤ x10_1) = true := decide_eq_true c32
   clear c32
   by_cases c33 : (rd (((rd_T56 l0_0 a2).f1).tail) x10_1) = (-1)
   ·rw [if_pos c33] at H
    have c33b0 : ((rd (((rd_T56 l0_0 a2).f1).tail) x10_1) == (-1)) = true := beq_iff_eq.mpr c33
    have c33b1 : ((rd (((rd_T56 l0_0 a2).f1).tail) x10_1) != (-1)) = false := bne_eq_false_iff_eq.mpr c33
    clear c33
    have H' := ak H
    clear H
    have p264 : 0 ≤ (x10_1 : Int) := of_decide_eq_true (by first | (with_reducible assumption) | assumption)
    have q264 : x10_1 < ((((rd_T56 l0_0 a2).f1).drop 1).length : Int) := of_decide_eq_true (by first | (with_reducible assumption) | assumption)
    have q264z : (x10_1 < ((((rd_T56 l0_0 a2).f1).length - 1 : Nat) : Int)) = True := eq_true (by rw [← List.length_drop]; exact q264)
    obtain ⟨ad264, e264, hx264_0⟩ := Kd.at_int HR263.out x10_1 p264 q264
    rw [show (Int.toNat 1) = 1 from rfl, List.drop_one] at hx264_0
    cases e264
    replace hx264_0 := (HB.out.cell (World.block_lt_of_cell? w _ hx264_0)).trans hx264_0
    replace p264 := eq_true p264
    replace q264 := eq_true q264
    go_wp2
    go_roundg k1
    case measure => have := HK1.out; omega
    case rel => exact ⟨(x9_1), (wrap64 (x10_1 + 1)), (by first | rfl | (simp; done) | (simp [*]; done) | (simp [Int.tdiv_eq_ediv_of_nonneg]; done)), H', ⟨by have := HK1.out; omega⟩, ⟨by (with_reducible repeat (first | apply Kd.R_alloc | apply Kd.R_drewN | apply Kd.R_drew)); exact HO_9.out⟩, ⟨by (with_reducible repeat first | apply kn_ | apply kd_ | apply ka_); exact BK257.out⟩, ⟨by (with_reducible repeat first | apply kn_ | apply kd_ | apply ka_); exact BK259.out⟩, ⟨by repeat (with_reducible first | exact HB.out | apply ba_ | apply bn_ | apply b1_ | refine bs_ ?_ GE257.out | refine bs_ ?_ GE259.out)⟩⟩
   rw [if_neg c33] at H
   have c33b0 : ((rd (((rd_T56 l0_0 a2).f1).tail) x10_1) == (-1)) = false := beq_eq_false_iff_ne.mpr c33
   have c33b1 : ((rd (((rd_T56 l0_0 a2).f1).tail) x10_1) != (-1)) = true := bne_iff_ne.mpr c33
   by_cases c34 : x9_1.length < 17592186044416; rotate_left
   ·rw [if_neg c34] at H
    exact absurd H (by simp)
   rw [if_pos c34] at H
   have LMc34 := ak c34
   clear c34
   obtain ⟨y266, hy266⟩ : ∃ y_ : List Int, y_ = (x9_1 ++ [rd (((rd_T56 l0_0 a2).f1).tail) x10_1]) := ⟨_, rfl⟩
   replace H : (atticref19_counted.l0 k1 (((rd_T56 l0_0 a2).f1).drop 1) y266 (wrap64 (x10_1 + 1))) = some r := by first | (rw [hy266]; with_reducible exact H) | (have H2_ := (Option.bind_some _ _).symm.trans H; rw [hy266]; with_reducible exact H2_) | (have H2_ := (Option.bind_some _ _).symm.trans H; with_reducible exact H2_) | with_reducible exact H | (rw [hy266]; exact H) | exact H
   have Ny266 := ak hy266
   clear hy266
   have H' := ak H
   clear H
   have p264 : 0 ≤ (x10_1 : Int) := of_decide_eq_true (by first | (with_reducible assumption) | assumption)
   have q264 : x10_1 < ((((rd_T56 l0_0 a2).f1).drop 1).length : Int) := of_decide_eq_true (by first | (with_reducible assumption) | assumption)
   have q264z : (x10_1 < ((((rd_T56 l0_0 a2).f1).length - 1 : Nat) : Int)) = True := eq_true (by rw [← List.length_drop]; exact q264)
   obtain ⟨ad264, e264, hx264_0⟩ := Kd.at_int HR263.out x10_1 p264 q264
   rw [show (Int.toNat 1) = 1 from rfl, List.drop_one] at hx264_0
   cases e264
   replace hx264_0 := (HB.out.cell (World.block_lt_of_cell? w _ hx264_0)).trans hx264_0
   replace p264 := eq_true p264
   replace q264 := eq_true q264
   have p265 : 0 ≤ (x10_1 : Int) := of_decide_eq_true (by first | (with_reducible assumption) | assumption)
   have q265 : x10_1 < ((((rd_T56 l0_0 a2).f1).drop 1).length : Int) := of_decide_eq_true (by first | (with_reducible assumption) | assumption)
   have q265z : (x10_1 < ((((rd_T56 l0_0 a2).f1).length - 1 : Nat) : Int)) = True := eq_true (by rw [← List.length_drop]; exact q265)
   obtain ⟨ad265, e265, hx265_0⟩ := Kd.at_int HR263.out x10_1 p265 q265
   rw [show (Int.toNat 1) = 1 from rfl, List.drop_one] at hx265_0
   obtain rfl : ad264 = ad265 := (by injection e265)
   replace hx265_0 := (HB.out.cell (World.block_lt_of_cell? w _ hx265_0)).trans hx265_0
   replace p265 := eq_true p265
   replace q265 := eq_true q265
   go_wp2_with (first | ((with_reducible refine gate_builtin (b := .append) (xs := #[.tmp 52, .tmp 57]) rfl ?_); at_builtin; refine Kd.R_append (Kd.int .i64) (w0 := w) w.heap.size rfl (.tmp 52) (.tmp 57) 23 3 (.int .i64 0) 8 rfl Try.underlying23 info3 rfl (by decide) (by omega) u9 x9_1 (rd (((rd_T56 l0_0 a2).f1).tail) x10_1) [.int .i64 (rd (((rd_T56 l0_0 a2).f1).tail) x10_1)] (fun _ => True) (fun _ => False) rfl rfl ?aP (fun _ hk => hk.elim) ?aF ?aO ?aB ?aS ?aL ?_; (case aP => exact rfl); (case aB => exact (by repeat (with_reducible first | exact HB.out | apply ba_ | apply bn_ | apply b1_ | refine bs_ ?_ GE257.out | refine bs_ ?_ GE259.out))); (case aF => exact (fun _ _ => trivial)); (case aO => exact (by (with_reducible repeat (first | apply Kd.R_alloc | apply Kd.R_drewN | apply Kd.R_drew)); exact HO_9.out)); (case aS => exact (below_size (by repeat (with_reducible first | exact HB.out | apply ba_ | apply bn_ | apply b1_ | refine bs_ ?_ GE257.out | refine bs_ ?_ GE259.out)))); (case aL => have := LMc34.out; omega); intro v267 w35 ho hb hg hat; rw [← Ny266.out] at ho; have n0_ := ak (blk_grown (g := gb257) (o := .cells #[.slice (some ad258) l0_0.length c0_0, .slice A0_1 l0_1.length c0_1] 25 (0, 0)) (by (with_reducible repeat first | apply kn_ | apply kd_ | apply ka_); exact BK257.out) hg (Kd.R_ne HO_9.out BK257.out (by decide))); have n1_ := ak (blk_grown (g := gb259) (o := .cells #[.int .i64 ((rd_T56 l0_0 a2).f0), .slice (some ad260) ((rd_T56 l0_0 a2).f1).length c258_1] 56 (0, 0)) (by (with_reducible repeat first | apply kn_ | apply kd_ | apply ka_); exact BK259.out) hg (Kd.R_ne HO_9.out BK259.out (by decide))); have n2_ := ak (hb); have n3_ := ak (ho); clear BK257 BK259 HB HO_9; have BK257 := n0_; have BK259 := n1_; have HB := n2_; have HO268 := n3_; clear n0_ n1_ n2_ n3_ ho hb hg hat))
   go_roundg k1
   case measure => have := HK1.out; omega
   case rel => exact ⟨(y266), (wrap64 (x10_1 + 1)), (by first | rfl | (simp; done) | (simp [*]; done) | (simp [Int.tdiv_eq_ediv_of_nonneg]; done)), H', ⟨by have := HK1.out; omega⟩, ⟨by (with_reducible repeat (first | apply Kd.R_alloc | apply Kd.R_drewN | apply Kd.R_drew)); exact HO268.out⟩, ⟨by (with_reducible repeat first | apply kn_ | apply kd_ | apply ka_); exact BK257.out⟩, ⟨by (with_reducible repeat first | apply kn_ | apply kd_ | apply ka_); exact BK259.out⟩, ⟨by repeat (with_reducible first | exact HB.out | apply ba_ | apply bn_ | apply b1_ | refine bs_ ?_ GE257.out | refine bs_ ?_ GE259.out)⟩⟩
/-! ### atticref19_paired: function 57 -/
def atticref19_paired.l0 : Nat → Int → List (S56) → List Int → Int → Int → List Bool → List Int → Bool → Bool → Bool → Option (Bool)
 | 0, _, _, _, _, _, _, _, _, _, _ => none
 | k + 1, x5, x275000, x275001, x276000, x276001, x276002, x276003, x276004, x276005, x276006 => if x5 < (x276002.length : Int) then (if 0 ≤ x5 then (if rdOf false x276002 x5 = true then (if x5 < (x275000.length : Int) then (if ((rd_T56 x275000 x5).f0) = 3 then (some true) else (atticref19_paired.l0 k (wrap64 (x5 + 1)) x275000 x275001 x276000 x276001 x276002 x276003 x276004 x276005 x276006)) else (none)) else (atticref19_paired.l0 k (wrap64 (x5 + 1)) x275000 x275001 x276000 x276001 x276002 x276003 x276004 x276005 x276006)) else (none)) else (some false)
def atticref19_paired.f (k : Nat) (l0_0 : List (S56)) (l0_1 : List Int) (a1_0 : Int) (a1_1 : Int) (l1_2 : List Bool) (l1_3 : List Int) (a1_4 : Bool) (a1_5 : Bool) (a1_6 : Bool) : Option (Bool) := atticref19_paired.l0 k 0 l0_0 l0_1 a1_0 a1_1 l1_2 l1_3 a1_4 a1_5 a1_6
theorem atticref19_paired.mono_l : ∀ k, (∀ y0 y1 y2 y3 y4 y5 y6 y7 y8 y9, LeO (atticref19_paired.l0 k y0 y1 y2 y3 y4 y5 y6 y7 y8 y9) (atticref19_paired.l0 (k + 1) y0 y1 y2 y3 y4 y5 y6 y7 y8 y9))
 | 0 => fun _ _ _ _ _ _ _ _ _ _ r h => by simp [atticref19_paired.l0] at h
 | k + 1 => by
  have ih0 := atticref19_paired.mono_l k
  ·intro y0 y1 y2 y3 y4 y5 y6 y7 y8 y9
   unfold atticref19_paired.l0
   repeat' first | (with_reducible first | exact ih0 _ _ _ _ _ _ _ _ _ _ | exact LeO.refl _ | exact LeO.none _ | refine LeO.ite ?_ ?_ | refine LeO.bind ?_ (fun _ => ?_)) | exact ih0 _ _ _ _ _ _ _ _ _ _ | exact LeO.none _ | refine LeO.ite ?_ ?_ | refine LeO.bind ?_ (fun _ => ?_)
theorem atticref19_paired.mono : ∀ a0 a1 a2 a3 a4 a5 a6 a7 a8 k, LeO (atticref19_paired.f k a0 a1 a2 a3 a4 a5 a6 a7 a8) (atticref19_paired.f (k + 1) a0 a1 a2 a3 a4 a5 a6 a7 a8) := by
 intro a0 a1 a2 a3 a4 a5 a6 a7 a8 k
 have ih0 := atticref19_paired.mono_l k
 unfold atticref19_paired.f
 repeat' first | (with_reducible first | exact ih0 _ _ _ _ _ _ _ _ _ _ | exact LeO.refl _ | exact LeO.none _ | refine LeO.ite ?_ ?_ | refine LeO.bind ?_ (fun _ => ?_)) | exact ih0 _ _ _ _ _ _ _ _ _ _ | exact LeO.none _ | refine LeO.ite ?_ ?_ | refine LeO.bind ?_ (fun _ => ?_)
set_option maxHeartbeats 8000000 in
set_option maxRecDepth 100000 in
theorem atticref19_paired.calls (k : Nat) (A0_0 : Option Addr) (c0_0 : Nat) (l0_0 : List (S56)) (A0_1 : Option Addr) (c0_1 : Nat) (l0_1 : List Int) (a1_0 : Int) (a1_1 : Int) (A1_2 : Option Addr) (c1_2 : Nat) (l1_2 : List Bool) (A1_3 : Option Addr) (c1_3 : Nat) (l1_3 : List Int) (a1_4 : Bool) (a1_5 : Bool) (a1_6 : Bool) (r : Bool) (w : World) (hr0_0 : Kd.C k56 w A0_0 l0_0.length l0_0) (hc0_0 : l0_0.length ≤ c0_0) (hr0_1 : Kd.C (Kd.int .i64) w A0_1 l0_1.length l0_1) (hc0_1 : l0_1.length ≤ c0_1) (hr1_2 : Kd.C Kd.bool w A1_2 l1_2.length l1_2) (hc1_2 : l1_2.length ≤ c1_2) (hr1_3 : Kd.C (Kd.int .i64) w A1_3 l1_3.length l1_3) (hc1_3 : l1_3.length ≤ c1_3) (h : atticref19_paired.f k l0_0 l0_1 a1_0 a1_1 l1_2 l1_3 a1_4 a1_5 a1_6 = some r) :
  Calls Try.prog 57 #[.agg #[.slice A0_0 l0_0.length c0_0, .slice A0_1 l0_1.length c0_1], .agg #[.int .i64 a1_0, .int .i64 a1_1, .slice A1_2 l1_2.length c1_2, .slice A1_3 l1_3.length c1_3, .bool a1_4, .bool a1_5, .bool a1_6]] w fun e w' => e = .returned (.bool r) ∧ Below w.heap.size w w' := by
 have hu25 := Try.underlying25
 have hu28 := Try.underlying28
 have HR0_0 := ak hr0_0
 have HC0_0 := ak hc0_0
 clear hr0_0 hc0_0
 have HR0_1 := ak hr0_1
 have HC0_1 := ak hc0_1
 clear hr0_1 hc0_1
 have HR1_2 := ak hr1_2
 have HC1_2 := ak hc1_2
 clear hr1_2 hc1_2
 have HR1_3 := ak hr1_3
 have HC1_3 := ak hc1_3
 clear hr1_3 hc1_3
 have HB := ak (Below.refl w.heap.size w)
 have H : (atticref19_paired.l0 k 0 l0_0 l0_1 a1_0 a1_1 l1_2 l1_3 a1_4 a1_5 a1_6) = some r := h
 clear h
 have H' := ak H
 clear H
 go_enter Try.func57, Try.ntmps57
 go_wp2_with (first | ((with_reducible refine gate_dst (N := 2) rfl ?_); refine box_event ?hg (N := 2) ?hd (cs := #[.slice A0_0 l0_0.length c0_0, .slice A0_1 l0_1.length c0_1]) (t := 25) ?hr ?_; (case hd => rfl); (case hg => rfl); (case hr => go_simp <;> rfl); intro gb274 hg w3 hbox hb; have n0_ := ak (below_step (by repeat (with_reducible first | exact HB.out | apply ba_ | apply bn_ | apply b1_)) hb); have n1_ := ak (hbox); have n2_ := ak ((by rw [hg]; exact (below_size (by repeat (with_reducible first | exact HB.out | apply ba_ | apply bn_ | apply b1_))) : w.heap.size ≤ gb274)); have n3_ := n2_; clear HB; have HB := n0_; have BK274 := n1_; have GW274 := n2_; have GE274 := n3_; clear n0_ n1_ n2_ n3_ hb hbox hg) | ((with_reducible refine gate_dst (N := 3) rfl ?_); refine box_event ?hg (N := 3) ?hd (cs := #[.int .i64 a1_0, .int .i64 a1_1, .slice A1_2 l1_2.length c1_2, .slice A1_3 l1_3.length c1_3, .bool a1_4, .bool a1_5, .bool a1_6]) (t := 28) ?hr ?_; (case hd => rfl); (case hg => rfl); (case hr => go_simp <;> rfl); intro gb275 hg w4 hbox hb; have n0_ := ak (blk_below (by (with_reducible repeat first | apply kn_ | apply kd_ | apply ka_); exact BK274.out) hb); have n1_ := ak (below_step (by repeat (with_reducible first | exact HB.out | apply ba_ | apply bn_ | apply b1_ | refine bs_ ?_ GE274.out)) hb); have n2_ := ak (hbox); have n3_ := ak ((by rw [hg]; exact (below_size (by repeat (with_reducible first | exact HB.out | apply ba_ | apply bn_ | apply b1_ | refine bs_ ?_ GE274.out))) : w.heap.size ≤ gb275)); have n4_ := n3_; have n5_ := ak ((by rw [hg]; exact Nat.ne_of_lt (blk_lt (g := gb274) (o := .cells #[.slice A0_0 l0_0.length c0_0, .slice A0_1 l0_1.length c0_1] 25 (0, 0)) (by (with_reducible repeat first | apply kn_ | apply kd_ | apply ka_); exact BK274.out)) : gb274 ≠ gb275)); have n6_ := ak ((by rw [hg]; exact Nat.ne_of_gt (blk_lt (g := gb274) (o := .cells #[.slice A0_0 l0_0.length c0_0, .slice A0_1 l0_1.length c0_1] 25 (0, 0)) (by (with_reducible repeat first | apply kn_ | apply kd_ | apply ka_); exact BK274.out)) : gb275 ≠ gb274)); clear BK274 HB; have BK274 := n0_; have HB := n1_; have BK275 := n2_; have GW275 := n3_; have GE275 := n4_; have NB274_275 := n5_; have NB275_274 := n6_; clear n0_ n1_ n2_ n3_ n4_ n5_ n6_ hb hbox hg))
 go_loopg [5] k (fun kq v5 w' => ∃ (x5_1 : Int), v5 = .int .i64 x5_1 ∧ Aside0 (atticref19_paired.l0 kq x5_1 l0_0 l0_1 a1_0 a1_1 l1_2 l1_3 a1_4 a1_5 a1_6 = some r) ∧ Aside0 (kq ≤ k) ∧ Aside0 (w'.heap[gb274]? = some (.cells #[(.slice A0_0 l0_0.length c0_0), (.slice A0_1 l0_1.length c0_1)] 25 (0, 0))) ∧ Aside0 (w'.heap[gb275]? = some (.cells #[.int .i64 a1_0, .int .i64 a1_1, (.slice A1_2 l1_2.length c1_2), (.slice A1_3 l1_3.length c1_3), .bool a1_4, .bool a1_5, .bool a1_6] 28 (0, 0))) ∧ Aside0 (Below w.heap.size w w'))
 case atStart => exact ⟨(0), (by first | rfl | (simp; done) | (simp [*]; done) | (simp [Int.tdiv_eq_ediv_of_nonneg]; done)), H', ⟨Nat.le_refl _⟩, ⟨by (with_reducible repeat first | apply kn_ | apply kd_ | apply ka_); exact BK274.out⟩, ⟨by (with_reducible repeat first | apply kn_ | apply kd_ | apply ka_); exact BK275.out⟩, ⟨by repeat (with_reducible first | exact HB.out | apply ba_ | apply bn_ | apply b1_ | refine bs_ ?_ GE274.out | refine bs_ ?_ GE275.out)⟩⟩
 case round =>
  clear H'
  (try clear c1); (try clear p2)
  obtain ⟨x5_1, rfl, HA, HK1, BK274, BK275, HB⟩ := hrel
  cases gk with
  | zero => exact absurd HA.out (by simp [atticref19_paired.l0])
  | succ k1 =>
   have H := HA.out
   clear HA
   simp only [atticref19_paired.l0] at H
   by_cases c5 : x5_1 < (l1_2.length : Int); rotate_left
   ·rw [if_neg c5] at H
    have c5b0 : decide (x5_1 < (l1_2.length : Int)) = false := decide_eq_false c5
    clear c5
    obtain rfl := Option.some.inj H
    have hnb19 := NB275_274.out
    have hnc19 := NB274_275.out
    obtain ⟨z20_0, z20_1, z20_2, z20_3, z20_4, z20_5, z20_6, f20_0, f20_1, f20_2, f20_3, f20_4, f20_5, f20_6⟩ := kk7 BK275.out
    go_wp2
    go_ret
    exact ⟨by first | rfl | (simp [errW_none, errW_some] <;> rfl) | (simp [*, errW_none, errW_some] <;> rfl) | (simp [Int.tdiv_eq_ediv_of_nonneg]; done), by repeat (with_reducible first | exact HB.out | apply ba_ | apply bn_ | apply b1_ | refine bs_ ?_ GE274.out | refine bs_ ?_ GE275.out)⟩
   rw [if_pos c5] at H
   have c5b0 : decide (x5_1 < (l1_2.length : Int)) = true := decide_eq_true c5
   clear c5
   by_cases c6 : 0 ≤ x5_1; rotate_left
   ·rw [if_neg c6] at H
    exact absurd H (by simp)
   rw [if_pos c6] at H
   have c6b0 : decide (0 ≤ x5_1) = true := decide_eq_true c6
   clear c6
   obtain ⟨bq7, hbq7⟩ : ∃ b_ : Bool, b_ = (rdOf false l1_2 x5_1) := ⟨_, rfl⟩
   replace H : (if bq7 = true then (if x5_1 < (l0_0.length : Int) then (if ((rd_T56 l0_0 x5_1).f0) = 3 then (some true) else (atticref19_paired.l0 k1 (wrap64 (x5_1 + 1)) l0_0 l0_1 a1_0 a1_1 l1_2 l1_3 a1_4 a1_5 a1_6)) else (none)) else (atticref19_paired.l0 k1 (wrap64 (x5_1 + 1)) l0_0 l0_1 a1_0 a1_1 l1_2 l1_3 a1_4 a1_5 a1_6)) = some r := by rw [← hbq7] at H; exact H
   have Nbq7 := ak hbq7
   clear hbq7
   by_cases c8 : bq7 = true; rotate_left
   ·replace c8 := Bool.eq_false_iff.mpr c8
    subst c8
    have H1 : (atticref19_paired.l0 k1 (wrap64 (x5_1 + 1)) l0_0 l0_1 a1_0 a1_1 l1_2 l1_3 a1_4 a1_5 a1_6) = some r := by rw [if_neg (show ¬ (false = true) by decide)] at H; exact H
    clear H
    have H := H1
    clear H1
    have H' := ak H
    clear H
    have hnb17 := NB275_274.out
    have hnc17 := NB274_275.out
    obtain ⟨z18_0, z18_1, z18_2, z18_3, z18_4, z18_5, z18_6, f18_0, f18_1, f18_2, f18_3, f18_4, f18_5, f18_6⟩ := kk7 BK275.out
    have p276 : 0 ≤ (x5_1 : Int) := of_decide_eq_true (by first | (with_reducible assumption) | assumption)
    have q276 : x5_1 < (l1_2.length : Int) := of_decide_eq_true (by first | (with_reducible assumption) | assumption)
    obtain ⟨ad276, e276, hx276_0⟩ := Kd.at_bool HR1_2.out x5_1 p276 q276
    (try rw [← Nbq7.out] at hx276_0)
    cases e276
    replace hx276_0 := (HB.out.cell (World.block_lt_of_cell? w _ hx276_0)).trans hx276_0
    replace p276 := eq_true p276
    replace q276 := eq_true q276
    go_wp2
    go_roundg k1
    case measure => have := HK1.out; omega
    case rel => exact ⟨(wrap64 (x5_1 + 1)), (by first | rfl | (simp; done) | (simp [*]; done) | (simp [Int.tdiv_eq_ediv_of_nonneg]; done)), H', ⟨by have := HK1.out; omega⟩, ⟨by (with_reducible repeat first | apply kn_ | apply kd_ | apply ka_); exact BK274.out⟩, ⟨by (with_reducible repeat first | apply kn_ | apply kd_ | apply ka_); exact BK275.out⟩, ⟨by repeat (with_reducible first | exact HB.out | apply ba_ | apply bn_ | apply b1_ | refine bs_ ?_ GE274.out | refine bs_ ?_ GE275.out)⟩⟩
   subst c8
   have H1 : (if x5_1 < (l0_0.length : Int) then (if ((rd_T56 l0_0 x5_1).f0) = 3 then (some true) else (atticref19_paired.l0 k1 (wrap64 (x5_1 + 1)) l0_0 l0_1 a1_0 a1_1 l1_2 l1_3 a1_4 a1_5 a1_6)) else (none)) = some r := by rw [if_pos rfl] at H; exact H
   clear H
   have H := H1
   clear H1
   by_cases c9 : x5_1 < (l0_0.length : Int); rotate_left
   ·rw [if_neg c9] at H
    exact absurd H (by simp)
   rw [if_pos c9] at H
   have c9b0 : decide (x5_1 < (l0_0.length : Int)) = true := decide_eq_true c9
   clear c9
   by_cases c10 : ((rd_T56 l0_0 x5_1).f0) = 3
   ·rw [if_pos c10] at H
    have c10b0 : (((rd_T56 l0_0 x5_1).f0) == 3) = true := beq_iff_eq.mpr c10
    have c10b1 : (((rd_T56 l0_0 x5_1).f0) != 3) = false := bne_eq_false_iff_eq.mpr c10
    clear c10
    obtain rfl := Option.some.inj H
    have hnb11 := NB275_274.out
    have hnc11 := NB274_275.out
    obtain ⟨z12_0, z12_1, z12_2, z12_3, z12_4, z12_5, z12_6, f12_0, f12_1, f12_2, f12_3, f12_4, f12_5, f12_6⟩ := kk7 BK275.out
    have p276 : 0 ≤ (x5_1 : Int) := of_decide_eq_true (by first | (with_reducible assumption) | assumption)
    have q276 : x5_1 < (l1_2.length : Int) := of_decide_eq_true (by first | (with_reducible assumption) | assumption)
    obtain ⟨ad276, e276, hx276_0⟩ := Kd.at_bool HR1_2.out x5_1 p276 q276
    (try rw [← Nbq7.out] at hx276_0)
    cases e276
    replace hx276_0 := (HB.out.cell (World.block_lt_of_cell? w _ hx276_0)).trans hx276_0
    replace p276 := eq_true p276
    replace q276 := eq_true q276
    obtain ⟨z13_0, z13_1, f13_0, f13_1⟩ := kk2 BK274.out
    have p277 : 0 ≤ (x5_1 : Int) := of_decide_eq_true (by first | (with_reducible assumption) | assumption)
    have q277 : x5_1 < (l0_0.length : Int) := of_decide_eq_true (by first | (with_reducible assumption) | assumption)
    obtain ⟨ad277, A277_1, c277_1, e277, hx277_0, hx277_1, hl277_1, hi277_1⟩ := at_T56 HR0_0.out x5_1 p277 q277
    cases e277
    replace hx277_0 := (HB.out.cell (World.block_lt_of_cell? w _ hx277_0)).trans hx277_0
    replace hx277_1 := (HB.out.cell (World.block_lt_of_cell? w _ hx277_1)).trans hx277_1
    have HR277_1 := ak hi277_1
    have HC277_1 := ak hl277_1
    clear hi277_1 hl277_1
    replace p277 := eq_true p277
    replace q277 := eq_true q277
    go_wp2
    go_ret
    exact ⟨by first | rfl | (simp [errW_none, errW_some] <;> rfl) | (simp [*, errW_none, errW_some] <;> rfl) | (simp [Int.tdiv_eq_ediv_of_nonneg]; done), by repeat (with_reducible first | exact HB.out | apply ba_ | apply bn_ | apply b1_ | refine bs_ ?_ GE274.out | refine bs_ ?_ GE275.out)⟩
   rw [if_neg c10] at H
   have c10b0 : (((rd_T56 l0_0 x5_1).f0) == 3) = false := beq_eq_false_iff_ne.mpr c10
   have c10b1 : (((rd_T56 l0_0 x5_1).f0) != 3) = true := bne_iff_ne.mpr c10
   have H' := ak H
   clear H
   have hnb14 := NB275_274.out
   have hnc14 := NB274_275.out
   obtain ⟨z15_0, z15_1, z15_2, z15_3, z15_4, z15_5, z15_6, f15_0, f15_1, f15_2, f15_3, f15_4, f15_5, f15_6⟩ := kk7 BK275.out
   have p276 : 0 ≤ (x5_1 : Int) := of_decide_eq_true (by first | (with_reducible assumption) | assumption)
   have q276 : x5_1 < (l1_2.length : Int) := of_decide_eq_true (by first | (with_reducible assumption) | assumption)
   obtain ⟨ad276, e276, hx276_0⟩ := Kd.at_bool HR1_2.out x5_1 p276 q276
   (try rw [← Nbq7.out] at hx276_0)
   cases e276
   replace hx276_0 := (HB.out.cell (World.block_lt_of_cell? w _ hx276_0)).trans hx276_0
   replace p276 := eq_true p276
   replace q276 := eq_true q276
   obtain ⟨z16_0, z16_1, f16_0, f16_1⟩ := kk2 BK274.out
   have p277 : 0 ≤ (x5_1 : Int) := of_decide_eq_true (by first | (with_reducible assumption) | assumption)
   have q277 : x5_1 < (l0_0.length : Int) := of_decide_eq_true (by first | (with_reducible assumption) | assumption)
   obtain ⟨ad277, A277_1, c277_1, e277, hx277_0, hx277_1, hl277_1, hi277_1⟩ := at_T56 HR0_0.out x5_1 p277 q277
   cases e277
   replace hx277_0 := (HB.out.cell (World.block_lt_of_cell? w _ hx277_0)).trans hx277_0
   replace hx277_1 := (HB.out.cell (World.block_lt_of_cell? w _ hx277_1)).trans hx277_1
   have HR277_1 := ak hi277_1
   have HC277_1 := ak hl277_1
   clear hi277_1 hl277_1
   replace p277 := eq_true p277
   replace q277 := eq_true q277
   go_wp2
   go_roundg k1
   case measure => have := HK1.out; omega
   case rel => exact ⟨(wrap64 (x5_1 + 1)), (by first | rfl | (simp; done) | (simp [*]; done) | (simp [Int.tdiv_eq_ediv_of_nonneg]; done)), H', ⟨by have := HK1.out; omega⟩, ⟨by (with_reducible repeat first | apply kn_ | apply kd_ | apply ka_); exact BK274.out⟩, ⟨by (with_reducible repeat first | apply kn_ | apply kd_ | apply ka_); exact BK275.out⟩, ⟨by repeat (with_reducible first | exact HB.out | apply ba_ | apply bn_ | apply b1_ | refine bs_ ?_ GE274.out | refine bs_ ?_ GE275.out)⟩⟩
-- NOT PRINTED: function 49 (atticref19_drain)
-- NOT PRINTED: function 50 (atticref19_scan)
/-! ### atticref19_Step: function 27 -/
/-! #### the reference's units: through a pointer at its state -/
set_option maxHeartbeats 4000000 in
set_option maxRecDepth 100000 in
theorem rk_touch (room : Int) (P : Nat → Prop) (w : World) (base bl g : Nat) (vm vs : Value) (x x' : MS) (A : Option Addr) (c : Nat) (l : List Int) (r : Bool)
  (hW : Wk 28 [] P w base g vm vs x) (hP : ∀ k, P k → k < w.heap.size) (hb : base ≤ w.heap.size) (hL : Kd.R (Kd.int .i64) 3 w bl P (.slice A l.length c) l) (h : MS.touches room l x false = some (x', r)) :
  Calls Try.prog 48 #[.pointer (some ⟨g, 0, none⟩), .int .i64 room, .slice A l.length c] w (TouchPost 28 [] P w base g vm x' r) := by
 have hu28 := Try.underlying28
 have hlen : l.length ≤ 9223372036854775807 := (Kd.R_reads' hL).2.2.2.1
 have HW := ak hW
 have HP := ak hP
 have HB := ak hb
 have HL := ak hL
 have HH := ak h
 clear hW hP hb hL h
 go_enter Try.func48, Try.ntmps48
 go_wp2
 go_loopw [7, 8] (fun v7 v8 wr => ∃ (j : Nat) (x1 : MS) (b : Bool) (vs1 : Value), j ≤ l.length ∧ v7 = .bool b ∧ v8 = .int .i64 j ∧ Aside0 (Wk 28 [] P wr base g vm vs1 x1) ∧ Aside0 (Keeps P w wr) ∧ Aside0 (MS.touches room (l.drop j) x1 b = some (x', r))) (fun _ v8 _ => l.length - (intOf v8).toNat)
 case atStart => exact ⟨0, x, false, vs, Nat.zero_le _, rfl, rfl, HW, ⟨Keeps.refl _ _⟩, HH⟩
 case round =>
  obtain ⟨j, x1, b, vs1, hj, rfl, rfl, HX, HK, HT⟩ := hrel
  by_cases hlt : j < l.length; rotate_left
  ·have hj' : j = l.length := by omega
   have ht := HT.out
   rw [hj', List.drop_length] at ht
   cases ht
   have hltb : decide ((j : Int) < (l.length : Int)) = false := decide_eq_false (by omega)
   clear hj'
   go_wp2
   go_ret
   exact ⟨rfl, vs1, HX.out, HK.out⟩
  have ht := HT.out
  rw [List.drop_eq_getElem_cons hlt] at ht
  obtain ⟨q, hq, ht⟩ := Option.bind_eq_some_iff.1 ht
  have hR := Kd.R_reads' (HK.out.R HL.out (fun k hk => hk))
  obtain ⟨ad, rfl, hc⟩ := Kd.at_int hR.2.2 (j : Int) (by omega) (by omega)
  rw [show rd l (j : Int) = l[j] from by simp [rd, hlt], Int.toNat_natCast] at hc
  have hlt' : ((j : Int) < (l.length : Int)) = True := eq_true (by omega)
  have hltb : decide ((j : Int) < (l.length : Int)) = true := decide_eq_true (by omega)
  have HT2 := ak ht
  unfold MS.touch at hq
  by_cases h0 : 0 ≤ l[j] ∧ l[j] < (x1.marks.length : Int) ∧ x1.stack.length < 1000
  case neg => rw [if_neg h0] at hq; cases hq
  rw [if_pos h0] at hq
  obtain ⟨h1, h2, h3⟩ := h0
  obtain ⟨gm, cm, rfl, hgm, _, _⟩ := Kd.R_form HX.out.m (by omega)
  obtain ⟨As, cs, rfl, hls, _⟩ := Kd.R_reads HX.out.s
  obtain ⟨k1, k2⟩ := Kd.R_cell false HX.out.m l[j] h1 h2
  have c2 : wr.cell? ⟨g, 2, none⟩ = some (.slice (some ⟨gm, 0, none⟩) x1.marks.length cm) := (blk_cell HX.out.blk 2).trans rfl
  have hml : x1.marks.length ≤ 9223372036854775807 := (Kd.R_reads' HX.out.m).2.2.2.1
  have ne : gm ≠ g := fun e => by have := HX.out.gm (by decide); simp [Value.ownBlock, e] at this
  have ne' : g ≠ gm := Ne.symm ne
  replace h1 := eq_true h1
  replace h2 := eq_true h2
  clear ht hR HT
  obtain ⟨lj, hlj⟩ : ∃ lj, lj = l[j] := ⟨_, rfl⟩
  rw [← hlj] at hq hc k1 k2 h1 h2
  have HLJ := ak hlj
  clear hlj
  cases hv : rdOf false x1.marks lj with
  | true =>
   rw [hv, if_pos rfl] at hq
   cases hq
   rw [hv] at k1
   clear hv
   go_wp2
   go_quiet ((fail))
   go_wp2
   go_roundw
   case rel => exact ⟨j + 1, x1, b, .slice As x1.stack.length cs, by omega, rfl, by go_num, ⟨HX.out.drewN _⟩, ⟨HK.out.trans (Keeps.drewN _ _ _)⟩, ⟨by have := HT2.out; simpa using this⟩⟩
   case measure => simp [intOf]; omega
  | false =>
   rw [hv, if_neg (by decide)] at hq
   rw [hv] at k1
   clear hv
   go_wp2
   go_quiet ((fail))
   have HX2 := ak (HX.out.drewN nq)
   have HK2 := ak (HK.out.trans (Keeps.drewN _ _ nq))
   have ec : (wr.drewN nq).cell? (ad.add j) = some (.int .i64 lj) := hc
   have e2 : (wr.drewN nq).cell? ⟨g, 2, none⟩ = some (.slice (some ⟨gm, 0, none⟩) x1.marks.length cm) := c2
   have ek1 : (wr.drewN nq).cell? ⟨gm, lj.toNat, none⟩ = some (.bool false) := k1
   have ek2 : (wr.drewN nq).frozen? ⟨gm, lj.toNat, none⟩ = false := k2
   clear HX HK hc c2 k1 k2
   generalize wr.drewN nq = wa at HX2 HK2 ec e2 ek1 ek2 ⊢
   clear nq
   go_wp2
   have hcv : ∀ wz, Keeps P wa wz → wz.cell? (ad.add j) = some (.int .i64 lj) := fun wz hk => by
    have hR := Kd.R_reads' ((HK2.out.trans hk).R HL.out (fun k hk => hk))
    obtain ⟨ad2, e2, hc2⟩ := Kd.at_int hR.2.2 (j : Int) (by omega) (by omega)
    cases e2
    rw [show rd l (j : Int) = l[j] from by simp [rd, hlt], Int.toNat_natCast, ← HLJ.out] at hc2
    exact hc2
   have c3a : wa.drew.cell? ⟨g, 3, none⟩ = some (.slice As x1.stack.length cs) := (blk_cell HX2.out.drew.blk 3).trans rfl
   refine startL (n := 10) (S := fun w' => w'.cell? ⟨g, 2, none⟩ = some (.slice (some ⟨gm, 0, none⟩) x1.marks.length cm) ∧ w'.cell? (ad.add j) = some (.int .i64 lj)) (ds := [9]) (by kernel_rfl) rfl ⟨e2, ec⟩ (fun hHeld => ?_)
   iterate 3 (refine pureL (N := some _) rfl rfl (by kernel_rfl) (fun _ _ _ h => h) (by rfl) (v := ?_) (a' := ?_) ?_ ?_ ?_; rotate_left; (intro w'; go_simp; with_reducible rfl); rotate_left; (simp only [Act.put, sq0, sq1, sq2, sq3, sq4]; rfl))
   (refine takeL (N := some _) rfl rfl (by kernel_rfl) (fun _ _ _ h => h) hHeld (by rfl) (v := ?_) (a' := ?_) ?_ ?_ ?_; rotate_left; (rintro w' ⟨z0, z1⟩; go_simp; with_reducible rfl); rotate_left; (simp only [Act.put, sq0, sq1, sq2, sq3, sq4]; rfl))
   iterate 3 (refine pureL (N := some _) rfl rfl (by kernel_rfl) (fun _ _ _ h => h) (by rfl) (v := ?_) (a' := ?_) ?_ ?_ ?_; rotate_left; (intro w'; go_simp; with_reducible rfl); rotate_left; (simp only [Act.put, sq0, sq1, sq2, sq3, sq4]; rfl))
   (refine takeL (N := some _) rfl rfl (by kernel_rfl) (fun _ _ _ h => h) hHeld (by rfl) (v := ?_) (a' := ?_) ?_ ?_ ?_; rotate_left; (rintro w' ⟨z0, z1⟩; go_simp; with_reducible rfl); rotate_left; (simp only [Act.put, sq0, sq1, sq2, sq3, sq4]; rfl))
   (refine pureL (N := some _) rfl rfl (by kernel_rfl) (fun _ _ _ h => h) (by rfl) (v := ?_) (a' := ?_) ?_ ?_ ?_; rotate_left; (intro w'; go_simp; with_reducible rfl); rotate_left; (simp only [Act.put, sq0, sq1, sq2, sq3, sq4]; rfl))
   refine last_ (i := 9) (N := none) (preL 10 10) rfl rfl (by kernel_rfl) (by decide) (fun K hK => ?_)
   have ek1' : wa.drew.cell? ⟨gm, lj.toNat, none⟩ = some (.bool false) := ek1
   have ek2' : wa.drew.frozen? ⟨gm, lj.toNat, none⟩ = false := ek2
   refine skip_ (w1 := ?_) (by rfl) rfl ?_ ?_; rotate_left; (go_simp; rfl)
   refine hK.out _ _ ?_
   clear hK K
   refine doneL (by kernel_rfl) ?_
   obtain ⟨hW0, hK0⟩ := HX2.out.mark (by decide) lj
   have hW1 := hW0.drew
   have hK1 := hK0.trans (Keeps.drew P _)
   clear hW0 hK0
   have HKa := ak hK1
   have ecb := hcv _ HKa.out
   clear c3a ek1 ek2 ek1' ek2' e2 ec hHeld
   generalize (wa.setCell ⟨gm, lj.toNat, none⟩ (.bool true)).drew = w1 at hW1 hK1 HKa ecb ⊢
   have HW1 := ak hW1
   have c3 : w1.cell? ⟨g, 3, none⟩ = some (.slice As x1.stack.length cs) := (blk_cell hW1.blk 3).trans rfl
   clear hW1 hK1
   by_cases h4 : (x1.stack.length : Int) < room; rotate_left
   ·rw [if_neg h4] at hq
    cases hq
    have h4b : decide ((x1.stack.length : Int) < room) = false := decide_eq_false h4
    have c4 : w1.cell? ⟨g, 4, none⟩ = some (.bool x1.over) := (blk_cell HW1.out.blk 4).trans rfl
    have f4 := blk_frozen HW1.out.blk 4
    clear h4
    go_wp2
    have HP1 := ak (HW1.out.setOver (by decide) (by decide) true 4 rfl)
    have HP2 := ak ((HK2.out.trans HKa.out).trans (Keeps.set w1 g 4 (.bool true) HW1.out.gP))
    go_roundw
    case rel => exact ⟨j + 1, _, true, _, by omega, rfl, by go_num, HP1, HP2, ⟨by have := HT2.out; simpa using this⟩⟩
    case measure => simp [intOf]; omega
   rw [if_pos h4] at hq
   cases hq
   have h4b : decide ((x1.stack.length : Int) < room) = true := decide_eq_true h4
   clear h4
   go_wp2
   have hW2 := HW1.out.drew
   have HKb := HKa.out.trans (Keeps.drew P w1)
   have hF : ∀ k, w1.drew.heap.size ≤ k → ¬ P k := fun k hk hp => by have h1 := HP.out k hp; have h2 := (HK2.out.trans HKb).size; omega
   have hS := Nat.le_trans HB.out (HK2.out.trans HKb).size
   replace c3 : w1.drew.cell? ⟨g, 3, none⟩ = some (.slice As x1.stack.length cs) := c3
   replace ecb : w1.drew.cell? (ad.add j) = some (.int .i64 lj) := ecb
   refine startL (n := 14) (S := fun w' => w'.cell? ⟨g, 3, none⟩ = some (.slice As x1.stack.length cs) ∧ w'.cell? (ad.add j) = some (.int .i64 lj)) (ds := [13]) (by kernel_rfl) rfl ⟨c3, ecb⟩ (fun hHeld => ?_)
   generalize w1.drew = w2 at hW2 HKb hF hS c3 ecb hHeld ⊢
   have HW2 := ak hW2; have HKc := ak HKb; have HF := ak hF; have HS := ak hS
   clear hW2 HKb hF hS
   iterate 4 (refine pureL (N := some _) rfl rfl (by kernel_rfl) (fun _ _ _ h => h) (by rfl) (v := ?_) (a' := ?_) ?_ ?_ ?_; rotate_left; (intro w'; go_simp; with_reducible rfl); rotate_left; (simp only [Act.put, sq0, sq1, sq2, sq3, sq4]; rfl))
   (refine takeL (N := some _) rfl rfl (by kernel_rfl) (fun _ _ _ h => h) hHeld (by rfl) (v := ?_) (a' := ?_) ?_ ?_ ?_; rotate_left; (rintro w' ⟨z0, z1⟩; go_simp; with_reducible rfl); rotate_left; (simp only [Act.put, sq0, sq1, sq2, sq3, sq4]; rfl))
   iterate 3 (refine pureL (N := some _) rfl rfl (by kernel_rfl) (fun _ _ _ h => h) (by rfl) (v := ?_) (a' := ?_) ?_ ?_ ?_; rotate_left; (intro w'; go_simp; with_reducible rfl); rotate_left; (simp only [Act.put, sq0, sq1, sq2, sq3, sq4]; rfl))
   (refine takeL (N := some _) rfl rfl (by kernel_rfl) (fun _ _ _ h => h) hHeld (by rfl) (v := ?_) (a' := ?_) ?_ ?_ ?_; rotate_left; (rintro w' ⟨z0, z1⟩; go_simp; with_reducible rfl); rotate_left; (simp only [Act.put, sq0, sq1, sq2, sq3, sq4]; rfl))
   refine oneL (N := some 50) rfl rfl (by kernel_rfl) (by decide) (fun K hK => ?_)
   refine value_ (w1 := w2.alloc (.cells #[.int .i64 lj] 3)) (v := .slice (some ⟨w2.heap.size, 0, none⟩) 1 1) (by rfl) rfl (by go_simp) ?_
   refine hK.out _ _ ⟨pw_cell_below (below_alloc (Below.refl _ _) _) hHeld.1, pw_cell_below (below_alloc (Below.refl _ _) _) hHeld.2⟩ (fun hHeld => ?_)
   clear hK K
   refine norm_ (a' := ?_) ?_ ?_; rotate_left; (simp only [Act.put, sq0, sq1, sq2, sq3, sq4]; rfl)
   refine oneL (N := some 51) rfl rfl (by kernel_rfl) (by decide) (fun K hK => ?_)
   refine Kd.R_append_step (Kd.int .i64) (w0 := w2) base (by rfl) (.tmp 45) (.tmp 50) 23 3 (.int .i64 0) 8 rfl Try.underlying23 int_info rfl (by decide) (by omega) (.slice As x1.stack.length cs) x1.stack lj [.int .i64 lj] (fun k => ¬ P k) (fun _ => False) rfl rfl ?aP (fun _ hk => hk.elim) ?aF ?aO ?aB ?aS ?aL ?_; (case aP => exact rfl); (case aF => exact HF.out); (case aO => exact HW2.out.s); (case aB => exact Below.refl _ _); (case aS => exact HS.out); (case aL => omega)
   intro v3 w3 ho hb2 hg hat; obtain ⟨A3, c3_, rfl⟩ := Kd.R_slice ho; have HO := ak ho; have HG := ak hg; have HAT := ak hat
   have bg := blk_grown HW2.out.blk hg (HW2.out.gs (by decide))
   have c6b : w3.cell? ⟨g, 3, none⟩ = some (.slice As x1.stack.length cs) := (blk_cell bg 3).trans rfl; have f6b := blk_frozen bg 3; have ecg := hcv _ (HKc.out.trans (Keeps.grown hg (fun k hp e => HW2.out.s.1 k e.symm hp)))
   clear ho hb2 hg hat bg
   refine hK.out _ _ ⟨c6b, ecg⟩ (fun hHeld => ?_)
   clear hK K
   refine norm_ (a' := ?_) ?_ ?_; rotate_left; (simp only [Act.put, sq0, sq1, sq2, sq3, sq4]; rfl)
   iterate 2 (refine pureL (N := some _) rfl rfl (by kernel_rfl) (fun _ _ _ h => h) (by rfl) (v := ?_) (a' := ?_) ?_ ?_ ?_; rotate_left; (intro w'; go_simp; with_reducible rfl); rotate_left; (simp only [Act.put, sq0, sq1, sq2, sq3, sq4]; rfl))
   refine last_ (i := 13) (N := none) (preL 14 14) rfl rfl (by kernel_rfl) (by decide) (fun K hK => ?_)
   refine skip_ (w1 := ?_) (by rfl) rfl ?_ ?_; rotate_left; (go_simp; rfl)
   refine hK.out _ _ ?_
   clear hK K
   refine doneL (by kernel_rfl) ?_
   have hp := HW2.out.push (by decide) (by decide) (fun k hk => Nat.lt_of_lt_of_le (HP.out k hk) (HK2.out.trans HKc.out).size) (Kd.R_mono HO.out (fun _ _ => trivial)) HG.out HAT.out 3 rfl
   rw [List.length_append, List.length_singleton] at hp
   have HP1 := ak hp.1
   have HP2 := ak ((HK2.out.trans HKc.out).trans hp.2)
   clear hp
   go_wp2
   go_roundw
   case rel => exact ⟨j + 1, _, true, _, by omega, rfl, by go_num, HP1, HP2, ⟨by have := HT2.out; simpa using this⟩⟩
   case measure => simp [intOf]; omega
/-- What is there besides: a block that has come since. -/
theorem Wk.also {t : Nat} {pre : List Value} {P : Nat → Prop} {w w1 : World} {base g b : Nat} {vm vs : Value} {x : MS} (h : Wk t pre P w base g vm vs x) (hb : Below w.heap.size w w1) (hv : w.heap.size ≤ b) : Wk t pre (fun k => P k ∨ k = b) w1 base g vm vs x := by
 have := h.more (v := .slice (some ⟨b, 0, none⟩) 0 0) hb (fun k hk => by simp [Value.ownBlock] at hk; omega)
 exact ⟨this.blk, this.low, Kd.R_mono this.m (fun k hk hp => hk (by rcases hp with hp | hp; exact .inl hp; exact .inr (by simp [Value.ownBlock, hp]))), Kd.R_mono this.s (fun k hk hp => hk (by rcases hp with hp | hp; exact .inl hp; exact .inr (by simp [Value.ownBlock, hp]))), fun hp => this.gP (by rcases hp with hp | hp; exact .inl hp; exact .inr (by simp [Value.ownBlock, hp]))⟩
/-- Touches behind what counts has been told. -/
theorem rk_after (room : Int) (P : Nat → Prop) (w w3 : World) (base g : Nat) (vm vs : Value) (x x' : MS) (v : Value) (l : List Int) (r : Bool)
  (hW : Wk 28 [] P w base g vm vs x) (hP : ∀ k, P k → k < w.heap.size) (hb : base ≤ w.heap.size) (hB : Below w.heap.size w w3) (hv : Kd.R (Kd.int .i64) 3 w3 w.heap.size (fun _ => True) v l) (h : MS.touches room l x false = some (x', r)) :
  ∃ A c, v = .slice A l.length c ∧ Calls Try.prog 48 #[.pointer (some ⟨g, 0, none⟩), .int .i64 room, .slice A l.length c] w3 (TouchPost 28 [] P w base g vm x' r) := by
 obtain ⟨A, c, rfl⟩ := Kd.R_slice hv
 have hown : ∀ k, (Value.slice A l.length c).ownBlock = some k → w.heap.size ≤ k := fun k hk => Kd.R_base hv k hk
 refine ⟨A, c, rfl, ?_⟩
 have hW3 := hW.more hB hown
 have hP3 : ∀ k, (P k ∨ some k = (Value.slice A l.length c).ownBlock) → k < w3.heap.size := fun k hk => by
  rcases hk with hk | hk
  ·exact Nat.lt_of_lt_of_le (hP k hk) hB.size
  ·exact Kd.R_lt hv k hk.symm
 have hl3 : Kd.R (Kd.int .i64) 3 w3 w.heap.size (fun k => P k ∨ some k = (Value.slice A l.length c).ownBlock) (.slice A l.length c) l := Kd.R_reok rfl hv (fun k hk => .inr hk.symm)
 refine (rk_touch room _ w3 base _ g vm vs x x' A c l r hW3 hP3 (Nat.le_trans hb hB.size) hl3 h).mono ?_
 rintro e w4 ⟨rfl, vs', h1, h2⟩
 exact ⟨rfl, vs', h1.weaker (fun k hk => .inl hk), (Keeps.of_below hB).trans (h2.weaker (fun k hk => .inl hk))⟩
def RS.drain (cf : List Bool → Int → Option (List Int)) (pf : MS → Option Bool) (room : Int) (s : MS) : Option MS :=
 if 0 < s.stack.length then (MS.from_ cf room { s with stack := s.stack.take (s.stack.length - 1) } (rd s.stack ((s.stack.length : Int) - 1))).bind fun q => some q.1
 else if s.scan = true then some { s with ph := 2, scan := false }
 else if s.over = true then some { s with ph := 2, at_ := 0, over := false, again := false }
 else (pf s).bind fun b => if b = true then some { s with ph := 2, at_ := 0, over := false, again := false } else some { s with ph := 3 }
def RS.unit (cf : List Bool → Int → Option (List Int)) (pf : MS → Option Bool) (n : Nat) (lr : List Int) (room : Int) (s : MS) : Option MS :=
 if s.ph = 0 then MS.roots lr room s else if s.ph = 1 then RS.drain cf pf room s else if s.ph = 2 then MS.scan_ cf n room s else some s
set_option maxHeartbeats 4000000 in
set_option maxRecDepth 100000 in
theorem rk_drain (k : Nat) (A0 : Option Addr) (c0 : Nat) (lc : List S56) (A1 : Option Addr) (c1 : Nat) (lr : List Int) (room : Int) (P : Nat → Prop) (w : World) (base g : Nat) (vm vs : Value) (x x' : MS)
  (hc0 : lc.length ≤ c0) (hc1 : lr.length ≤ c1)
  (hro : ∀ wd, Keeps P w wd → Kd.C k56 wd A0 lc.length lc ∧ Kd.C (Kd.int .i64) wd A1 lr.length lr)
  (hW : Wk 28 [] P w base g vm vs x) (hP : ∀ k, P k → k < w.heap.size) (hb : base ≤ w.heap.size)
  (h : RS.drain (fun m j => atticref19_counted.f k lc lr m j) (fun s => atticref19_paired.f k lc lr s.ph s.at_ s.marks s.stack s.over s.again s.scan) room x = some x') :
  Calls Try.prog 49 #[.agg #[.slice A0 lc.length c0, .slice A1 lr.length c1], .int .i64 room, .pointer (some ⟨g, 0, none⟩)] w (UnitPost 28 [] P w base g x') := by
 unfold RS.drain at h
 obtain ⟨As, cs, rfl, hls, hrs⟩ := Kd.R_reads hW.s
 obtain ⟨Am, cm, rfl, hlm, hrm⟩ := Kd.R_reads hW.m
 have hu25 := Try.underlying25
 have hu28 := Try.underlying28
 have HW := ak hW
 have HP := ak hP
 have HB := ak hb
 have HRO := ak hro
 by_cases h0 : 0 < x.stack.length
 ·rw [if_pos h0] at h
  obtain ⟨q, hq, h⟩ := Option.bind_eq_some_iff.1 h
  cases h
  obtain ⟨l, hl, hq⟩ := Option.bind_eq_some_iff.1 hq
  obtain ⟨m, hm⟩ : ∃ m, x.stack.length = m + 1 := ⟨x.stack.length - 1, by omega⟩
  obtain ⟨ad, rfl, hc⟩ := Kd.at_int hrs (m : Int) (by omega) (by omega)
  obtain ⟨i03, hi03, -⟩ := info_parts int_info
  have hcut := cut_to (P := Try.prog) 23 3 .i64 Try.underlying23 hi03 (some ad) (m + 1) cs (m : Int) (by omega) (by omega) (by omega)
  rw [Int.toNat_natCast] at hc hcut
  rw [hm, show m + 1 - 1 = m from rfl] at hq
  rw [hm, show (((m + 1 : Nat) : Int) - 1) = (m : Int) from by omega] at hl
  have HL := ak hl
  have HQ := ak hq
  have HM := ak hm
  have HCM := ak hlm
  have hmm : m ≤ 9223372036854775806 := by have := hrs.2.1; omega
  have h0b : decide (((m + 1 : Nat) : Int) > 0) = true := decide_eq_true (by omega)
  clear hq hl hW hP hb hro hrs hrm hls hi03 h0 hm hlm
  go_enter Try.func49, Try.ntmps49
  go_wp2_with (first | ((with_reducible refine gate_dst (N := 3) rfl ?_); refine box_event ?hg (N := 3) ?hd (cs := #[.slice A0 lc.length c0, .slice A1 lr.length c1]) (t := 25) ?hr ?_; (case hd => rfl); (case hg => rfl); (case hr => go_simp <;> rfl); intro gb hg w1 hb1 hx1; have HX := ak hx1; have BK := ak hb1; have HW1 := ak (HW.out.also hx1 (Nat.le_of_eq hg.symm)); have HG := ak hg; have d3 : w1.cell? ⟨g, 3, none⟩ = some (.slice (some ad) (m + 1) cs) := (by rw [← HM.out]; exact (blk_cell HW1.out.blk 3).trans rfl); have f3 := blk_frozen HW1.out.blk 3; replace hc := pw_cell_below hx1 hc; clear hg hb1 hx1))
  have hW2 := (HM.out ▸ HW1.out).pop (m := m) (by decide) (by decide) (by have := HM.out; omega) 3 rfl
  have hK2 := Keeps.set (P := fun k => P k ∨ k = gb) w1 g 3 (.slice (some ad) m cs) HW1.out.gP
  clear hc d3 f3
  generalize w1.setCell ⟨g, 3, none⟩ (.slice (some ad) m cs) = w2 at hW2 hK2 ⊢
  have HW2 := ak hW2
  have HK2 := ak hK2
  have hK1 : Keeps P w w2 := (Keeps.of_below HX.out).trans (hK2.weaker (fun k hk => .inl hk))
  have BK2 := hK2.blk BK.out (.inr rfl)
  have d0 : w2.cell? ⟨gb, 0, none⟩ = some (.slice A0 lc.length c0) := (blk_cell BK2 0).trans rfl
  have d1 : w2.cell? ⟨gb, 1, none⟩ = some (.slice A1 lr.length c1) := (blk_cell BK2 1).trans rfl
  have d2 : w2.cell? ⟨g, 2, none⟩ = some (.slice Am x.marks.length cm) := (blk_cell hW2.blk 2).trans rfl
  have HK1 := ak hK1
  have HP2 : Aside0 (∀ k, (P k ∨ k = gb) → k < w2.heap.size) := ⟨fun k hk => by
   rcases hk with hk | rfl
   ·exact Nat.lt_of_lt_of_le (HP.out k hk) HK1.out.size
   ·exact blk_lt BK2⟩
  have HC := ak (atticref19_counted.calls k A0 c0 lc A1 c1 lr Am cm x.marks (rd x.stack (m : Int)) l w2.drew (HRO.out _ (HK1.out.trans (Keeps.drew _ _))).1 hc0 (HRO.out _ (HK1.out.trans (Keeps.drew _ _))).2 hc1 (Kd.R_reads' HW2.out.drew.m).2.2 HCM.out HL.out)
  have BK2' := ak BK2
  clear hW2 hK2 hK1 BK2
  go_region_held3 (fun w' => w'.cell? ⟨gb, 0, none⟩ = some (.slice A0 lc.length c0) ∧ w'.cell? ⟨gb, 1, none⟩ = some (.slice A1 lr.length c1) ∧ w'.cell? ⟨g, 2, none⟩ = some (.slice Am x.marks.length cm))
   (first | exact ⟨d0, d1, d2⟩ | exact ⟨e0, e1, e2⟩ | exact ⟨z0, z1, z2⟩)
   (first | (go_at_call 46; (with_reducible refine HC.out.mono ?_); rintro e w3 ⟨v0, rfl, ho, hb⟩; obtain ⟨Al, cl, rfl, ht⟩ := rk_after room (fun k => P k ∨ k = gb) w2.drew w3 base g _ _ _ q.1 v0 l q.2 HW2.out.drew HP2.out (Nat.le_trans HB.out HK1.out.size) hb ho HQ.out; have e0 := pw_cell_below hb (show w2.drew.cell? _ = _ from d0); have e1 := pw_cell_below hb (show w2.drew.cell? _ = _ from d1); have e2 := pw_cell_below hb (show w2.drew.cell? _ = _ from d2); have HT := ak ht; clear ho hb ht) | (go_at_call 48; (with_reducible refine HT.out.mono ?_); rintro e w4 ⟨rfl, vs4, h4, k4⟩; have bk4 := (k4.blk (show w2.drew.heap[gb]? = _ from BK2'.out) (.inr rfl)); have z0 : w4.cell? ⟨gb, 0, none⟩ = some (.slice A0 lc.length c0) := (blk_cell bk4 0).trans rfl; have z1 : w4.cell? ⟨gb, 1, none⟩ = some (.slice A1 lr.length c1) := (blk_cell bk4 1).trans rfl; have z2 : w4.cell? ⟨g, 2, none⟩ = some (.slice Am x.marks.length cm) := (blk_cell h4.blk 2).trans rfl; have H4 := ak h4; have K4 := ak k4; clear h4 k4 bk4))
  go_wp2
  ((try simp only [Exit.inBlock, Exit.then]); refine bodyPost_ret (results_none rfl _ _ _) rfl ?_)
  exact ⟨⟨_, rfl⟩, _, vs4, H4.out.weaker (fun k hk => .inl hk), (HK1.out.trans (Keeps.drew _ _)).trans (K4.out.weaker (fun k hk => .inl hk))⟩
 rw [if_neg h0] at h
 have h00 : x.stack.length = 0 := by omega
 have H00 := ak h00
 have h0b : decide (((0 : Nat) : Int) > 0) = false := by decide
 have HRM := ak hrm
 have HCM := ak hlm
 clear hW hP hb hro hrs hrm hls h0 h00 hlm
 by_cases h1 : x.scan = true
 ·rw [if_pos h1] at h
  cases h
  have H1 := ak h1
  clear h1
  go_enter Try.func49, Try.ntmps49
  go_wp2_with (first | ((with_reducible refine gate_dst (N := 3) rfl ?_); refine box_event ?hg (N := 3) ?hd (cs := #[.slice A0 lc.length c0, .slice A1 lr.length c1]) (t := 25) ?hr ?_; (case hd => rfl); (case hg => rfl); (case hr => go_simp <;> rfl); intro gb hg w1 hb1 hx1; have HX := ak hx1; have BK := ak hb1; have HW1 := ak (HW.out.also hx1 (Nat.le_of_eq hg.symm)); have HG := ak hg; have d0 : w1.cell? ⟨g, 0, none⟩ = some (.int .i64 x.ph) := (blk_cell HW1.out.blk 0).trans rfl; have f0 := blk_frozen HW1.out.blk 0; have d3 : w1.cell? ⟨g, 3, none⟩ = some (.slice As 0 cs) := (by rw [← H00.out]; exact (blk_cell HW1.out.blk 3).trans rfl); have d6 : w1.cell? ⟨g, 6, none⟩ = some (.bool true) := (by rw [← H1.out]; exact (blk_cell HW1.out.blk 6).trans rfl); have f6 := blk_frozen HW1.out.blk 6; clear hg hb1 hx1))
  ((try simp only [Exit.inBlock, Exit.then]); refine bodyPost_ret (results_none rfl _ _ _) rfl ?_)
  exact ⟨⟨_, rfl⟩, _, _, ((HW1.out.setPh (by decide) (by decide) 2 0 rfl).setScan (by decide) (by decide) false 6 rfl).weaker (fun k hk => .inl hk), (Keeps.of_below HX.out).trans (((Keeps.set (P := fun k => P k ∨ k = gb) _ _ _ _ HW1.out.gP).trans (Keeps.set (P := fun k => P k ∨ k = gb) _ _ _ _ HW1.out.gP)).weaker (fun k hk => .inl hk))⟩
 rw [if_neg h1] at h
 have H1 := ak (Bool.eq_false_iff.2 h1)
 clear h1
 by_cases h2 : x.over = true
 ·rw [if_pos h2] at h
  cases h
  have H2 := ak h2
  clear h2
  go_enter Try.func49, Try.ntmps49
  go_wp2_with (first | ((with_reducible refine gate_dst (N := 3) rfl ?_); refine box_event ?hg (N := 3) ?hd (cs := #[.slice A0 lc.length c0, .slice A1 lr.length c1]) (t := 25) ?hr ?_; (case hd => rfl); (case hg => rfl); (case hr => go_simp <;> rfl); intro gb hg w1 hb1 hx1; have HX := ak hx1; have BK := ak hb1; have HW1 := ak (HW.out.also hx1 (Nat.le_of_eq hg.symm)); have HG := ak hg; have d0 : w1.cell? ⟨g, 0, none⟩ = some (.int .i64 x.ph) := (blk_cell HW1.out.blk 0).trans rfl; have f0 := blk_frozen HW1.out.blk 0; have d1 : w1.cell? ⟨g, 1, none⟩ = some (.int .i64 x.at_) := (blk_cell HW1.out.blk 1).trans rfl; have f1 := blk_frozen HW1.out.blk 1; have d2 : w1.cell? ⟨g, 2, none⟩ = some (.slice Am x.marks.length cm) := (blk_cell HW1.out.blk 2).trans rfl; have f2 := blk_frozen HW1.out.blk 2; have d3 : w1.cell? ⟨g, 3, none⟩ = some (.slice As 0 cs) := (by rw [← H00.out]; exact (blk_cell HW1.out.blk 3).trans rfl); have d6 : w1.cell? ⟨g, 6, none⟩ = some (.bool false) := (by rw [← H1.out]; exact (blk_cell HW1.out.blk 6).trans rfl); have d4 : w1.cell? ⟨g, 4, none⟩ = some (.bool true) := (by rw [← H2.out]; exact (blk_cell HW1.out.blk 4).trans rfl); have d5 : w1.cell? ⟨g, 5, none⟩ = some (.bool x.again) := (blk_cell HW1.out.blk 5).trans rfl; have f5 := blk_frozen HW1.out.blk 5; have f4 := blk_frozen HW1.out.blk 4; have q0 : w1.cell? ⟨gb, 0, none⟩ = some (.slice A0 lc.length c0) := (blk_cell BK.out 0).trans rfl; have q1 : w1.cell? ⟨gb, 1, none⟩ = some (.slice A1 lr.length c1) := (blk_cell BK.out 1).trans rfl; clear hg hb1 hx1))
  go_quiet ((fail))
  have HW2 := ak (HW1.out.drewN nq)
  have HK2 := ak ((Keeps.of_below HX.out).trans (Keeps.drewN P _ nq))
  clear d0 d1 d2 d3 d4 d5 d6 q0 q1 f0 f1 f2 f4 f5
  generalize w1.drewN nq = w2 at HW2 HK2 ⊢
  have d0 : w2.cell? ⟨g, 0, none⟩ = some (.int .i64 x.ph) := (blk_cell HW2.out.blk 0).trans rfl
  have d1 : w2.cell? ⟨g, 1, none⟩ = some (.int .i64 x.at_) := (blk_cell HW2.out.blk 1).trans rfl
  have d4 : w2.cell? ⟨g, 4, none⟩ = some (.bool x.over) := (blk_cell HW2.out.blk 4).trans rfl
  have d5 : w2.cell? ⟨g, 5, none⟩ = some (.bool x.again) := (blk_cell HW2.out.blk 5).trans rfl
  have f0 := blk_frozen HW2.out.blk 0
  have f1 := blk_frozen HW2.out.blk 1
  have f4 := blk_frozen HW2.out.blk 4
  have f5 := blk_frozen HW2.out.blk 5
  go_wp2
  ((try simp only [Exit.inBlock, Exit.then]); refine bodyPost_ret (results_none rfl _ _ _) rfl ?_)
  exact ⟨⟨_, rfl⟩, _, _, ((((HW2.out.setPh (by decide) (by decide) 2 0 rfl).setAt (by decide) (by decide) 0 1 rfl).setOver (by decide) (by decide) false 4 rfl).setAgain (by decide) (by decide) false 5 rfl).weaker (fun k hk => .inl hk), HK2.out.trans (((((Keeps.set (P := fun k => P k ∨ k = gb) _ _ _ _ HW2.out.gP).trans (Keeps.set (P := fun k => P k ∨ k = gb) _ _ _ _ HW2.out.gP)).trans (Keeps.set (P := fun k => P k ∨ k = gb) _ _ _ _ HW2.out.gP)).trans (Keeps.set (P := fun k => P k ∨ k = gb) _ _ _ _ HW2.out.gP)).weaker (fun k hk => .inl hk))⟩
 rw [if_neg h2] at h
 have h2' := Bool.eq_false_iff.2 h2
 have H2 := ak h2'
 clear h2 h2'
 obtain ⟨b, hpb, h⟩ := Option.bind_eq_some_iff.1 h
 have HPB := ak hpb
 have HH := ak h
 clear hpb h
 go_enter Try.func49, Try.ntmps49
 go_wp2_with (first | ((with_reducible refine gate_dst (N := 3) rfl ?_); refine box_event ?hg (N := 3) ?hd (cs := #[.slice A0 lc.length c0, .slice A1 lr.length c1]) (t := 25) ?hr ?_; (case hd => rfl); (case hg => rfl); (case hr => go_simp <;> rfl); intro gb hg w1 hb1 hx1; have HX := ak hx1; have BK := ak hb1; have HW1 := ak (HW.out.also hx1 (Nat.le_of_eq hg.symm)); have HG := ak hg; have d0 : w1.cell? ⟨g, 0, none⟩ = some (.int .i64 x.ph) := (blk_cell HW1.out.blk 0).trans rfl; have f0 := blk_frozen HW1.out.blk 0; have d1 : w1.cell? ⟨g, 1, none⟩ = some (.int .i64 x.at_) := (blk_cell HW1.out.blk 1).trans rfl; have f1 := blk_frozen HW1.out.blk 1; have d2 : w1.cell? ⟨g, 2, none⟩ = some (.slice Am x.marks.length cm) := (blk_cell HW1.out.blk 2).trans rfl; have f2 := blk_frozen HW1.out.blk 2; have d3 : w1.cell? ⟨g, 3, none⟩ = some (.slice As 0 cs) := (by rw [← H00.out]; exact (blk_cell HW1.out.blk 3).trans rfl); have d6 : w1.cell? ⟨g, 6, none⟩ = some (.bool false) := (by rw [← H1.out]; exact (blk_cell HW1.out.blk 6).trans rfl); have d4 : w1.cell? ⟨g, 4, none⟩ = some (.bool false) := (by rw [← H2.out]; exact (blk_cell HW1.out.blk 4).trans rfl); have d5 : w1.cell? ⟨g, 5, none⟩ = some (.bool x.again) := (blk_cell HW1.out.blk 5).trans rfl; have f5 := blk_frozen HW1.out.blk 5; have f4 := blk_frozen HW1.out.blk 4; have q0 : w1.cell? ⟨gb, 0, none⟩ = some (.slice A0 lc.length c0) := (blk_cell BK.out 0).trans rfl; have q1 : w1.cell? ⟨gb, 1, none⟩ = some (.slice A1 lr.length c1) := (blk_cell BK.out 1).trans rfl; clear hg hb1 hx1))
 have HPC := ak (atticref19_paired.calls k A0 c0 lc A1 c1 lr x.ph x.at_ Am cm x.marks As cs x.stack x.over x.again x.scan b w1.drew (HRO.out _ ((Keeps.of_below HX.out).trans (Keeps.drew _ _))).1 hc0 (HRO.out _ ((Keeps.of_below HX.out).trans (Keeps.drew _ _))).2 hc1 (Kd.R_reads' HW1.out.drew.m).2.2 HCM.out (Kd.R_reads' HW1.out.drew.s).2.2 (Kd.R_reads' HW1.out.drew.s).2.1 HPB.out)
 rw [H00.out, H2.out, H1.out] at HPC
 go_region_held3 (fun w' => w'.cell? ⟨gb, 0, none⟩ = some (.slice A0 lc.length c0) ∧ w'.cell? ⟨gb, 1, none⟩ = some (.slice A1 lr.length c1) ∧ w'.cell? ⟨g, 0, none⟩ = some (.int .i64 x.ph) ∧ w'.cell? ⟨g, 1, none⟩ = some (.int .i64 x.at_) ∧ w'.cell? ⟨g, 2, none⟩ = some (.slice Am x.marks.length cm) ∧ w'.cell? ⟨g, 3, none⟩ = some (.slice As 0 cs) ∧ w'.cell? ⟨g, 4, none⟩ = some (.bool false) ∧ w'.cell? ⟨g, 5, none⟩ = some (.bool x.again) ∧ w'.cell? ⟨g, 6, none⟩ = some (.bool false))
  (first | exact ⟨q0, q1, d0, d1, d2, d3, d4, d5, d6⟩ | exact ⟨y0, y1, e0, e1, e2, e3, e4, e5, e6⟩)
  (first | (go_at_call 57; (with_reducible refine HPC.out.mono ?_); rintro e w3 ⟨rfl, hb⟩; have y0 := pw_cell_below hb (show w1.drew.cell? _ = _ from q0); have y1 := pw_cell_below hb (show w1.drew.cell? _ = _ from q1); have e0 := pw_cell_below hb (show w1.drew.cell? _ = _ from d0); have e1 := pw_cell_below hb (show w1.drew.cell? _ = _ from d1); have e2 := pw_cell_below hb (show w1.drew.cell? _ = _ from d2); have e3 := pw_cell_below hb (show w1.drew.cell? _ = _ from d3); have e4 := pw_cell_below hb (show w1.drew.cell? _ = _ from d4); have e5 := pw_cell_below hb (show w1.drew.cell? _ = _ from d5); have e6 := pw_cell_below hb (show w1.drew.cell? _ = _ from d6); have HB3 := ak hb; clear hb))
 have HW3 := ak (HW1.out.drew.move HB3.out)
 have HK3 := ak (((Keeps.of_below HX.out).trans (Keeps.drew P _)).trans (Keeps.of_below HB3.out))
 have f0 := blk_frozen HW3.out.blk 0
 have f1 := blk_frozen HW3.out.blk 1
 have f4 := blk_frozen HW3.out.blk 4
 have f5 := blk_frozen HW3.out.blk 5
 have hh := HH.out
 clear HH
 cases b with
 | true =>
  rw [if_pos rfl] at hh
  cases hh
  go_wp2
  ((try simp only [Exit.inBlock, Exit.then]); refine bodyPost_ret (results_none rfl _ _ _) rfl ?_)
  exact ⟨⟨_, rfl⟩, _, _, ((((HW3.out.setPh (by decide) (by decide) 2 0 rfl).setAt (by decide) (by decide) 0 1 rfl).setOver (by decide) (by decide) false 4 rfl).setAgain (by decide) (by decide) false 5 rfl).weaker (fun k hk => .inl hk), HK3.out.trans (((((Keeps.set (P := fun k => P k ∨ k = gb) _ _ _ _ HW3.out.gP).trans (Keeps.set (P := fun k => P k ∨ k = gb) _ _ _ _ HW3.out.gP)).trans (Keeps.set (P := fun k => P k ∨ k = gb) _ _ _ _ HW3.out.gP)).trans (Keeps.set (P := fun k => P k ∨ k = gb) _ _ _ _ HW3.out.gP)).weaker (fun k hk => .inl hk))⟩
 | false =>
  rw [if_neg Bool.false_ne_true] at hh
  cases hh
  go_wp2
  go_end0
  exact ⟨⟨_, rfl⟩, _, _, (HW3.out.setPh (by decide) (by decide) 3 0 rfl).weaker (fun k hk => .inl hk), HK3.out.trans ((Keeps.set (P := fun k => P k ∨ k = gb) _ _ _ _ HW3.out.gP).weaker (fun k hk => .inl hk))⟩
theorem mark_on {w : World} {base n c : Nat} {ok : Nat → Prop} {ad : Addr} {m : List Bool} {i : Int} (h : Kd.R Kd.bool 4 w base ok (.slice (some ad) n c) m) (h0 : 0 ≤ i) (h1 : i < (n : Int)) (hv : rdOf false m i = true) (hn : m.length = n) : w.cell? (ad.add i.toNat) = some (.bool true) := by
 subst hn
 obtain ⟨ad2, e2, hc2⟩ := Kd.at_bool (Kd.R_reads' h).2.2 i h0 h1
 cases e2
 rw [hv] at hc2
 exact hc2
theorem touches_on {room : Int} : ∀ {l : List Int} {x : MS} {b : Bool} {q : MS × Bool}, MS.touches room l x b = some q → q.1.marks.length = x.marks.length ∧ ∀ i : Int, rdOf false x.marks i = true → rdOf false q.1.marks i = true
 | [], x, b, q, h => by cases h; exact ⟨rfl, fun _ h => h⟩
 | p :: l, x, b, q, h => by
  obtain ⟨⟨z, r1⟩, h1, h2⟩ := Option.bind_eq_some_iff.1 h
  obtain ⟨a, b⟩ := touches_on h2
  have key : z.marks.length = x.marks.length ∧ ∀ i : Int, rdOf false x.marks i = true → rdOf false z.marks i = true := by
   have hs : ∀ (m : List Bool) (n : Nat) (i : Int), rdOf false m i = true → rdOf false (m.set n true) i = true := fun m n i hi => by
    unfold rdOf at hi ⊢
    rw [List.getD_eq_getElem?_getD] at hi ⊢
    rw [List.getElem?_set]
    by_cases e : n = i.toNat; rotate_left
    ·simp [e]; simpa using hi
    subst e
    by_cases hlt : i.toNat < m.length; rotate_left
    ·simp [hlt] at hi
    simp [hlt]
   unfold MS.touch at h1
   split at h1
   ·split at h1
    ·cases h1; exact ⟨rfl, fun _ h => h⟩
    ·split at h1
     ·cases h1; exact ⟨by simp, fun i hi => hs _ _ i hi⟩
     ·cases h1; exact ⟨by simp, fun i hi => hs _ _ i hi⟩
   ·cases h1
  exact ⟨a.trans key.1, fun i hi => b i (key.2 i hi)⟩
set_option maxHeartbeats 4000000 in
set_option maxRecDepth 100000 in
theorem rk_scan (k : Nat) (A0 : Option Addr) (c0 : Nat) (lc : List S56) (A1 : Option Addr) (c1 : Nat) (lr : List Int) (room : Int) (P : Nat → Prop) (w : World) (base g : Nat) (vm vs : Value) (x x' : MS)
  (hc0 : lc.length ≤ c0) (hc1 : lr.length ≤ c1)
  (hro : ∀ wd, Keeps P w wd → Kd.C k56 wd A0 lc.length lc ∧ Kd.C (Kd.int .i64) wd A1 lr.length lr)
  (hW : Wk 28 [] P w base g vm vs x) (hP : ∀ k, P k → k < w.heap.size) (hb : base ≤ w.heap.size)
  (h : MS.scan_ (fun m j => atticref19_counted.f k lc lr m j) lc.length room x = some x') :
  Calls Try.prog 50 #[.agg #[.slice A0 lc.length c0, .slice A1 lr.length c1], .int .i64 room, .pointer (some ⟨g, 0, none⟩)] w (UnitPost 28 [] P w base g x') := by
 unfold MS.scan_ at h
 obtain ⟨Am, cm, rfl, hlm, hrm⟩ := Kd.R_reads hW.m
 have hu25 := Try.underlying25
 have hu28 := Try.underlying28
 have hml : x.marks.length ≤ 9223372036854775807 := hrm.2.1
 have HW := ak hW
 have HP := ak hP
 have HB := ak hb
 have HRO := ak hro
 have HCM := ak hlm
 by_cases h0 : x.at_ < (lc.length : Int); rotate_left
 ·rw [if_neg h0] at h
  have h0b : decide (x.at_ < (lc.length : Int)) = false := decide_eq_false h0
  have HH := ak h
  clear hW hP hb hro hrm hlm h0 h
  go_enter Try.func50, Try.ntmps50
  go_wp2_with (first | ((with_reducible refine gate_dst (N := 3) rfl ?_); refine box_event ?hg (N := 3) ?hd (cs := #[.slice A0 lc.length c0, .slice A1 lr.length c1]) (t := 25) ?hr ?_; (case hd => rfl); (case hg => rfl); (case hr => go_simp <;> rfl); intro gb hg w1 hb1 hx1; have HX := ak hx1; have BK := ak hb1; have HW1 := ak (HW.out.also hx1 (Nat.le_of_eq hg.symm)); have HG := ak hg; have d1 : w1.cell? ⟨g, 1, none⟩ = some (.int .i64 x.at_) := (blk_cell HW1.out.blk 1).trans rfl; have q0 : w1.cell? ⟨gb, 0, none⟩ = some (.slice A0 lc.length c0) := (blk_cell BK.out 0).trans rfl; clear hg hb1 hx1))
  go_quiet ((fail))
  have HW2 := ak (HW1.out.drewN nq)
  have HK2 := ak ((Keeps.of_below HX.out).trans (Keeps.drewN P _ nq))
  have BK2 : Aside0 ((w1.drewN nq).heap[gb]? = _) := ⟨BK.out⟩
  clear d1 q0
  generalize w1.drewN nq = w2 at HW2 HK2 BK2 ⊢
  clear nq
  have d1 : w2.cell? ⟨g, 1, none⟩ = some (.int .i64 x.at_) := (blk_cell HW2.out.blk 1).trans rfl
  have f1 := blk_frozen HW2.out.blk 1
  have hh := HH.out
  clear HH
  have d0 : w2.cell? ⟨g, 0, none⟩ = some (.int .i64 x.ph) := (blk_cell HW2.out.blk 0).trans rfl
  have d4 : w2.cell? ⟨g, 4, none⟩ = some (.bool x.over) := (blk_cell HW2.out.blk 4).trans rfl
  have d5 : w2.cell? ⟨g, 5, none⟩ = some (.bool x.again) := (blk_cell HW2.out.blk 5).trans rfl
  have f0 := blk_frozen HW2.out.blk 0
  have f4 := blk_frozen HW2.out.blk 4
  have f5 := blk_frozen HW2.out.blk 5
  by_cases h1 : x.again = false ∧ x.over = false
  ·rw [if_pos h1] at hh
   cases hh
   rw [h1.1] at d5
   rw [h1.2] at d4
   clear h1
   go_wp2
   go_end0
   exact ⟨⟨_, rfl⟩, _, _, ((((HW2.out.setAt (by decide) (by decide) 0 1 rfl).setPh (by decide) (by decide) 3 0 rfl).setAgain (by decide) (by decide) false 5 rfl).setOver (by decide) (by decide) false 4 rfl).weaker (fun k hk => .inl hk), HK2.out.trans (((((Keeps.set (P := fun k => P k ∨ k = gb) _ _ _ _ HW2.out.gP).trans (Keeps.set (P := fun k => P k ∨ k = gb) _ _ _ _ HW2.out.gP)).trans (Keeps.set (P := fun k => P k ∨ k = gb) _ _ _ _ HW2.out.gP)).trans (Keeps.set (P := fun k => P k ∨ k = gb) _ _ _ _ HW2.out.gP)).weaker (fun k hk => .inl hk))⟩
  rw [if_neg h1] at hh
  cases hh
  have HE := ak (((HW2.out.setAt (by decide) (by decide) 0 1 rfl).setAgain (by decide) (by decide) false 5 rfl).setOver (by decide) (by decide) false 4 rfl)
  have HKE := ak (((Keeps.set (P := fun k => P k ∨ k = gb) w2 g 1 (.int .i64 0) HW2.out.gP).trans (Keeps.set _ g 5 (.bool false) HW2.out.gP)).trans (Keeps.set _ g 4 (.bool false) HW2.out.gP))
  cases ha : x.again with
  | true =>
   rw [ha] at d5
   clear ha h1
   go_wp2
   go_end0
   exact ⟨⟨_, rfl⟩, _, _, HE.out.weaker (fun k hk => .inl hk), HK2.out.trans (HKE.out.weaker (fun k hk => .inl hk))⟩
  | false =>
   have ho : x.over = true := by cases ho : x.over with | true => rfl | false => exact absurd ⟨ha, ho⟩ h1
   rw [ha] at d5
   rw [ho] at d4
   clear ha ho h1
   go_wp2
   go_end0
   exact ⟨⟨_, rfl⟩, _, _, HE.out.weaker (fun k hk => .inl hk), HK2.out.trans (HKE.out.weaker (fun k hk => .inl hk))⟩
 rw [if_pos h0] at h
 have h0b : decide (x.at_ < (lc.length : Int)) = true := decide_eq_true h0
 by_cases h1 : 0 ≤ x.at_ ∧ x.at_ < (x.marks.length : Int); rotate_left
 ·rw [if_neg h1] at h; cases h
 rw [if_pos h1] at h
 obtain ⟨h1, h2⟩ := h1
 obtain ⟨ad, rfl, hc⟩ := Kd.at_bool hrm x.at_ h1 h2
 have hat : x.at_ ≤ 9223372036854775806 := by omega
 have HI1 := ak h1
 have HI2 := ak h2
 have h1' := eq_true h1
 have h2' := eq_true h2
 have ne : (ad.add x.at_.toNat).block ≠ g := by
  rw [add_block]
  have := hW.gm (by decide)
  intro e
  exact this (by simp [Value.ownBlock, e])
 have HC0 := ak hc
 have HNE := ak ne
 clear hc hrm hW hP hb hro hlm h0 ne
 cases hv : rdOf false x.marks x.at_ with
 | true =>
  rw [hv, if_pos rfl] at h
  obtain ⟨⟨q1, q2⟩, hq, h⟩ := Option.bind_eq_some_iff.1 h
  obtain ⟨l, hl, hq⟩ := Option.bind_eq_some_iff.1 hq
  have HL := ak hl
  have HQ := ak hq
  have HV := ak hv
  have HH := ak h
  clear hl hq hv h
  go_enter Try.func50, Try.ntmps50
  go_wp2_with (first | ((with_reducible refine gate_dst (N := 3) rfl ?_); refine box_event ?hg (N := 3) ?hd (cs := #[.slice A0 lc.length c0, .slice A1 lr.length c1]) (t := 25) ?hr ?_; (case hd => rfl); (case hg => rfl); (case hr => go_simp <;> rfl); intro gb hg w1 hb1 hx1; have HX := ak hx1; have BK := ak hb1; have HW1 := ak (HW.out.also hx1 (Nat.le_of_eq hg.symm)); have HG := ak hg; have d1 : w1.cell? ⟨g, 1, none⟩ = some (.int .i64 x.at_) := (blk_cell HW1.out.blk 1).trans rfl; have q0 : w1.cell? ⟨gb, 0, none⟩ = some (.slice A0 lc.length c0) := (blk_cell BK.out 0).trans rfl; clear hg hb1 hx1))
  go_quiet ((fail))
  have HW2 := ak (HW1.out.drewN nq)
  have HK2 := ak ((Keeps.of_below HX.out).trans (Keeps.drewN P _ nq))
  have BK2 : Aside0 ((w1.drewN nq).heap[gb]? = _) := ⟨BK.out⟩
  clear d1 q0
  generalize w1.drewN nq = w2 at HW2 HK2 BK2 ⊢
  clear nq
  have d1 : w2.cell? ⟨g, 1, none⟩ = some (.int .i64 x.at_) := (blk_cell HW2.out.blk 1).trans rfl
  have f1 := blk_frozen HW2.out.blk 1
  go_wp2
  have hW3 := HW2.out.setAt (by decide) (by decide) (x.at_ + 1) 1 rfl
  have hK3 := HK2.out.trans ((Keeps.set (P := fun k => P k ∨ k = gb) w2 g 1 (.int .i64 (x.at_ + 1)) HW2.out.gP).weaker (fun k hk => .inl hk))
  have bk3 := (Keeps.set (P := fun k => P k ∨ k = gb) w2 g 1 (.int .i64 (x.at_ + 1)) HW2.out.gP).blk BK2.out (.inr rfl)
  clear d1 f1
  generalize w2.setCell ⟨g, 1, none⟩ (.int .i64 (x.at_ + 1)) = w3 at hW3 hK3 bk3 ⊢
  have HW3 := ak hW3
  have HK3 := ak hK3
  have BK3 := ak bk3
  have HP3 : Aside0 (∀ k, (P k ∨ k = gb) → k < w3.heap.size) := ⟨fun k hk => by
   rcases hk with hk | rfl
   ·exact Nat.lt_of_lt_of_le (HP.out k hk) HK3.out.size
   ·exact blk_lt BK3.out⟩
  have HC := ak (atticref19_counted.calls k A0 c0 lc A1 c1 lr (some ad) cm x.marks x.at_ l w3.drew (HRO.out _ (HK3.out.trans (Keeps.drew _ _))).1 hc0 (HRO.out _ (HK3.out.trans (Keeps.drew _ _))).2 hc1 (Kd.R_reads' HW3.out.drew.m).2.2 HCM.out HL.out)
  have d0 : w3.cell? ⟨gb, 0, none⟩ = some (.slice A0 lc.length c0) := (blk_cell BK3.out 0).trans rfl
  have d1 : w3.cell? ⟨gb, 1, none⟩ = some (.slice A1 lr.length c1) := (blk_cell BK3.out 1).trans rfl
  have d2 : w3.cell? ⟨g, 2, none⟩ = some (.slice (some ad) x.marks.length cm) := (blk_cell HW3.out.blk 2).trans rfl
  have dm : w3.cell? (ad.add x.at_.toNat) = some (.bool true) := by
   obtain ⟨ad2, e2, hc2⟩ := Kd.at_bool (Kd.R_reads' HW3.out.m).2.2 x.at_ HI1.out HI2.out
   cases e2
   rw [show rdOf false ({ x with at_ := x.at_ + 1 } : MS).marks x.at_ = true from HV.out] at hc2
   exact hc2
  clear hW3 hK3 bk3
  go_region_held3 (fun w' => w'.cell? ⟨gb, 0, none⟩ = some (.slice A0 lc.length c0) ∧ w'.cell? ⟨gb, 1, none⟩ = some (.slice A1 lr.length c1) ∧ w'.cell? ⟨g, 2, none⟩ = some (.slice (some ad) x.marks.length cm) ∧ w'.cell? (ad.add x.at_.toNat) = some (.bool true))
   (first | exact ⟨d0, d1, d2, dm⟩ | exact ⟨e0, e1, e2, em⟩ | exact ⟨z0, z1, z2, zm⟩)
   (first | (go_at_call 46; (with_reducible refine HC.out.mono ?_); rintro e w4 ⟨v0, rfl, ho, hb⟩; obtain ⟨Al, cl, rfl, ht⟩ := rk_after room (fun k => P k ∨ k = gb) w3.drew w4 base g _ _ _ q1 v0 l q2 HW3.out.drew HP3.out (Nat.le_trans HB.out HK3.out.size) hb ho HQ.out; have e0 := pw_cell_below hb (show w3.drew.cell? _ = _ from d0); have e1 := pw_cell_below hb (show w3.drew.cell? _ = _ from d1); have e2 := pw_cell_below hb (show w3.drew.cell? _ = _ from d2); have em := pw_cell_below hb (show w3.drew.cell? _ = _ from dm); have HT := ak ht; clear ho hb ht) | (go_at_call 48; (with_reducible refine HT.out.mono ?_); rintro e w5 ⟨rfl, vs4, h4, k4⟩; have bk4 := (k4.blk (show w3.drew.heap[gb]? = _ from BK3.out) (.inr rfl)); have z0 : w5.cell? ⟨gb, 0, none⟩ = some (.slice A0 lc.length c0) := (blk_cell bk4 0).trans rfl; have z1 : w5.cell? ⟨gb, 1, none⟩ = some (.slice A1 lr.length c1) := (blk_cell bk4 1).trans rfl; have z2 : w5.cell? ⟨g, 2, none⟩ = some (.slice (some ad) x.marks.length cm) := (blk_cell h4.blk 2).trans rfl; have zm : w5.cell? (ad.add x.at_.toNat) = some (.bool true) := mark_on h4.m HI1.out HI2.out ((touches_on HQ.out).2 _ HV.out) (touches_on HQ.out).1; have H4 := ak h4; have K4 := ak k4; clear h4 k4 bk4))
  have hh := HH.out
  have f0 := blk_frozen H4.out.blk 0
  have f5 := blk_frozen H4.out.blk 5
  have f6 := blk_frozen H4.out.blk 6
  have g0 : w5.cell? ⟨g, 0, none⟩ = some (.int .i64 q1.ph) := (blk_cell H4.out.blk 0).trans rfl
  have g5 : w5.cell? ⟨g, 5, none⟩ = some (.bool q1.again) := (blk_cell H4.out.blk 5).trans rfl
  have g6 : w5.cell? ⟨g, 6, none⟩ = some (.bool q1.scan) := (blk_cell H4.out.blk 6).trans rfl
  clear HH
  cases q2 with
  | true =>
   rw [if_pos rfl] at hh
   cases hh
   go_wp2
   ((try simp only [Exit.inBlock, Exit.then]); refine bodyPost_ret (results_none rfl _ _ _) rfl ?_)
   exact ⟨⟨_, rfl⟩, _, vs4, (((H4.out.setAgain (by decide) (by decide) true 5 rfl).setPh (by decide) (by decide) 1 0 rfl).setScan (by decide) (by decide) true 6 rfl).weaker (fun k hk => .inl hk), (HK3.out.trans (Keeps.drew _ _)).trans ((((K4.out.trans (Keeps.set _ _ _ _ H4.out.gP)).trans (Keeps.set _ _ _ _ H4.out.gP)).trans (Keeps.set _ _ _ _ H4.out.gP)).weaker (fun k hk => .inl hk))⟩
  | false =>
   rw [if_neg (show ¬ ((q1, false).2 = true) from Bool.false_ne_true)] at hh
   cases hh
   go_wp2
   ((try simp only [Exit.inBlock, Exit.then]); refine bodyPost_ret (results_none rfl _ _ _) rfl ?_)
   exact ⟨⟨_, rfl⟩, _, vs4, H4.out.weaker (fun k hk => .inl hk), (HK3.out.trans (Keeps.drew _ _)).trans (K4.out.weaker (fun k hk => .inl hk))⟩
 | false =>
  rw [hv, if_neg (by decide)] at h
  cases h
  have HV := ak hv
  clear hv
  go_enter Try.func50, Try.ntmps50
  go_wp2_with (first | ((with_reducible refine gate_dst (N := 3) rfl ?_); refine box_event ?hg (N := 3) ?hd (cs := #[.slice A0 lc.length c0, .slice A1 lr.length c1]) (t := 25) ?hr ?_; (case hd => rfl); (case hg => rfl); (case hr => go_simp <;> rfl); intro gb hg w1 hb1 hx1; have HX := ak hx1; have BK := ak hb1; have HW1 := ak (HW.out.also hx1 (Nat.le_of_eq hg.symm)); have HG := ak hg; have d1 : w1.cell? ⟨g, 1, none⟩ = some (.int .i64 x.at_) := (blk_cell HW1.out.blk 1).trans rfl; have q0 : w1.cell? ⟨gb, 0, none⟩ = some (.slice A0 lc.length c0) := (blk_cell BK.out 0).trans rfl; clear hg hb1 hx1))
  go_quiet ((fail))
  have HW2 := ak (HW1.out.drewN nq)
  have HK2 := ak ((Keeps.of_below HX.out).trans (Keeps.drewN P _ nq))
  have BK2 : Aside0 ((w1.drewN nq).heap[gb]? = _) := ⟨BK.out⟩
  clear d1 q0
  generalize w1.drewN nq = w2 at HW2 HK2 BK2 ⊢
  clear nq
  have d1 : w2.cell? ⟨g, 1, none⟩ = some (.int .i64 x.at_) := (blk_cell HW2.out.blk 1).trans rfl
  have f1 := blk_frozen HW2.out.blk 1
  go_wp2
  have hW3 := HW2.out.setAt (by decide) (by decide) (x.at_ + 1) 1 rfl
  have hK3 := HK2.out.trans ((Keeps.set (P := fun k => P k ∨ k = gb) w2 g 1 (.int .i64 (x.at_ + 1)) HW2.out.gP).weaker (fun k hk => .inl hk))
  clear d1 f1
  generalize w2.setCell ⟨g, 1, none⟩ (.int .i64 (x.at_ + 1)) = w3 at hW3 hK3 ⊢
  have d2 : w3.cell? ⟨g, 2, none⟩ = some (.slice (some ad) x.marks.length cm) := (blk_cell hW3.blk 2).trans rfl
  have dm : w3.cell? (ad.add x.at_.toNat) = some (.bool false) := by
   obtain ⟨ad2, e2, hc2⟩ := Kd.at_bool (Kd.R_reads' hW3.m).2.2 x.at_ HI1.out HI2.out
   cases e2
   rw [show rdOf false ({ x with at_ := x.at_ + 1 } : MS).marks x.at_ = false from HV.out] at hc2
   exact hc2
  have HW3 := ak hW3
  have HK3 := ak hK3
  clear hW3 hK3
  refine startL (n := 19) (S := fun w' => w'.cell? ⟨g, 2, none⟩ = some (.slice (some ad) x.marks.length cm) ∧ w'.cell? (ad.add x.at_.toNat) = some (.bool false)) (ds := []) (by kernel_rfl) rfl ⟨d2, dm⟩ (fun hHeld => ?_)
  iterate 3 (refine pureL (N := some _) rfl rfl (by kernel_rfl) (fun _ _ _ h => h) (by rfl) (v := ?_) (a' := ?_) ?_ ?_ ?_; rotate_left; (intro w'; go_simp; with_reducible rfl); rotate_left; (simp only [Act.put, sq0, sq1, sq2, sq3, sq4]; rfl))
  (refine takeL (N := some _) rfl rfl (by kernel_rfl) (fun _ _ _ h => h) hHeld (by rfl) (v := ?_) (a' := ?_) ?_ ?_ ?_; rotate_left; (rintro w' ⟨z0, z1⟩; go_simp; with_reducible rfl); rotate_left; (simp only [Act.put, sq0, sq1, sq2, sq3, sq4]; rfl))
  iterate 2 (refine pureL (N := some _) rfl rfl (by kernel_rfl) (fun _ _ _ h => h) (by rfl) (v := ?_) (a' := ?_) ?_ ?_ ?_; rotate_left; (intro w'; go_simp; with_reducible rfl); rotate_left; (simp only [Act.put, sq0, sq1, sq2, sq3, sq4]; rfl))
  (refine takeL (N := some _) rfl rfl (by kernel_rfl) (fun _ _ _ h => h) hHeld (by rfl) (v := ?_) (a' := ?_) ?_ ?_ ?_; rotate_left; (rintro w' ⟨z0, z1⟩; go_simp; with_reducible rfl); rotate_left; (simp only [Act.put, sq0, sq1, sq2, sq3, sq4]; rfl))
  (refine pureL (N := some _) rfl rfl (by kernel_rfl) (fun _ _ _ h => h) (by rfl) (v := ?_) (a' := ?_) ?_ ?_ ?_; rotate_left; (intro w'; go_simp; with_reducible rfl); rotate_left; (simp only [Act.put, sq0, sq1, sq2, sq3, sq4]; rfl))
  iterate 10 (refine offL (N := some _) rfl rfl (by kernel_rfl) (fun _ _ _ h => h) (by rfl) (a' := ?_) ?_ ?_; rotate_left; (simp only [Act.put, sq0, sq1, sq2, sq3, sq4]; rfl))
  (refine pureL (N := some _) rfl rfl (by kernel_rfl) (fun _ _ _ h => h) (by rfl) (v := ?_) (a' := ?_) ?_ ?_ ?_; rotate_left; (intro w'; go_simp; with_reducible rfl); rotate_left; (simp only [Act.put, sq0, sq1, sq2, sq3, sq4]; rfl))
  refine doneL (by kernel_rfl) ?_
  go_wp2
  ((try simp only [Exit.inBlock, Exit.then]); refine bodyPost_ret (results_none rfl _ _ _) rfl ?_)
  exact ⟨⟨_, rfl⟩, _, _, HW3.out.drew.weaker (fun k hk => .inl hk), HK3.out.trans (Keeps.drew _ _)⟩
/-- Seven cells of a block, written one behind the other. -/
theorem seven {w : World} {g t : Nat} {a0 a1 a2 a3 a4 a5 a6 : Value} (h : w.heap[g]? = some (.cells #[a0, a1, a2, a3, a4, a5, a6] t (0, 0))) (b0 b1 b2 b3 b4 b5 b6 : Value) :
  (((((((w.setCell ⟨g, 0, none⟩ b0).setCell ⟨g, 1, none⟩ b1).setCell ⟨g, 2, none⟩ b2).setCell ⟨g, 3, none⟩ b3).setCell ⟨g, 4, none⟩ b4).setCell ⟨g, 5, none⟩ b5).setCell ⟨g, 6, none⟩ b6).heap[g]? = some (.cells #[b0, b1, b2, b3, b4, b5, b6] t (0, 0)) ∧ (∀ {α : Type} (d : Kd α) (e base : Nat) (ok : Nat → Prop) (v : Value) (xs : List α), (∀ q ∈ e :: d.E, q ≠ t) → d.R e w base ok v xs → d.R e (((((((w.setCell ⟨g, 0, none⟩ b0).setCell ⟨g, 1, none⟩ b1).setCell ⟨g, 2, none⟩ b2).setCell ⟨g, 3, none⟩ b3).setCell ⟨g, 4, none⟩ b4).setCell ⟨g, 5, none⟩ b5).setCell ⟨g, 6, none⟩ b6) base ok v xs) ∧ (∀ (w0 : World), w0.heap.size ≤ g → Below w0.heap.size w0 w → Below w0.heap.size w0 (((((((w.setCell ⟨g, 0, none⟩ b0).setCell ⟨g, 1, none⟩ b1).setCell ⟨g, 2, none⟩ b2).setCell ⟨g, 3, none⟩ b3).setCell ⟨g, 4, none⟩ b4).setCell ⟨g, 5, none⟩ b5).setCell ⟨g, 6, none⟩ b6)) ∧ (∀ P : Nat → Prop, ¬ P g → Keeps P w (((((((w.setCell ⟨g, 0, none⟩ b0).setCell ⟨g, 1, none⟩ b1).setCell ⟨g, 2, none⟩ b2).setCell ⟨g, 3, none⟩ b3).setCell ⟨g, 4, none⟩ b4).setCell ⟨g, 5, none⟩ b5).setCell ⟨g, 6, none⟩ b6)) ∧ (∀ (k t' : Nat) (cs : Array Value), k ≠ g → w.heap[k]? = some (.cells cs t' (0, 0)) → (((((((w.setCell ⟨g, 0, none⟩ b0).setCell ⟨g, 1, none⟩ b1).setCell ⟨g, 2, none⟩ b2).setCell ⟨g, 3, none⟩ b3).setCell ⟨g, 4, none⟩ b4).setCell ⟨g, 5, none⟩ b5).setCell ⟨g, 6, none⟩ b6).heap[k]? = some (.cells cs t' (0, 0))) := by
 have h0 := blk_put (cs' := #[b0, a1, a2, a3, a4, a5, a6]) h 0 b0 rfl
 have h1 := blk_put (cs' := #[b0, b1, a2, a3, a4, a5, a6]) h0 1 b1 rfl
 have h2 := blk_put (cs' := #[b0, b1, b2, a3, a4, a5, a6]) h1 2 b2 rfl
 have h3 := blk_put (cs' := #[b0, b1, b2, b3, a4, a5, a6]) h2 3 b3 rfl
 have h4 := blk_put (cs' := #[b0, b1, b2, b3, b4, a5, a6]) h3 4 b4 rfl
 have h5 := blk_put (cs' := #[b0, b1, b2, b3, b4, b5, a6]) h4 5 b5 rfl
 have h6 := blk_put (cs' := #[b0, b1, b2, b3, b4, b5, b6]) h5 6 b6 rfl
 refine ⟨h6, fun d e base ok v xs he hr => ?_, fun w0 h0 hb => ?_, fun P hp => ?_, fun k t' cs hk hb => ?_⟩
 ·exact Kd.R_set (Kd.R_set (Kd.R_set (Kd.R_set (Kd.R_set (Kd.R_set (Kd.R_set hr h he 0 b0) h0 he 1 b1) h1 he 2 b2) h2 he 3 b3) h3 he 4 b4) h4 he 5 b5) h5 he 6 b6
 ·exact bs_ (below_set (below_set (below_set (below_set (below_set (below_set (hb) h0 (j := 0) (v := b0)) h0 (j := 1) (v := b1)) h0 (j := 2) (v := b2)) h0 (j := 3) (v := b3)) h0 (j := 4) (v := b4)) h0 (j := 5) (v := b5)) h0 (j := 6) (v := b6)
 ·exact ((((((Keeps.set (P := P) _ _ _ _ hp).trans (Keeps.set _ _ _ _ hp)).trans (Keeps.set _ _ _ _ hp)).trans (Keeps.set _ _ _ _ hp)).trans (Keeps.set _ _ _ _ hp)).trans (Keeps.set _ _ _ _ hp)).trans (Keeps.set _ _ _ _ hp)
 ·exact blk_far (blk_far (blk_far (blk_far (blk_far (blk_far (blk_far (hb) (p := ⟨g, 0, none⟩) hk b0) (p := ⟨g, 1, none⟩) hk b1) (p := ⟨g, 2, none⟩) hk b2) (p := ⟨g, 3, none⟩) hk b3) (p := ⟨g, 4, none⟩) hk b4) (p := ⟨g, 5, none⟩) hk b5) (p := ⟨g, 6, none⟩) hk b6
def atticref19_Step.f (k : Nat) (lc : List S56) (lr : List Int) (room ph at_ : Int) (m : List Bool) (st : List Int) (ov ag sc : Bool) : Option (Int × Int × List Bool × List Int × Bool × Bool × Bool × Bool) :=
 if m.length < 140737488355328 ∧ st.length < 17592186044416 then
  (atticref19_Check.f k lc lr room ph at_ m st ov ag sc).bind fun e =>
   if e = 0 then (RS.unit (fun m j => atticref19_counted.f k lc lr m j) (fun s => atticref19_paired.f k lc lr s.ph s.at_ s.marks s.stack s.over s.again s.scan) lc.length lr room ⟨ph, at_, m, st, ov, ag, sc⟩).bind fun x => some (x.tup (x.ph == 3))
   else some (MS.tup ⟨ph, at_, m, st, ov, ag, sc⟩ true)
 else none
theorem RS.unit_mono {cf cf' : List Bool → Int → Option (List Int)} {pf pf' : MS → Option Bool} (h : ∀ m j, LeO (cf m j) (cf' m j)) (hp : ∀ s, LeO (pf s) (pf' s)) (n : Nat) (lr : List Int) (room : Int) (s : MS) : LeO (RS.unit cf pf n lr room s) (RS.unit cf' pf' n lr room s) := by
 have hf : ∀ (s : MS) (i : Int), LeO (MS.from_ cf room s i) (MS.from_ cf' room s i) := fun s i => LeO.bind (h _ _) (fun _ => LeO.refl _)
 unfold RS.unit
 refine LeO.ite (LeO.refl _) (LeO.ite ?_ (LeO.ite ?_ (LeO.refl _)))
 ·unfold RS.drain
  exact LeO.ite (LeO.bind (hf _ _) (fun _ => LeO.refl _)) (LeO.ite (LeO.refl _) (LeO.ite (LeO.refl _) (LeO.bind (hp _) (fun _ => LeO.refl _))))
 ·unfold MS.scan_
  exact LeO.ite (LeO.ite (LeO.ite (LeO.bind (hf _ _) (fun _ => LeO.refl _)) (LeO.refl _)) (LeO.refl _)) (LeO.refl _)
theorem atticref19_Step.mono : ∀ a0 a1 a2 a3 a4 a5 a6 a7 a8 a9 k, LeO (atticref19_Step.f k a0 a1 a2 a3 a4 a5 a6 a7 a8 a9) (atticref19_Step.f (k + 1) a0 a1 a2 a3 a4 a5 a6 a7 a8 a9) :=
 fun a0 a1 a2 a3 a4 a5 a6 a7 a8 a9 k => LeO.ite (LeO.bind (atticref19_Check.mono _ _ _ _ _ _ _ _ _ _ k) (fun _ => LeO.ite (LeO.bind (RS.unit_mono (fun _ _ => atticref19_counted.mono _ _ _ _ k) (fun _ => atticref19_paired.mono _ _ _ _ _ _ _ _ _ k) _ _ _ _) (fun _ => LeO.refl _)) (LeO.refl _))) (LeO.refl _)
set_option maxHeartbeats 8000000 in
set_option maxRecDepth 100000 in
theorem atticref19_Step.calls (k : Nat) (A0 : Option Addr) (c0 : Nat) (lc : List S56) (A1 : Option Addr) (c1 : Nat) (lr : List Int) (room ph at_ : Int) (A2 : Option Addr) (c2 : Nat) (m : List Bool) (A3 : Option Addr) (c3 : Nat) (st : List Int) (ov ag sc : Bool) (r1 r2 : Int) (r3 : List Bool) (r4 : List Int) (r5 r6 r7 : Bool) (r8 : Bool) (w : World)
  (hr0 : Kd.C k56 w A0 lc.length lc) (hc0 : lc.length ≤ c0) (hr1 : Kd.C (Kd.int .i64) w A1 lr.length lr) (hc1 : lr.length ≤ c1) (hr2 : Kd.C Kd.bool w A2 m.length m) (hc2 : m.length ≤ c2) (hr3 : Kd.C (Kd.int .i64) w A3 st.length st) (hc3 : st.length ≤ c3)
  (h : atticref19_Step.f k lc lr room ph at_ m st ov ag sc = some (r1, r2, r3, r4, r5, r6, r7, r8)) :
  Calls Try.prog 27 #[.agg #[.slice A0 lc.length c0, .slice A1 lr.length c1], .int .i64 room, .agg #[.int .i64 ph, .int .i64 at_, .slice A2 m.length c2, .slice A3 st.length c3, .bool ov, .bool ag, .bool sc]] w fun e w' => ∃ v2_ v3_ : Value, e = .returned (.tuple #[.agg #[.int .i64 r1, .int .i64 r2, v2_, v3_, .bool r5, .bool r6, .bool r7], .bool r8]) ∧ Kd.R Kd.bool 4 w' w.heap.size (fun _ => True) v2_ r3 ∧ Kd.R (Kd.int .i64) 3 w' w.heap.size (fun _ => True) v3_ r4 ∧ Below w.heap.size w w' := by
 have hu25 := Try.underlying25
 have hu28 := Try.underlying28
 unfold atticref19_Step.f at h
 by_cases hbd : m.length < 140737488355328 ∧ st.length < 17592186044416
 case neg => rw [if_neg hbd] at h; cases h
 rw [if_pos hbd] at h
 obtain ⟨e0, he0, h⟩ := Option.bind_eq_some_iff.1 h
 have HCL := ak (fun wd (hd : Below w.heap.size w wd) => atticref19_Clone.calls ph at_ A2 c2 m A3 c3 st ov ag sc ph at_ m st ov ag sc wd (Kd.C_below hr2 hd) hc2 (Kd.C_below hr3 hd) hc3 (by unfold atticref19_Clone.f; rw [if_pos (by simpa using hbd.1), if_pos (by simpa using hbd.2)]; rfl))
 have HCK := ak (fun wd (hd : Below w.heap.size w wd) A2 c2 A3 c3 (h2 : Kd.C Kd.bool wd A2 m.length m) (hc2 : m.length ≤ c2) (h3 : Kd.C (Kd.int .i64) wd A3 st.length st) (hc3 : st.length ≤ c3) => atticref19_Check.calls k A0 c0 lc A1 c1 lr room ph at_ A2 c2 m A3 c3 st ov ag sc e0 wd (Kd.C_below hr0 hd) hc0 (Kd.C_below hr1 hd) hc1 h2 hc2 h3 hc3 he0)
 have HR0 := ak hr0
 have HR1 := ak hr1
 have HC0 := ak hc0
 have HC1 := ak hc1
 have HH := ak h
 clear hr0 hr1 hr2 hr3 hc0 hc1 hc2 hc3 hbd he0 h
 go_enter Try.func27, Try.ntmps27
 go_upto_if 14 with (first | ((with_reducible refine gate_dst (N := 3) rfl ?_); refine box_event ?hg (N := 3) ?hd (cs := #[.slice A0 lc.length c0, .slice A1 lr.length c1]) (t := 25) ?hr ?_; (case hd => rfl); (case hg => rfl); (case hr => go_simp <;> rfl); intro gb hg w1 hb_ hx_; have HB1 := ak hx_; have BK1 := ak hb_; have GB := ak hg; clear hg hb_ hx_) | ((with_reducible refine gate_dst (N := 5) rfl ?_); refine box_event ?hg (N := 5) ?hd (cs := #[.int .i64 ph, .int .i64 at_, .slice A2 m.length c2, .slice A3 st.length c3, .bool ov, .bool ag, .bool sc]) (t := 28) ?hr ?_; (case hd => rfl); (case hg => rfl); (case hr => go_simp <;> rfl); intro gs hg w2 hb_ hx_; have HB2 := ak (HB1.out.trans (hx_.mono HB1.out.size)); have BK2 := ak (blk_below BK1.out hx_); have BS2 := ak hb_; have GS := ak hg; clear hg hb_ hx_) | ((with_reducible refine gate_dst (N := 6) rfl ?_); refine box_event ?hg (N := 6) ?hd (cs := #[.int .i64 0, .int .i64 0, .slice none 0 0, .slice none 0 0, .bool false, .bool false, .bool false]) (t := 28) ?hr ?_; (case hd => rfl); (case hg => rfl); (case hr => go_simp <;> rfl); intro gr hg w3 hb_ hx_; have HB3 := ak (HB2.out.trans (hx_.mono HB2.out.size)); have BK3 := ak (blk_below BK2.out hx_); have BS3 := ak (blk_below BS2.out hx_); have BR3 := ak hb_; have GR := ak hg; clear hg hb_ hx_; have y0 : w3.cell? ⟨gs, 0, none⟩ = some (.int .i64 ph) := (blk_cell BS3.out 0).trans rfl; have y1 : w3.cell? ⟨gs, 1, none⟩ = some (.int .i64 at_) := (blk_cell BS3.out 1).trans rfl; have y2 : w3.cell? ⟨gs, 2, none⟩ = some (.slice A2 m.length c2) := (blk_cell BS3.out 2).trans rfl; have y3 : w3.cell? ⟨gs, 3, none⟩ = some (.slice A3 st.length c3) := (blk_cell BS3.out 3).trans rfl; have y4 : w3.cell? ⟨gs, 4, none⟩ = some (.bool ov) := (blk_cell BS3.out 4).trans rfl; have y5 : w3.cell? ⟨gs, 5, none⟩ = some (.bool ag) := (blk_cell BS3.out 5).trans rfl; have y6 : w3.cell? ⟨gs, 6, none⟩ = some (.bool sc) := (blk_cell BS3.out 6).trans rfl) | (go_at_call 47; (with_reducible refine (HCL.out _ HB3.out).mono ?_); rintro e w4 ⟨vm, vs, rfl, hm, hs, hb_⟩; obtain ⟨Am, cm, rfl⟩ := Kd.R_slice hm; obtain ⟨As, cs, rfl⟩ := Kd.R_slice hs; have HM4 := ak hm; have HS4 := ak hs; have HB4 := ak (HB3.out.trans (hb_.mono HB3.out.size)); have BK4 := ak (blk_below BK3.out hb_); have BS4 := ak (blk_below BS3.out hb_); have BR4 := ak (blk_below BR3.out hb_); clear hm hs hb_ y0 y1 y2 y3 y4 y5 y6; have x0 : w4.cell? ⟨gs, 0, none⟩ = some (.int .i64 ph) := (blk_cell BS4.out 0).trans rfl; have fx0 := blk_frozen BS4.out 0; have x1 : w4.cell? ⟨gs, 1, none⟩ = some (.int .i64 at_) := (blk_cell BS4.out 1).trans rfl; have fx1 := blk_frozen BS4.out 1; have x2 : w4.cell? ⟨gs, 2, none⟩ = some (.slice A2 m.length c2) := (blk_cell BS4.out 2).trans rfl; have fx2 := blk_frozen BS4.out 2; have x3 : w4.cell? ⟨gs, 3, none⟩ = some (.slice A3 st.length c3) := (blk_cell BS4.out 3).trans rfl; have fx3 := blk_frozen BS4.out 3; have x4 : w4.cell? ⟨gs, 4, none⟩ = some (.bool ov) := (blk_cell BS4.out 4).trans rfl; have fx4 := blk_frozen BS4.out 4; have x5 : w4.cell? ⟨gs, 5, none⟩ = some (.bool ag) := (blk_cell BS4.out 5).trans rfl; have fx5 := blk_frozen BS4.out 5; have x6 : w4.cell? ⟨gs, 6, none⟩ = some (.bool sc) := (blk_cell BS4.out 6).trans rfl; have fx6 := blk_frozen BS4.out 6) | ((with_reducible refine gate_store (t := 28) (p := 5) rfl ?_); refine store_event (t := 28) (p := 5) (v := ?vo) (w1 := (((((((w4.setCell ⟨gs, 0, none⟩ (.int .i64 ph)).setCell ⟨gs, 1, none⟩ (.int .i64 at_)).setCell ⟨gs, 2, none⟩ (.slice Am m.length cm)).setCell ⟨gs, 3, none⟩ (.slice As st.length cs)).setCell ⟨gs, 4, none⟩ (.bool ov)).setCell ⟨gs, 5, none⟩ (.bool ag)).setCell ⟨gs, 6, none⟩ (.bool sc))) ?hg ?ho ?hn ?hr ?_; (case ho => rfl); (case hg => rfl); (case hn => rfl); (case hr => go_simp <;> rfl); intro w5 hw; have h7 := seven BS4.out (.int .i64 ph) (.int .i64 at_) (.slice Am m.length cm) (.slice As st.length cs) (.bool ov) (.bool ag) (.bool sc); rw [← hw] at h7; clear hw; obtain ⟨bs5, rs5, lo5, ke5, fa5⟩ := h7; have hgs : w.heap.size ≤ gs := (by rw [GS.out]; exact HB1.out.size); have hgb : gb = w.heap.size := GB.out; have hgr : gr = w2.heap.size := GR.out; have l3 : gr < w3.heap.size := blk_lt BR3.out; have l4 : gb < w3.heap.size := blk_lt BK3.out; have hbs : gb ≠ gs := blk_ne BK4.out BS4.out (by decide); have hrs : gr ≠ gs := (fun e => by have h1 := blk_lt BS2.out; omega); have HB5 := ak (lo5 w hgs HB4.out); have BK5 := ak (fa5 gb _ _ hbs BK4.out); have BR5 := ak (fa5 gr _ _ hrs BR4.out); have HW5 : Aside0 (Wk 28 [] (fun k => k < w.heap.size ∨ k = gb ∨ k = gr) w5 w.heap.size gs (.slice Am m.length cm) (.slice As st.length cs) ⟨ph, at_, m, st, ov, ag, sc⟩) := ⟨bs5, hgs, Kd.R_reok rfl (Kd.R_lower (rs5 _ _ _ _ _ _ (by decide) HM4.out) HB3.out.size) (fun k hk hp => by have := Kd.R_base HM4.out k hk; have := HB3.out.size; omega), Kd.R_reok rfl (Kd.R_lower (rs5 _ _ _ _ _ _ (by decide) HS4.out) HB3.out.size) (fun k hk hp => by have := Kd.R_base HS4.out k hk; have := HB3.out.size; omega), by omega⟩; have HGR : Aside0 (w.heap.size ≤ gr) := ⟨(by rw [hgr]; exact HB2.out.size)⟩; have HRS := ak hrs; have HBS := ak hbs; clear x0 fx0 x1 fx1 x2 fx2 x3 fx3 x4 fx4 x5 fx5 x6 fx6 bs5 rs5 lo5 ke5 fa5 HB1 HB2 HB3 HB4 BK1 BK2 BK3 BK4 BS2 BS3 BS4 BR3 BR4 GB GS GR HM4 HS4 hgs hgb hgr hbs hrs l3 l4; have d0 : w5.cell? ⟨gb, 0, none⟩ = some (.slice A0 lc.length c0) := (blk_cell BK5.out 0).trans rfl; have d1 : w5.cell? ⟨gb, 1, none⟩ = some (.slice A1 lr.length c1) := (blk_cell BK5.out 1).trans rfl; have z0 : w5.cell? ⟨gs, 0, none⟩ = some (.int .i64 ph) := (blk_cell HW5.out.blk 0).trans rfl; have z1 : w5.cell? ⟨gs, 1, none⟩ = some (.int .i64 at_) := (blk_cell HW5.out.blk 1).trans rfl; have z2 : w5.cell? ⟨gs, 2, none⟩ = some (.slice Am m.length cm) := (blk_cell HW5.out.blk 2).trans rfl; have z3 : w5.cell? ⟨gs, 3, none⟩ = some (.slice As st.length cs) := (blk_cell HW5.out.blk 3).trans rfl; have z4 : w5.cell? ⟨gs, 4, none⟩ = some (.bool ov) := (blk_cell HW5.out.blk 4).trans rfl; have z5 : w5.cell? ⟨gs, 5, none⟩ = some (.bool ag) := (blk_cell HW5.out.blk 5).trans rfl; have z6 : w5.cell? ⟨gs, 6, none⟩ = some (.bool sc) := (blk_cell HW5.out.blk 6).trans rfl) | (go_at_call 19; (with_reducible refine (HCK.out _ HB5.out _ _ _ _ (Kd.R_reads' HW5.out.m).2.2 (Kd.R_reads' HW5.out.m).2.1 (Kd.R_reads' HW5.out.s).2.2 (Kd.R_reads' HW5.out.s).2.1).mono ?_); rintro e w6 ⟨rfl, hb_⟩; have HB6 := ak (HB5.out.trans (hb_.mono HB5.out.size)); have BK6 := ak (blk_below BK5.out hb_); have BR6 := ak (blk_below BR5.out hb_); have HW6 := ak (HW5.out.move hb_); clear hb_ d0 d1 z0 z1 z2 z3 z4 z5 z6; have u0 : w6.cell? ⟨gs, 0, none⟩ = some (.int .i64 ph) := (blk_cell HW6.out.blk 0).trans rfl; have u1 : w6.cell? ⟨gs, 1, none⟩ = some (.int .i64 at_) := (blk_cell HW6.out.blk 1).trans rfl; have u2 : w6.cell? ⟨gs, 2, none⟩ = some (.slice Am m.length cm) := (blk_cell HW6.out.blk 2).trans rfl; have u3 : w6.cell? ⟨gs, 3, none⟩ = some (.slice As st.length cs) := (blk_cell HW6.out.blk 3).trans rfl; have u4 : w6.cell? ⟨gs, 4, none⟩ = some (.bool ov) := (blk_cell HW6.out.blk 4).trans rfl; have u5 : w6.cell? ⟨gs, 5, none⟩ = some (.bool ag) := (blk_cell HW6.out.blk 5).trans rfl; have u6 : w6.cell? ⟨gs, 6, none⟩ = some (.bool sc) := (blk_cell HW6.out.blk 6).trans rfl))
 by_cases hz : e0 = 0; rotate_left
 ·have hh := HH.out
  rw [if_neg hz] at hh
  have hh := Option.some.inj hh
  unfold MS.tup at hh
  simp only [Prod.mk.injEq] at hh
  obtain ⟨rfl, rfl, rfl, rfl, rfl, rfl, rfl, rfl⟩ := hh
  have hzb : (e0 != 0) = true := bne_iff_ne.2 hz
  clear HH hz
  go_wp2_with (first | ((with_reducible refine gate_store (t := 28) (p := 6) rfl ?_); have v0 : w6.cell? ⟨gr, 0, none⟩ = some (.int .i64 0) := (blk_cell BR6.out 0).trans rfl; have fv0 := blk_frozen BR6.out 0; have v1 : w6.cell? ⟨gr, 1, none⟩ = some (.int .i64 0) := (blk_cell BR6.out 1).trans rfl; have fv1 := blk_frozen BR6.out 1; have v2 : w6.cell? ⟨gr, 2, none⟩ = some (.slice none 0 0) := (blk_cell BR6.out 2).trans rfl; have fv2 := blk_frozen BR6.out 2; have v3 : w6.cell? ⟨gr, 3, none⟩ = some (.slice none 0 0) := (blk_cell BR6.out 3).trans rfl; have fv3 := blk_frozen BR6.out 3; have v4 : w6.cell? ⟨gr, 4, none⟩ = some (.bool false) := (blk_cell BR6.out 4).trans rfl; have fv4 := blk_frozen BR6.out 4; have v5 : w6.cell? ⟨gr, 5, none⟩ = some (.bool false) := (blk_cell BR6.out 5).trans rfl; have fv5 := blk_frozen BR6.out 5; have v6 : w6.cell? ⟨gr, 6, none⟩ = some (.bool false) := (blk_cell BR6.out 6).trans rfl; have fv6 := blk_frozen BR6.out 6; refine store_event (t := 28) (p := 6) (v := ?vo2) (w1 := (((((((w6.setCell ⟨gr, 0, none⟩ (.int .i64 ph)).setCell ⟨gr, 1, none⟩ (.int .i64 at_)).setCell ⟨gr, 2, none⟩ (.slice Am m.length cm)).setCell ⟨gr, 3, none⟩ (.slice As st.length cs)).setCell ⟨gr, 4, none⟩ (.bool ov)).setCell ⟨gr, 5, none⟩ (.bool ag)).setCell ⟨gr, 6, none⟩ (.bool sc))) ?hg2 ?ho2 ?hn2 ?hr2 ?_; (case ho2 => rfl); (case hg2 => rfl); (case hn2 => rfl); (case hr2 => first | (go_simp; done) | (go_simp; rfl)); intro w7 hw; have h7 := seven BR6.out (.int .i64 ph) (.int .i64 at_) (.slice Am m.length cm) (.slice As st.length cs) (.bool ov) (.bool ag) (.bool sc); rw [← hw] at h7; clear hw v0 fv0 v1 fv1 v2 fv2 v3 fv3 v4 fv4 v5 fv5 v6 fv6; obtain ⟨bs7, rs7, lo7, ke7, fa7⟩ := h7; have BR7 := ak bs7; have HM7 := ak (rs7 _ _ _ _ _ _ (by decide) HW6.out.m); have HS7 := ak (rs7 _ _ _ _ _ _ (by decide) HW6.out.s); have HB7 := ak (lo7 w HGR.out HB6.out); clear bs7 rs7 lo7 ke7 fa7 u0 u1 u2 u3 u4 u5 u6))
  refine bodyPost_ret (results_ct rfl _ _ gr 28 #[.int .i64 ph, .int .i64 at_, .slice Am m.length cm, .slice As st.length cs, .bool ov, .bool ag, .bool sc] (0, 0) _ rfl BR7.out Try.underlying28 rfl (by kernel_rfl)) rfl ?_
  exact ⟨_, _, by first | rfl | (simp; done), Kd.R_mono HM7.out (fun _ _ => trivial), Kd.R_mono HS7.out (fun _ _ => trivial), HB7.out⟩
 have hh := HH.out
 rw [if_pos hz] at hh
 obtain ⟨x', hu, hh⟩ := Option.bind_eq_some_iff.1 hh
 have hh := Option.some.inj hh
 unfold MS.tup at hh
 simp only [Prod.mk.injEq] at hh
 obtain ⟨rfl, rfl, rfl, rfl, rfl, rfl, rfl, rfl⟩ := hh
 subst hz
 have HU := ak hu
 clear hu HH
 go_upto_block 0 with (fail)
 go_cut [] (fun wx => ∃ vm' vs', Aside0 (Wk 28 [] (fun k => k < w.heap.size ∨ k = gb ∨ k = gr) wx w.heap.size gs vm' vs' x') ∧ Aside0 (Keeps (fun k => k < w.heap.size ∨ k = gb ∨ k = gr) w6 wx))
 case first =>
  have hu := HU.out
  unfold RS.unit at hu
  have hro : ∀ wd, Keeps (fun k => k < w.heap.size ∨ k = gb ∨ k = gr) w6 wd → Kd.C k56 wd A0 lc.length lc ∧ Kd.C (Kd.int .i64) wd A1 lr.length lr := fun wd hk => by
   have hb := HB6.out.trans (hk.below (fun k hk => .inl hk) HB6.out.size)
   exact ⟨Kd.C_below HR0.out hb, Kd.C_below HR1.out hb⟩
  have hP6 : ∀ k, k < w.heap.size ∨ k = gb ∨ k = gr → k < w6.heap.size := fun k hk => by
   rcases hk with hk | rfl | rfl
   ·exact Nat.lt_of_lt_of_le hk HB6.out.size
   ·exact blk_lt BK6.out
   ·exact blk_lt BR6.out
  by_cases h0 : ph = 0; rotate_left
  ·rw [if_neg h0] at hu
   have h0b : (ph == 0) = false := beq_eq_false_iff_ne.2 h0
   by_cases h1 : ph = 1
   ·rw [if_pos h1] at hu
    have h1b : (ph == 1) = true := beq_iff_eq.2 h1
    have HD := ak (rk_drain k A0 c0 lc A1 c1 lr room (fun k => k < w.heap.size ∨ k = gb ∨ k = gr) w6 w.heap.size gs _ _ _ x' HC0.out HC1.out hro HW6.out hP6 HB6.out.size hu)
    clear hro hP6 hu h0 h1
    have d0 : w6.cell? ⟨gb, 0, none⟩ = some (.slice A0 lc.length c0) := (blk_cell BK6.out 0).trans rfl
    have d1 : w6.cell? ⟨gb, 1, none⟩ = some (.slice A1 lr.length c1) := (blk_cell BK6.out 1).trans rfl
    go_wp2_with (first | (go_at_call 49; (with_reducible refine HD.out.mono ?_); rintro e w7 ⟨⟨_, rfl⟩, vm', vs', h7, k7⟩; have H7 := ak h7; have K7 := ak k7; clear h7 k7))
    go_meet
    case rel => exact ⟨vm', vs', H7, K7⟩
   rw [if_neg h1] at hu
   have h1b : (ph == 1) = false := beq_eq_false_iff_ne.2 h1
   by_cases h2 : ph = 2; rotate_left
   ·rw [if_neg h2] at hu
    have h2b : (ph == 2) = false := beq_eq_false_iff_ne.2 h2
    cases hu
    clear hro hP6 h0 h1 h2
    go_wp2
    go_meet
    case rel => exact ⟨_, _, HW6, ⟨Keeps.refl _ _⟩⟩
   rw [if_pos h2] at hu
   have h2b : (ph == 2) = true := beq_iff_eq.2 h2
   have HD := ak (rk_scan k A0 c0 lc A1 c1 lr room (fun k => k < w.heap.size ∨ k = gb ∨ k = gr) w6 w.heap.size gs _ _ _ x' HC0.out HC1.out hro HW6.out hP6 HB6.out.size hu)
   clear hro hP6 hu h0 h1 h2
   have d0 : w6.cell? ⟨gb, 0, none⟩ = some (.slice A0 lc.length c0) := (blk_cell BK6.out 0).trans rfl
   have d1 : w6.cell? ⟨gb, 1, none⟩ = some (.slice A1 lr.length c1) := (blk_cell BK6.out 1).trans rfl
   go_wp2_with (first | (go_at_call 50; (with_reducible refine HD.out.mono ?_); rintro e w7 ⟨⟨_, rfl⟩, vm', vs', h7, k7⟩; have H7 := ak h7; have K7 := ak k7; clear h7 k7))
   go_meet
   case rel => exact ⟨vm', vs', H7, K7⟩
  rw [if_pos h0] at hu
  have h0b : (ph == 0) = true := beq_iff_eq.2 h0
  unfold MS.roots at hu
  have d1 : w6.cell? ⟨gb, 1, none⟩ = some (.slice A1 lr.length c1) := (blk_cell BK6.out 1).trans rfl
  have hll : lr.length ≤ 9223372036854775807 := HR1.out.2.1
  by_cases h1 : at_ = (lr.length : Int)
  ·rw [if_pos h1] at hu
   cases hu
   have h1b : decide (at_ < (lr.length : Int)) = false := decide_eq_false (by omega)
   have f0 := blk_frozen HW6.out.blk 0
   have f1 := blk_frozen HW6.out.blk 1
   clear hro hP6 h0 h1
   go_wp2
   go_meet
   case rel => exact ⟨_, _, ⟨(HW6.out.setPh (by decide) (by decide) 1 0 rfl).setAt (by decide) (by decide) 0 1 rfl⟩, ⟨(Keeps.set (P := (fun k => k < w.heap.size ∨ k = gb ∨ k = gr)) _ _ _ _ HW6.out.gP).trans (Keeps.set _ _ _ _ HW6.out.gP)⟩⟩
  rw [if_neg h1] at hu
  by_cases h2 : 0 ≤ at_ ∧ at_ < (lr.length : Int)
  case neg => rw [if_neg h2] at hu; cases hu
  rw [if_pos h2] at hu
  obtain ⟨⟨q1, q2⟩, hq, hu⟩ := Option.bind_eq_some_iff.1 hu
  cases hu
  obtain ⟨h2, h3⟩ := h2
  have h3b : decide (at_ < (lr.length : Int)) = true := decide_eq_true h3
  obtain ⟨ad, rfl, hc0⟩ := Kd.at_int (Kd.C_below HR1.out HB6.out) at_ h2 h3
  have hat : at_ ≤ 9223372036854775806 := by omega
  have h2' := eq_true h2
  have h3' := eq_true h3
  have hq1 : MS.touches room [rd lr at_] ⟨ph, at_, m, st, ov, ag, sc⟩ false = some (q1, q2) := by
   show (MS.touch room _ (rd lr at_)).bind _ = _
   rw [hq, Option.bind_some]; rfl
  have HQ := ak hq1
  have HP6 := ak hP6
  have HAT := ak (touch_at hq).1
  clear hro hP6 h0 h1 hq hq1
  go_wp2_with (first | ((with_reducible refine gate_dst (N := 33) rfl ?_); refine Kd.R_lit (Kd.int .i64) _ 3 ?hg (N := 33) ?hd (xs := ([rd lr at_] : List Int)) (inner := [.int .i64 (rd lr at_)]) (ok := fun _ => True) (okp := fun _ => True) ?hr ?hp (fun _ hk => hk) trivial (Below.refl _ _) (Nat.le_refl _) (by simp) ?_; (case hd => rfl); (case hg => rfl); (case hr => go_simp <;> rfl); (case hp => exact (Reps.one (show Kd.M (Kd.int .i64) _ _ _ (rd lr at_) [.int .i64 (rd lr at_)] from rfl) (Reps.none _ _))); intro vl w7 ho hb_ hg_ hnew_; clear hg_ hnew_; obtain ⟨Al, cl, rfl, ht⟩ := rk_after room (fun k => k < w.heap.size ∨ k = gb ∨ k = gr) w6 w7 w.heap.size gs _ _ _ q1 vl [rd lr at_] q2 HW6.out HP6.out HB6.out.size hb_ ho HQ.out; rw [show ([rd lr at_] : List Int).length = 1 from rfl] at ht; have HT := ak ht; clear ht ho hb_) | (go_at_call 48; (with_reducible refine HT.out.mono ?_); rintro e w8 ⟨rfl, vs', h8, k8⟩; have H8 := ak h8; have K8 := ak k8; have e1 : w8.cell? ⟨gs, 1, none⟩ = some (.int .i64 at_) := (blk_cell h8.blk 1).trans (by rw [← HAT.out]; rfl); have fe1 := blk_frozen h8.blk 1; clear h8 k8))
  go_meet
  case rel =>
   have e9 : q1.at_ = at_ := HAT.out
   have h9 := H8.out.setAt (by decide) (by decide) (q1.at_ + 1) 1 rfl
   rw [show (Value.int .i64 (q1.at_ + 1)) = .int .i64 (at_ + 1) from by rw [e9]] at h9
   exact ⟨_, vs', ⟨h9⟩, ⟨K8.out.trans (Keeps.set (P := (fun k => k < w.heap.size ∨ k = gb ∨ k = gr)) _ _ _ _ H8.out.gP)⟩⟩
 case rest =>
  obtain ⟨vm', vs', HX, HK⟩ := hcut
  obtain ⟨Am, cm, rfl⟩ := Kd.R_slice HX.out.m
  obtain ⟨As, cs, rfl⟩ := Kd.R_slice HX.out.s
  have BRx := ak (HK.out.blk BR6.out (.inr (.inr rfl)))
  have HBx := ak (HB6.out.trans (HK.out.below (fun k hk => .inl hk) HB6.out.size))
  clear HB6 BK6 BR6 HW6 u0 u1 u2 u3 u4 u5 u6
  go_upto_region 15 with (fail)
  refine startL (n := 6) (S := fun w' => w'.cell? ⟨gs, 0, none⟩ = some (.int .i64 x'.ph) ∧ w'.cell? ⟨gs, 1, none⟩ = some (.int .i64 x'.at_) ∧ w'.cell? ⟨gs, 2, none⟩ = some (.slice Am x'.marks.length cm) ∧ w'.cell? ⟨gs, 3, none⟩ = some (.slice As x'.stack.length cs) ∧ w'.cell? ⟨gs, 4, none⟩ = some (.bool x'.over) ∧ w'.cell? ⟨gs, 5, none⟩ = some (.bool x'.again) ∧ w'.cell? ⟨gs, 6, none⟩ = some (.bool x'.scan)) (ds := []) (by kernel_rfl) rfl ⟨(blk_cell HX.out.blk 0).trans rfl, (blk_cell HX.out.blk 1).trans rfl, (blk_cell HX.out.blk 2).trans rfl, (blk_cell HX.out.blk 3).trans rfl, (blk_cell HX.out.blk 4).trans rfl, (blk_cell HX.out.blk 5).trans rfl, (blk_cell HX.out.blk 6).trans rfl⟩ (fun hHeld => ?_)
  have HX8 := ak HX.out.drew
  have BR8 := ak (blk_drew BRx.out)
  have HB8 := ak (below_drew HBx.out)
  generalize wc.drew = w8 at hHeld HX8 BR8 HB8 ⊢
  (refine takeL (N := some _) rfl rfl (by kernel_rfl) (fun _ _ _ h => h) hHeld (by rfl) (v := ?_) (a' := ?_) ?_ ?_ ?_; rotate_left; (rintro w' ⟨z0, z1, z2, z3, z4, z5, z6⟩; go_simp; with_reducible rfl); rotate_left; (simp only [Act.put, sq0, sq1, sq2, sq3, sq4]; rfl))
  (refine pureL (N := some _) rfl rfl (by kernel_rfl) (fun _ _ _ h => h) (by rfl) (v := ?_) (a' := ?_) ?_ ?_ ?_; rotate_left; (intro w'; go_simp; with_reducible rfl); rotate_left; (simp only [Act.put, sq0, sq1, sq2, sq3, sq4]; rfl))
  (refine takeL (N := some _) rfl rfl (by kernel_rfl) (fun _ _ _ h => h) hHeld (by rfl) (v := ?_) (a' := ?_) ?_ ?_ ?_; rotate_left; (rintro w' ⟨z0, z1, z2, z3, z4, z5, z6⟩; go_simp; with_reducible rfl); rotate_left; (simp only [Act.put, sq0, sq1, sq2, sq3, sq4]; rfl))
  (refine pureL (N := some _) rfl rfl (by kernel_rfl) (fun _ _ _ h => h) (by rfl) (v := ?_) (a' := ?_) ?_ ?_ ?_; rotate_left; (intro w'; go_simp; with_reducible rfl); rotate_left; (simp only [Act.put, sq0, sq1, sq2, sq3, sq4]; rfl))
  refine oneL (N := none) rfl rfl (by kernel_rfl) (by decide) (fun K hK => ?_)
  have v0 : w8.cell? ⟨gr, 0, none⟩ = some (.int .i64 0) := (blk_cell BR8.out 0).trans rfl; have fv0 := blk_frozen BR8.out 0
  have v1 : w8.cell? ⟨gr, 1, none⟩ = some (.int .i64 0) := (blk_cell BR8.out 1).trans rfl; have fv1 := blk_frozen BR8.out 1
  have v2 : w8.cell? ⟨gr, 2, none⟩ = some (.slice none 0 0) := (blk_cell BR8.out 2).trans rfl; have fv2 := blk_frozen BR8.out 2
  have v3 : w8.cell? ⟨gr, 3, none⟩ = some (.slice none 0 0) := (blk_cell BR8.out 3).trans rfl; have fv3 := blk_frozen BR8.out 3
  have v4 : w8.cell? ⟨gr, 4, none⟩ = some (.bool false) := (blk_cell BR8.out 4).trans rfl; have fv4 := blk_frozen BR8.out 4
  have v5 : w8.cell? ⟨gr, 5, none⟩ = some (.bool false) := (blk_cell BR8.out 5).trans rfl; have fv5 := blk_frozen BR8.out 5
  have v6 : w8.cell? ⟨gr, 6, none⟩ = some (.bool false) := (blk_cell BR8.out 6).trans rfl; have fv6 := blk_frozen BR8.out 6
  refine skip_ (w1 := (((((((w8.setCell ⟨gr, 0, none⟩ (.int .i64 x'.ph)).setCell ⟨gr, 1, none⟩ (.int .i64 x'.at_)).setCell ⟨gr, 2, none⟩ (.slice Am x'.marks.length cm)).setCell ⟨gr, 3, none⟩ (.slice As x'.stack.length cs)).setCell ⟨gr, 4, none⟩ (.bool x'.over)).setCell ⟨gr, 5, none⟩ (.bool x'.again)).setCell ⟨gr, 6, none⟩ (.bool x'.scan))) (by rfl) rfl (by go_simp) ?_
  have h7 := seven BR8.out (.int .i64 x'.ph) (.int .i64 x'.at_) (.slice Am x'.marks.length cm) (.slice As x'.stack.length cs) (.bool x'.over) (.bool x'.again) (.bool x'.scan)
  clear v0 fv0 v1 fv1 v2 fv2 v3 fv3 v4 fv4 v5 fv5 v6 fv6
  obtain ⟨bs7, rs7, lo7, ke7, fa7⟩ := h7
  have BR7 := ak bs7; have HM7 := ak (rs7 _ _ _ _ _ _ (by decide) HX8.out.m); have HS7 := ak (rs7 _ _ _ _ _ _ (by decide) HX8.out.s); have HB7 := ak (lo7 w HGR.out HB8.out); have bw := fa7 gs _ _ (Ne.symm HRS.out) HX8.out.blk
  clear bs7 rs7 lo7 ke7 fa7 hHeld
  generalize (((((((w8.setCell ⟨gr, 0, none⟩ (.int .i64 x'.ph)).setCell ⟨gr, 1, none⟩ (.int .i64 x'.at_)).setCell ⟨gr, 2, none⟩ (.slice Am x'.marks.length cm)).setCell ⟨gr, 3, none⟩ (.slice As x'.stack.length cs)).setCell ⟨gr, 4, none⟩ (.bool x'.over)).setCell ⟨gr, 5, none⟩ (.bool x'.again)).setCell ⟨gr, 6, none⟩ (.bool x'.scan)) = w9 at BR7 HM7 HS7 HB7 bw ⊢
  refine hK.out _ _ ⟨(blk_cell bw 0).trans rfl, (blk_cell bw 1).trans rfl, (blk_cell bw 2).trans rfl, (blk_cell bw 3).trans rfl, (blk_cell bw 4).trans rfl, (blk_cell bw 5).trans rfl, (blk_cell bw 6).trans rfl⟩ (fun hHeld => ?_)
  clear hK K bw
  (refine pureL (N := some _) rfl rfl (by kernel_rfl) (fun _ _ _ h => h) (by rfl) (v := ?_) (a' := ?_) ?_ ?_ ?_; rotate_left; (intro w'; go_simp; with_reducible rfl); rotate_left; (simp only [Act.put, sq0, sq1, sq2, sq3, sq4]; rfl))
  refine doneL (by kernel_rfl) ?_
  go_wp2
  refine bodyPost_ret (results_ct rfl _ _ gr 28 #[.int .i64 x'.ph, .int .i64 x'.at_, .slice Am x'.marks.length cm, .slice As x'.stack.length cs, .bool x'.over, .bool x'.again, .bool x'.scan] (0, 0) _ rfl BR7.out Try.underlying28 rfl (by kernel_rfl)) rfl ?_
  exact ⟨_, _, by first | rfl | (simp; done), Kd.R_mono HM7.out (fun _ _ => trivial), Kd.R_mono HS7.out (fun _ _ => trivial), HB7.out⟩
/-! ### atticref19_Run: function 28 -/
def atticref19_Run.l0 : Nat → Int → Int → Int → List (S56) → List Int → Int → Int → List Bool → List Int → Bool → Bool → Bool → Option (Int × Int × List Bool × List Int × Bool × Bool × Bool × Int)
 | 0, _, _, _, _, _, _, _, _, _, _, _, _ => none
 | k + 1, x1, x3, x10, x286000, x286001, x287000, x287001, x287002, x287003, x287004, x287005, x287006 => if x10 < x3 then (if x287000 = 3 then (some (x287000, x287001, x287002, x287003, x287004, x287005, x287006, x10)) else ((atticref19_Step.f k x286000 x286001 x1 x287000 x287001 x287002 x287003 x287004 x287005 x287006).bind fun bt300 => (atticref19_Run.l0 k x1 x3 (wrap64 (x10 + 1)) x286000 x286001 bt300.1 bt300.2.1 bt300.2.2.1 bt300.2.2.2.1 bt300.2.2.2.2.1 bt300.2.2.2.2.2.1 bt300.2.2.2.2.2.2.1))) else (some (x287000, x287001, x287002, x287003, x287004, x287005, x287006, x10))
def atticref19_Run.f (k : Nat) (l0_0 : List (S56)) (l0_1 : List Int) (a1 : Int) (a2_0 : Int) (a2_1 : Int) (l2_2 : List Bool) (l2_3 : List Int) (a2_4 : Bool) (a2_5 : Bool) (a2_6 : Bool) (a3 : Int) : Option (Int × Int × List Bool × List Int × Bool × Bool × Bool × Int) := (atticref19_Clone.f a2_0 a2_1 l2_2 l2_3 a2_4 a2_5 a2_6).bind fun bt288 => ((atticref19_Check.f k l0_0 l0_1 a1 bt288.1 bt288.2.1 bt288.2.2.1 bt288.2.2.2.1 bt288.2.2.2.2.1 bt288.2.2.2.2.2.1 bt288.2.2.2.2.2.2).bind fun t299 => (if t299 = 0 then (atticref19_Run.l0 k a1 a3 0 l0_0 l0_1 bt288.1 bt288.2.1 bt288.2.2.1 bt288.2.2.2.1 bt288.2.2.2.2.1 bt288.2.2.2.2.2.1 bt288.2.2.2.2.2.2) else (some (bt288.1, bt288.2.1, bt288.2.2.1, bt288.2.2.2.1, bt288.2.2.2.2.1, bt288.2.2.2.2.2.1, bt288.2.2.2.2.2.2, 0))))
theorem atticref19_Run.mono_l : ∀ k, (∀ y0 y1 y2 y3 y4 y5 y6 y7 y8 y9 y10 y11, LeO (atticref19_Run.l0 k y0 y1 y2 y3 y4 y5 y6 y7 y8 y9 y10 y11) (atticref19_Run.l0 (k + 1) y0 y1 y2 y3 y4 y5 y6 y7 y8 y9 y10 y11))
 | 0 => fun _ _ _ _ _ _ _ _ _ _ _ _ r h => by simp [atticref19_Run.l0] at h
 | k + 1 => by
  have ih0 := atticref19_Run.mono_l k
  ·intro y0 y1 y2 y3 y4 y5 y6 y7 y8 y9 y10 y11
   unfold atticref19_Run.l0
   repeat' first | (with_reducible first | exact ih0 _ _ _ _ _ _ _ _ _ _ _ _ | exact atticref19_Check.mono _ _ _ _ _ _ _ _ _ _ _ | exact atticref19_Step.mono _ _ _ _ _ _ _ _ _ _ _ | exact LeO.refl _ | exact LeO.none _ | refine LeO.ite ?_ ?_ | refine LeO.bind ?_ (fun _ => ?_)) | exact ih0 _ _ _ _ _ _ _ _ _ _ _ _ | exact atticref19_Check.mono _ _ _ _ _ _ _ _ _ _ _ | exact atticref19_Step.mono _ _ _ _ _ _ _ _ _ _ _ | exact LeO.none _ | refine LeO.ite ?_ ?_ | refine LeO.bind ?_ (fun _ => ?_)
theorem atticref19_Run.mono : ∀ a0 a1 a2 a3 a4 a5 a6 a7 a8 a9 a10 k, LeO (atticref19_Run.f k a0 a1 a2 a3 a4 a5 a6 a7 a8 a9 a10) (atticref19_Run.f (k + 1) a0 a1 a2 a3 a4 a5 a6 a7 a8 a9 a10) := by
 intro a0 a1 a2 a3 a4 a5 a6 a7 a8 a9 a10 k
 have ih0 := atticref19_Run.mono_l k
 unfold atticref19_Run.f
 repeat' first | (with_reducible first | exact ih0 _ _ _ _ _ _ _ _ _ _ _ _ | exact atticref19_Check.mono _ _ _ _ _ _ _ _ _ _ _ | exact atticref19_Step.mono _ _ _ _ _ _ _ _ _ _ _ | exact LeO.refl _ | exact LeO.none _ | refine LeO.ite ?_ ?_ | refine LeO.bind ?_ (fun _ => ?_)) | exact ih0 _ _ _ _ _ _ _ _ _ _ _ _ | exact atticref19_Check.mono _ _ _ _ _ _ _ _ _ _ _ | exact atticref19_Step.mono _ _ _ _ _ _ _ _ _ _ _ | exact LeO.none _ | refine LeO.ite ?_ ?_ | refine LeO.bind ?_ (fun _ => ?_)
set_option maxHeartbeats 8000000 in
set_option maxRecDepth 100000 in
theorem atticref19_Run.calls (k : Nat) (A0_0 : Option Addr) (c0_0 : Nat) (l0_0 : List (S56)) (A0_1 : Option Addr) (c0_1 : Nat) (l0_1 : List Int) (a1 : Int) (a2_0 : Int) (a2_1 : Int) (A2_2 : Option Addr) (c2_2 : Nat) (l2_2 : List Bool) (A2_3 : Option Addr) (c2_3 : Nat) (l2_3 : List Int) (a2_4 : Bool) (a2_5 : Bool) (a2_6 : Bool) (a3 : Int) (r1 : Int) (r2 : Int) (r3 : List Bool) (r4 : List Int) (r5 : Bool) (r6 : Bool) (r7 : Bool) (r8 : Int) (w : World) (hr0_0 : Kd.C k56 w A0_0 l0_0.length l0_0) (hc0_0 : l0_0.length ≤ c0_0) (hr0_1 : Kd.C (Kd.int .i64) w A0_1 l0_1.length l0_1) (hc0_1 : l0_1.length ≤ c0_1) (hr2_2 : Kd.C Kd.bool w A2_2 l2_2.length l2_2) (hc2_2 : l2_2.length ≤ c2_2) (hr2_3 : Kd.C (Kd.int .i64) w A2_3 l2_3.length l2_3) (hc2_3 : l2_3.length ≤ c2_3) (h : atticref19_Run.f k l0_0 l0_1 a1 a2_0 a2_1 l2_2 l2_3 a2_4 a2_5 a2_6 a3 = some (r1, r2, r3, r4, r5, r6, r7, r8)) :
  Calls Try.prog 28 #[.agg #[.slice A0_0 l0_0.length c0_0, .slice A0_1 l0_1.length c0_1], .int .i64 a1, .agg #[.int .i64 a2_0, .int .i64 a2_1, .slice A2_2 l2_2.length c2_2, .slice A2_3 l2_3.length c2_3, .bool a2_4, .bool a2_5, .bool a2_6], .int .i64 a3] w fun e w' => ∃ v2_ v3_ : Value, e = .returned (.tuple #[.agg #[.int .i64 r1, .int .i64 r2, v2_, v3_, .bool r5, .bool r6, .bool r7], .int .i64 r8]) ∧ Kd.R Kd.bool 4 w' w.heap.size (fun _ => True) v2_ r3 ∧ Kd.R (Kd.int .i64) 3 w' w.heap.size (fun _ => True) v3_ r4 ∧ Below w.heap.size w w' := by
 have hu25 := Try.underlying25
 have hu28 := Try.underlying28
 have HR0_0 := ak hr0_0
 have HC0_0 := ak hc0_0
 clear hr0_0 hc0_0
 have HR0_1 := ak hr0_1
 have HC0_1 := ak hc0_1
 clear hr0_1 hc0_1
 have HR2_2 := ak hr2_2
 have HC2_2 := ak hc2_2
 clear hr2_2 hc2_2
 have HR2_3 := ak hr2_3
 have HC2_3 := ak hc2_3
 clear hr2_3 hc2_3
 have HB := ak (Below.refl w.heap.size w)
 have H : ((atticref19_Clone.f a2_0 a2_1 l2_2 l2_3 a2_4 a2_5 a2_6).bind fun bt288 => ((atticref19_Check.f k l0_0 l0_1 a1 bt288.1 bt288.2.1 bt288.2.2.1 bt288.2.2.2.1 bt288.2.2.2.2.1 bt288.2.2.2.2.2.1 bt288.2.2.2.2.2.2).bind fun t299 => (if t299 = 0 then (atticref19_Run.l0 k a1 a3 0 l0_0 l0_1 bt288.1 bt288.2.1 bt288.2.2.1 bt288.2.2.2.1 bt288.2.2.2.2.1 bt288.2.2.2.2.2.1 bt288.2.2.2.2.2.2) else (some (bt288.1, bt288.2.1, bt288.2.2.1, bt288.2.2.2.1, bt288.2.2.2.2.1, bt288.2.2.2.2.2.1, bt288.2.2.2.2.2.2, 0))))) = some (r1, r2, r3, r4, r5, r6, r7, r8) := h
 clear h
 replace H := Option.bind_eq_some_iff.mp H
 obtain ⟨⟨t288, t289, t290, t293, t296, t297, t298⟩, A50, H⟩ := H
 replace H : ((atticref19_Check.f k l0_0 l0_1 a1 t288 t289 t290 t293 t296 t297 t298).bind fun t299 => (if t299 = 0 then (atticref19_Run.l0 k a1 a3 0 l0_0 l0_1 t288 t289 t290 t293 t296 t297 t298) else (some (t288, t289, t290, t293, t296, t297, t298, 0)))) = some (r1, r2, r3, r4, r5, r6, r7, r8) := H
 have A5 := ak A50
 clear A50
 replace H := Option.bind_eq_some_iff.mp H
 obtain ⟨t299, A60, H⟩ := H
 replace H : (if t299 = 0 then (atticref19_Run.l0 k a1 a3 0 l0_0 l0_1 t288 t289 t290 t293 t296 t297 t298) else (some (t288, t289, t290, t293, t296, t297, t298, 0))) = some (r1, r2, r3, r4, r5, r6, r7, r8) := H
 have A6 := ak A60
 clear A60
 by_cases c7 : t299 = 0; rotate_left
 ·rw [if_neg c7] at H
  have c7b0 : (t299 == 0) = false := beq_eq_false_iff_ne.mpr c7
  have c7b1 : (t299 != 0) = true := bne_iff_ne.mpr c7
  simp only [Option.some.injEq, Prod.mk.injEq] at H
  obtain ⟨rfl, rfl, rfl, rfl, rfl, rfl, rfl, rfl⟩ := H
  go_enter Try.func28, Try.ntmps28
  go_wp2_with (first | ((with_reducible refine gate_dst (N := 4) rfl ?_); refine box_event ?hg (N := 4) ?hd (cs := #[.slice A0_0 l0_0.length c0_0, .slice A0_1 l0_1.length c0_1]) (t := 25) ?hr ?_; (case hd => rfl); (case hg => rfl); (case hr => go_simp <;> rfl); intro gb285 hg w49 hbox hb; have n0_ := ak (below_step (by repeat (with_reducible first | exact HB.out | apply ba_ | apply bn_ | apply b1_)) hb); have n1_ := ak (hbox); have n2_ := ak ((by rw [hg]; exact (below_size (by repeat (with_reducible first | exact HB.out | apply ba_ | apply bn_ | apply b1_))) : w.heap.size ≤ gb285)); have n3_ := n2_; clear HB; have HB := n0_; have BK285 := n1_; have GW285 := n2_; have GE285 := n3_; clear n0_ n1_ n2_ n3_ hb hbox hg) | ((with_reducible refine gate_dst (N := 6) rfl ?_); refine box_event ?hg (N := 6) ?hd (cs := #[.int .i64 a2_0, .int .i64 a2_1, .slice A2_2 l2_2.length c2_2, .slice A2_3 l2_3.length c2_3, .bool a2_4, .bool a2_5, .bool a2_6]) (t := 28) ?hr ?_; (case hd => rfl); (case hg => rfl); (case hr => go_simp <;> rfl); intro gb286 hg w50 hbox hb; have n0_ := ak (blk_below (by (with_reducible repeat first | apply kn_ | apply kd_ | apply ka_); exact BK285.out) hb); have n1_ := ak (below_step (by repeat (with_reducible first | exact HB.out | apply ba_ | apply bn_ | apply b1_ | refine bs_ ?_ GE285.out)) hb); have n2_ := ak (hbox); have n3_ := ak ((by rw [hg]; exact (below_size (by repeat (with_reducible first | exact HB.out | apply ba_ | apply bn_ | apply b1_ | refine bs_ ?_ GE285.out))) : w.heap.size ≤ gb286)); have n4_ := n3_; have n5_ := ak ((by rw [hg]; exact Nat.ne_of_lt (blk_lt (g := gb285) (o := .cells #[.slice A0_0 l0_0.length c0_0, .slice A0_1 l0_1.length c0_1] 25 (0, 0)) (by (with_reducible repeat first | apply kn_ | apply kd_ | apply ka_); exact BK285.out)) : gb285 ≠ gb286)); have n6_ := ak ((by rw [hg]; exact Nat.ne_of_gt (blk_lt (g := gb285) (o := .cells #[.slice A0_0 l0_0.length c0_0, .slice A0_1 l0_1.length c0_1] 25 (0, 0)) (by (with_reducible repeat first | apply kn_ | apply kd_ | apply ka_); exact BK285.out)) : gb286 ≠ gb285)); clear BK285 HB; have BK285 := n0_; have HB := n1_; have BK286 := n2_; have GW286 := n3_; have GE286 := n4_; have NB285_286 := n5_; have NB286_285 := n6_; clear n0_ n1_ n2_ n3_ n4_ n5_ n6_ hb hbox hg) | ((with_reducible refine gate_dst (N := 8) rfl ?_); refine box_event ?hg (N := 8) ?hd (cs := #[.int .i64 0, .int .i64 0, .slice none 0 0, .slice none 0 0, .bool false, .bool false, .bool false]) (t := 28) ?hr ?_; (case hd => rfl); (case hg => rfl); (case hr => go_simp <;> rfl); intro gb287 hg w51 hbox hb; have n0_ := ak (blk_below (by (with_reducible repeat first | apply kn_ | apply kd_ | apply ka_); exact BK285.out) hb); have n1_ := ak (blk_below (by (with_reducible repeat first | apply kn_ | apply kd_ | apply ka_); exact BK286.out) hb); have n2_ := ak (below_step (by repeat (with_reducible first | exact HB.out | apply ba_ | apply bn_ | apply b1_ | refine bs_ ?_ GE285.out | refine bs_ ?_ GE286.out)) hb); have n3_ := ak (hbox); have n4_ := ak ((by rw [hg]; exact (below_size (by repeat (with_reducible first | exact HB.out | apply ba_ | apply bn_ | apply b1_ | refine bs_ ?_ GE285.out | refine bs_ ?_ GE286.out))) : w.heap.size ≤ gb287)); have n5_ := n4_; have n6_ := ak ((by rw [hg]; exact Nat.ne_of_lt (blk_lt (g := gb285) (o := .cells #[.slice A0_0 l0_0.length c0_0, .slice A0_1 l0_1.length c0_1] 25 (0, 0)) (by (with_reducible repeat first | apply kn_ | apply kd_ | apply ka_); exact BK285.out)) : gb285 ≠ gb287)); have n7_ := ak ((by rw [hg]; exact Nat.ne_of_gt (blk_lt (g := gb285) (o := .cells #[.slice A0_0 l0_0.length c0_0, .slice A0_1 l0_1.length c0_1] 25 (0, 0)) (by (with_reducible repeat first | apply kn_ | apply kd_ | apply ka_); exact BK285.out)) : gb287 ≠ gb285)); have n8_ := ak ((by rw [hg]; exact Nat.ne_of_lt (blk_lt (g := gb286) (o := .cells #[.int .i64 a2_0, .int .i64 a2_1, .slice A2_2 l2_2.length c2_2, .slice A2_3 l2_3.length c2_3, .bool a2_4, .bool a2_5, .bool a2_6] 28 (0, 0)) (by (with_reducible repeat first | apply kn_ | apply kd_ | apply ka_); exact BK286.out)) : gb286 ≠ gb287)); have n9_ := ak ((by rw [hg]; exact Nat.ne_of_gt (blk_lt (g := gb286) (o := .cells #[.int .i64 a2_0, .int .i64 a2_1, .slice A2_2 l2_2.length c2_2, .slice A2_3 l2_3.length c2_3, .bool a2_4, .bool a2_5, .bool a2_6] 28 (0, 0)) (by (with_reducible repeat first | apply kn_ | apply kd_ | apply ka_); exact BK286.out)) : gb287 ≠ gb286)); clear BK285 BK286 HB; have BK285 := n0_; have BK286 := n1_; have HB := n2_; have BK287 := n3_; have GW287 := n4_; have GE287 := n5_; have NB285_287 := n6_; have NB287_285 := n7_; have NB286_287 := n8_; have NB287_286 := n9_; clear n0_ n1_ n2_ n3_ n4_ n5_ n6_ n7_ n8_ n9_ hb hbox hg; have hnb52 := NB286_285.out; have hnc52 := NB285_286.out; have hnb53 := NB286_287.out; have hnc53 := NB287_286.out; obtain ⟨z54_0, z54_1, z54_2, z54_3, z54_4, z54_5, z54_6, f54_0, f54_1, f54_2, f54_3, f54_4, f54_5, f54_6⟩ := kk7 BK286.out) | ((with_reducible refine gate_callee (f := 47) rfl ?_); refine goesL_ (some 12) rfl rfl Try.func47 (by kernel_rfl) rfl #[.agg #[.int .i64 a2_0, .int .i64 a2_1, .slice A2_2 l2_2.length c2_2, .slice A2_3 l2_3.length c2_3, .bool a2_4, .bool a2_5, .bool a2_6]] rfl (by (try simp only [List.map_toArray, List.map_cons, List.map_nil]); first | done | rfl | (simp only [List.length_drop, List.length_take]; rfl)) ?_; (with_reducible refine (atticref19_Clone.calls a2_0 a2_1 _ _ l2_2 _ _ l2_3 a2_4 a2_5 a2_6 t288 t289 t290 t293 t296 t297 t298 _ ?side1 ?side2 ?side3 ?side4 A5.out).mono ?_); (case side1 => repeat (first | exact (Kd.C_below HR2_2.out HB.out) | (with_reducible first | refine ca_ ?_ _ | refine cn_ ?_ _ | refine cd_ ?_))); (case side2 => exact HC2_2.out); (case side3 => repeat (first | exact (Kd.C_below HR2_3.out HB.out) | (with_reducible first | refine ca_ ?_ _ | refine cn_ ?_ _ | refine cd_ ?_))); (case side4 => exact HC2_3.out); rintro e w55 ⟨v291, v294, rfl, ho0, ho1, hb⟩; refine ⟨_, rfl, ?_⟩; have n0_ := ak (Kd.R_lower ho0 (below_size (by repeat (with_reducible first | exact HB.out | apply ba_ | apply bn_ | apply b1_ | refine bs_ ?_ GE285.out | refine bs_ ?_ GE286.out | refine bs_ ?_ GE287.out)))); have n1_ := ak (Kd.R_lower ho1 (below_size (by repeat (with_reducible first | exact HB.out | apply ba_ | apply bn_ | apply b1_ | refine bs_ ?_ GE285.out | refine bs_ ?_ GE286.out | refine bs_ ?_ GE287.out)))); have n2_ := ak (blk_below (by (with_reducible repeat first | apply kn_ | apply kd_ | apply ka_); exact BK285.out) hb); have n3_ := ak (blk_below (by (with_reducible repeat first | apply kn_ | apply kd_ | apply ka_); exact BK286.out) hb); have n4_ := ak (blk_below (by (with_reducible repeat first | apply kn_ | apply kd_ | apply ka_); exact BK287.out) hb); have n5_ := ak (below_step (by repeat (with_reducible first | exact HB.out | apply ba_ | apply bn_ | apply b1_ | refine bs_ ?_ GE285.out | refine bs_ ?_ GE286.out | refine bs_ ?_ GE287.out)) hb); clear BK285 BK286 BK287 HB; have HO292 := n0_; have HO295 := n1_; have BK285 := n2_; have BK286 := n3_; have BK287 := n4_; have HB := n5_; clear n0_ n1_ n2_ n3_ n4_ n5_; (try clear hb); (try clear hb2); (try clear hk); (try clear hi); (try clear ho0); (try clear ho1); (try clear A5); obtain ⟨z56_0, z56_1, z56_2, z56_3, z56_4, z56_5, z56_6, f56_0, f56_1, f56_2, f56_3, f56_4, f56_5, f56_6⟩ := kk7 BK286.out; obtain ⟨Ao57, co57, eo57⟩ := Kd.R_slice HO292.out; subst eo57; obtain ⟨Ao58, co58, eo58⟩ := Kd.R_slice HO295.out; subst eo58; have hnb59 := NB285_287.out; have hnc59 := NB287_285.out; obtain ⟨z60_0, z60_1, f60_0, f60_1⟩ := kk2 BK285.out) | ((with_reducible refine gate_callee (f := 19) rfl ?_); refine goesL_ (some 16) rfl rfl Try.func19 (by kernel_rfl) rfl #[.agg #[.slice A0_0 l0_0.length c0_0, .slice A0_1 l0_1.length c0_1], .int .i64 a1, .agg #[.int .i64 t288, .int .i64 t289, .slice Ao57 t290.length co57, .slice Ao58 t293.length co58, .bool t296, .bool t297, .bool t298]] rfl (by (try simp only [List.map_toArray, List.map_cons, List.map_nil]); first | done | rfl | (simp only [List.length_drop, List.length_take]; rfl)) ?_; (with_reducible refine (atticref19_Check.calls k _ _ l0_0 _ _ l0_1 a1 t288 t289 _ _ t290 _ _ t293 t296 t297 t298 t299 _ ?side1 ?side2 ?side3 ?side4 ?side5 ?side6 ?side7 ?side8 A6.out).mono ?_); (case side1 => exact Kd.C_below HR0_0.out (by repeat (with_reducible first | exact HB.out | apply ba_ | apply bn_ | apply b1_ | refine bs_ ?_ GE285.out | refine bs_ ?_ GE286.out | refine bs_ ?_ GE287.out))); (case side2 => exact HC0_0.out); (case side3 => exact Kd.C_below HR0_1.out (by repeat (with_reducible first | exact HB.out | apply ba_ | apply bn_ | apply b1_ | refine bs_ ?_ GE285.out | refine bs_ ?_ GE286.out | refine bs_ ?_ GE287.out))); (case side4 => exact HC0_1.out); (case side5 => refine (Kd.R_reads' (e := 4) (base := w.heap.size) (ok := fun k_ => True) (n := t290.length) (c := co57) ?_).2.2; exact (by (with_reducible repeat (first | apply Kd.R_alloc | apply Kd.R_drewN | apply Kd.R_drew)); exact (Kd.R_mono (Kd.R_far (p := ⟨gb286, 6, none⟩) (Kd.R_far (p := ⟨gb286, 5, none⟩) (Kd.R_far (p := ⟨gb286, 4, none⟩) (Kd.R_far (p := ⟨gb286, 3, none⟩) (Kd.R_far (p := ⟨gb286, 2, none⟩) (Kd.R_far (p := ⟨gb286, 1, none⟩) (Kd.R_far (p := ⟨gb286, 0, none⟩) (Kd.R_types HO292.out BK286.out (by decide)) (fun _ hk => hk.2) (.int .i64 t288)) (fun _ hk => hk.2) (.int .i64 t289)) (fun _ hk => hk.2) (.slice Ao57 t290.length co57)) (fun _ hk => hk.2) (.slice Ao58 t293.length co58)) (fun _ hk => hk.2) (.bool t296)) (fun _ hk => hk.2) (.bool t297)) (fun _ hk => hk.2) (.bool t298)) (fun _ h_ => h_.1)))); (case side6 => exact (Kd.R_reads' HO292.out).2.1); (case side7 => refine (Kd.R_reads' (e := 3) (base := w.heap.size) (ok := fun k_ => True) (n := t293.length) (c := co58) ?_).2.2; exact (by (with_reducible repeat (first | apply Kd.R_alloc | apply Kd.R_drewN | apply Kd.R_drew)); exact (Kd.R_mono (Kd.R_far (p := ⟨gb286, 6, none⟩) (Kd.R_far (p := ⟨gb286, 5, none⟩) (Kd.R_far (p := ⟨gb286, 4, none⟩) (Kd.R_far (p := ⟨gb286, 3, none⟩) (Kd.R_far (p := ⟨gb286, 2, none⟩) (Kd.R_far (p := ⟨gb286, 1, none⟩) (Kd.R_far (p := ⟨gb286, 0, none⟩) (Kd.R_types HO295.out BK286.out (by decide)) (fun _ hk => hk.2) (.int .i64 t288)) (fun _ hk => hk.2) (.int .i64 t289)) (fun _ hk => hk.2) (.slice Ao57 t290.length co57)) (fun _ hk => hk.2) (.slice Ao58 t293.length co58)) (fun _ hk => hk.2) (.bool t296)) (fun _ hk => hk.2) (.bool t297)) (fun _ hk => hk.2) (.bool t298)) (fun _ h_ => h_.1)))); (case side8 => exact (Kd.R_reads' HO295.out).2.1); rintro e w61 ⟨rfl, hb⟩; refine ⟨_, rfl, ?_⟩; have n0_ := ak (Kd.R_below (by (with_reducible repeat (first | apply Kd.R_alloc | apply Kd.R_drewN | apply Kd.R_drew)); exact (Kd.R_mono (Kd.R_far (p := ⟨gb286, 6, none⟩) (Kd.R_far (p := ⟨gb286, 5, none⟩) (Kd.R_far (p := ⟨gb286, 4, none⟩) (Kd.R_far (p := ⟨gb286, 3, none⟩) (Kd.R_far (p := ⟨gb286, 2, none⟩) (Kd.R_far (p := ⟨gb286, 1, none⟩) (Kd.R_far (p := ⟨gb286, 0, none⟩) (Kd.R_types HO292.out BK286.out (by decide)) (fun _ hk => hk.2) (.int .i64 t288)) (fun _ hk => hk.2) (.int .i64 t289)) (fun _ hk => hk.2) (.slice Ao57 t290.length co57)) (fun _ hk => hk.2) (.slice Ao58 t293.length co58)) (fun _ hk => hk.2) (.bool t296)) (fun _ hk => hk.2) (.bool t297)) (fun _ hk => hk.2) (.bool t298)) (fun _ h_ => h_.1))) hb); have n1_ := ak (Kd.R_below (by (with_reducible repeat (first | apply Kd.R_alloc | apply Kd.R_drewN | apply Kd.R_drew)); exact (Kd.R_mono (Kd.R_far (p := ⟨gb286, 6, none⟩) (Kd.R_far (p := ⟨gb286, 5, none⟩) (Kd.R_far (p := ⟨gb286, 4, none⟩) (Kd.R_far (p := ⟨gb286, 3, none⟩) (Kd.R_far (p := ⟨gb286, 2, none⟩) (Kd.R_far (p := ⟨gb286, 1, none⟩) (Kd.R_far (p := ⟨gb286, 0, none⟩) (Kd.R_types HO295.out BK286.out (by decide)) (fun _ hk => hk.2) (.int .i64 t288)) (fun _ hk => hk.2) (.int .i64 t289)) (fun _ hk => hk.2) (.slice Ao57 t290.length co57)) (fun _ hk => hk.2) (.slice Ao58 t293.length co58)) (fun _ hk => hk.2) (.bool t296)) (fun _ hk => hk.2) (.bool t297)) (fun _ hk => hk.2) (.bool t298)) (fun _ h_ => h_.1))) hb); have n2_ := ak (blk_below (g := gb285) (o := .cells #[.slice A0_0 l0_0.length c0_0, .slice A0_1 l0_1.length c0_1] 25 (0, 0)) (by (with_reducible repeat first | apply kn_ | apply kd_ | apply ka_); refine blk_far ?_ NB285_286.out _; (with_reducible repeat first | apply kn_ | apply kd_ | apply ka_); refine blk_far ?_ NB285_286.out _; (with_reducible repeat first | apply kn_ | apply kd_ | apply ka_); refine blk_far ?_ NB285_286.out _; (with_reducible repeat first | apply kn_ | apply kd_ | apply ka_); refine blk_far ?_ NB285_286.out _; (with_reducible repeat first | apply kn_ | apply kd_ | apply ka_); refine blk_far ?_ NB285_286.out _; (with_reducible repeat first | apply kn_ | apply kd_ | apply ka_); refine blk_far ?_ NB285_286.out _; (with_reducible repeat first | apply kn_ | apply kd_ | apply ka_); refine blk_far ?_ NB285_286.out _; (with_reducible repeat first | apply kn_ | apply kd_ | apply ka_); exact BK285.out) hb); have n3_ := ak (blk_below (g := gb286) (o := .cells #[.int .i64 t288, .int .i64 t289, .slice Ao57 t290.length co57, .slice Ao58 t293.length co58, .bool t296, .bool t297, .bool t298] 28 (0, 0)) (by (with_reducible repeat first | apply kn_ | apply kd_ | apply ka_); refine blk_put (cs := #[.int .i64 t288, .int .i64 t289, .slice Ao57 t290.length co57, .slice Ao58 t293.length co58, .bool t296, .bool t297, .bool a2_6]) ?_ 6 _ rfl; (with_reducible repeat first | apply kn_ | apply kd_ | apply ka_); refine blk_put (cs := #[.int .i64 t288, .int .i64 t289, .slice Ao57 t290.length co57, .slice Ao58 t293.length co58, .bool t296, .bool a2_5, .bool a2_6]) ?_ 5 _ rfl; (with_reducible repeat first | apply kn_ | apply kd_ | apply ka_); refine blk_put (cs := #[.int .i64 t288, .int .i64 t289, .slice Ao57 t290.length co57, .slice Ao58 t293.length co58, .bool a2_4, .bool a2_5, .bool a2_6]) ?_ 4 _ rfl; (with_reducible repeat first | apply kn_ | apply kd_ | apply ka_); refine blk_put (cs := #[.int .i64 t288, .int .i64 t289, .slice Ao57 t290.length co57, .slice A2_3 l2_3.length c2_3, .bool a2_4, .bool a2_5, .bool a2_6]) ?_ 3 _ rfl; (with_reducible repeat first | apply kn_ | apply kd_ | apply ka_); refine blk_put (cs := #[.int .i64 t288, .int .i64 t289, .slice A2_2 l2_2.length c2_2, .slice A2_3 l2_3.length c2_3, .bool a2_4, .bool a2_5, .bool a2_6]) ?_ 2 _ rfl; (with_reducible repeat first | apply kn_ | apply kd_ | apply ka_); refine blk_put (cs := #[.int .i64 t288, .int .i64 a2_1, .slice A2_2 l2_2.length c2_2, .slice A2_3 l2_3.length c2_3, .bool a2_4, .bool a2_5, .bool a2_6]) ?_ 1 _ rfl; (with_reducible repeat first | apply kn_ | apply kd_ | apply ka_); refine blk_put (cs := #[.int .i64 a2_0, .int .i64 a2_1, .slice A2_2 l2_2.length c2_2, .slice A2_3 l2_3.length c2_3, .bool a2_4, .bool a2_5, .bool a2_6]) ?_ 0 _ rfl; (with_reducible repeat first | apply kn_ | apply kd_ | apply ka_); exact BK286.out) hb); have n4_ := ak (blk_below (g := gb287) (o := .cells #[.int .i64 0, .int .i64 0, .slice none 0 0, .slice none 0 0, .bool false, .bool false, .bool false] 28 (0, 0)) (by (with_reducible repeat first | apply kn_ | apply kd_ | apply ka_); refine blk_far ?_ NB287_286.out _; (with_reducible repeat first | apply kn_ | apply kd_ | apply ka_); refine blk_far ?_ NB287_286.out _; (with_reducible repeat first | apply kn_ | apply kd_ | apply ka_); refine blk_far ?_ NB287_286.out _; (with_reducible repeat first | apply kn_ | apply kd_ | apply ka_); refine blk_far ?_ NB287_286.out _; (with_reducible repeat first | apply kn_ | apply kd_ | apply ka_); refine blk_far ?_ NB287_286.out _; (with_reducible repeat first | apply kn_ | apply kd_ | apply ka_); refine blk_far ?_ NB287_286.out _; (with_reducible repeat first | apply kn_ | apply kd_ | apply ka_); refine blk_far ?_ NB287_286.out _; (with_reducible repeat first | apply kn_ | apply kd_ | apply ka_); exact BK287.out) hb); have n5_ := ak (below_step (by repeat (with_reducible first | exact HB.out | apply ba_ | apply bn_ | apply b1_ | refine bs_ ?_ GE285.out | refine bs_ ?_ GE286.out | refine bs_ ?_ GE287.out)) hb); clear HO292 HO295 BK285 BK286 BK287 HB; have HO292 := n0_; have HO295 := n1_; have BK285 := n2_; have BK286 := n3_; have BK287 := n4_; have HB := n5_; clear n0_ n1_ n2_ n3_ n4_ n5_; (try clear hb); (try clear hb2); (try clear hk); (try clear hi); (try clear A6); obtain ⟨z62_0, z62_1, z62_2, z62_3, z62_4, z62_5, z62_6, f62_0, f62_1, f62_2, f62_3, f62_4, f62_5, f62_6⟩ := kk7 BK286.out; obtain ⟨z63_0, z63_1, z63_2, z63_3, z63_4, z63_5, z63_6, f63_0, f63_1, f63_2, f63_3, f63_4, f63_5, f63_6⟩ := kk7 BK287.out))
  refine bodyPost_ret (results_ct rfl _ _ gb287 28 #[.int .i64 t288, .int .i64 t289, .slice Ao57 t290.length co57, .slice Ao58 t293.length co58, .bool t296, .bool t297, .bool t298] (0, 0) _ rfl (by (with_reducible repeat first | apply kn_ | apply kd_ | apply ka_); refine blk_put (cs := #[.int .i64 t288, .int .i64 t289, .slice Ao57 t290.length co57, .slice Ao58 t293.length co58, .bool t296, .bool t297, .bool false]) ?_ 6 _ rfl; (with_reducible repeat first | apply kn_ | apply kd_ | apply ka_); refine blk_put (cs := #[.int .i64 t288, .int .i64 t289, .slice Ao57 t290.length co57, .slice Ao58 t293.length co58, .bool t296, .bool false, .bool false]) ?_ 5 _ rfl; (with_reducible repeat first | apply kn_ | apply kd_ | apply ka_); refine blk_put (cs := #[.int .i64 t288, .int .i64 t289, .slice Ao57 t290.length co57, .slice Ao58 t293.length co58, .bool false, .bool false, .bool false]) ?_ 4 _ rfl; (with_reducible repeat first | apply kn_ | apply kd_ | apply ka_); refine blk_put (cs := #[.int .i64 t288, .int .i64 t289, .slice Ao57 t290.length co57, .slice none 0 0, .bool false, .bool false, .bool false]) ?_ 3 _ rfl; (with_reducible repeat first | apply kn_ | apply kd_ | apply ka_); refine blk_put (cs := #[.int .i64 t288, .int .i64 t289, .slice none 0 0, .slice none 0 0, .bool false, .bool false, .bool false]) ?_ 2 _ rfl; (with_reducible repeat first | apply kn_ | apply kd_ | apply ka_); refine blk_put (cs := #[.int .i64 t288, .int .i64 0, .slice none 0 0, .slice none 0 0, .bool false, .bool false, .bool false]) ?_ 1 _ rfl; (with_reducible repeat first | apply kn_ | apply kd_ | apply ka_); refine blk_put (cs := #[.int .i64 0, .int .i64 0, .slice none 0 0, .slice none 0 0, .bool false, .bool false, .bool false]) ?_ 0 _ rfl; (with_reducible repeat first | apply kn_ | apply kd_ | apply ka_); exact BK287.out) Try.underlying28 rfl (by kernel_rfl)) rfl ?_
  exact ⟨_, _, by first | rfl | (simp [errW_none, errW_some] <;> rfl) | (simp [*, errW_none, errW_some] <;> rfl) | (simp [Int.tdiv_eq_ediv_of_nonneg]; done), by (with_reducible repeat (first | apply Kd.R_alloc | apply Kd.R_drewN | apply Kd.R_drew)); exact Kd.R_mono (Kd.R_far (p := ⟨gb287, 6, none⟩) (Kd.R_far (p := ⟨gb287, 5, none⟩) (Kd.R_far (p := ⟨gb287, 4, none⟩) (Kd.R_far (p := ⟨gb287, 3, none⟩) (Kd.R_far (p := ⟨gb287, 2, none⟩) (Kd.R_far (p := ⟨gb287, 1, none⟩) (Kd.R_far (p := ⟨gb287, 0, none⟩) (Kd.R_types HO292.out BK287.out (by decide)) (fun _ hk => hk.2) (.int .i64 t288)) (fun _ hk => hk.2) (.int .i64 t289)) (fun _ hk => hk.2) (.slice Ao57 t290.length co57)) (fun _ hk => hk.2) (.slice Ao58 t293.length co58)) (fun _ hk => hk.2) (.bool t296)) (fun _ hk => hk.2) (.bool t297)) (fun _ hk => hk.2) (.bool t298)) (fun _ hk => trivial), by (with_reducible repeat (first | apply Kd.R_alloc | apply Kd.R_drewN | apply Kd.R_drew)); exact Kd.R_mono (Kd.R_far (p := ⟨gb287, 6, none⟩) (Kd.R_far (p := ⟨gb287, 5, none⟩) (Kd.R_far (p := ⟨gb287, 4, none⟩) (Kd.R_far (p := ⟨gb287, 3, none⟩) (Kd.R_far (p := ⟨gb287, 2, none⟩) (Kd.R_far (p := ⟨gb287, 1, none⟩) (Kd.R_far (p := ⟨gb287, 0, none⟩) (Kd.R_types HO295.out BK287.out (by decide)) (fun _ hk => hk.2) (.int .i64 t288)) (fun _ hk => hk.2) (.int .i64 t289)) (fun _ hk => hk.2) (.slice Ao57 t290.length co57)) (fun _ hk => hk.2) (.slice Ao58 t293.length co58)) (fun _ hk => hk.2) (.bool t296)) (fun _ hk => hk.2) (.bool t297)) (fun _ hk => hk.2) (.bool t298)) (fun _ hk => trivial), by repeat (with_reducible first | exact HB.out | apply ba_ | apply bn_ | apply b1_ | refine bs_ ?_ GE285.out | refine bs_ ?_ GE286.out | refine bs_ ?_ GE287.out)⟩
 rw [if_pos c7] at H
 have c7b0 : (t299 == 0) = true := beq_iff_eq.mpr c7
 have c7b1 : (t299 != 0) = false := bne_eq_false_iff_eq.mpr c7
 clear c7
 have H' := ak H
 clear H
 go_enter Try.func28, Try.ntmps28
 go_wp2_with (first | ((with_reducible refine gate_dst (N := 4) rfl ?_); refine box_event ?hg (N := 4) ?hd (cs := #[.slice A0_0 l0_0.length c0_0, .slice A0_1 l0_1.length c0_1]) (t := 25) ?hr ?_; (case hd => rfl); (case hg => rfl); (case hr => go_simp <;> rfl); intro gb285 hg w8 hbox hb; have n0_ := ak (below_step (by repeat (with_reducible first | exact HB.out | apply ba_ | apply bn_ | apply b1_)) hb); have n1_ := ak (hbox); have n2_ := ak ((by rw [hg]; exact (below_size (by repeat (with_reducible first | exact HB.out | apply ba_ | apply bn_ | apply b1_))) : w.heap.size ≤ gb285)); have n3_ := n2_; clear HB; have HB := n0_; have BK285 := n1_; have GW285 := n2_; have GE285 := n3_; clear n0_ n1_ n2_ n3_ hb hbox hg) | ((with_reducible refine gate_dst (N := 6) rfl ?_); refine box_event ?hg (N := 6) ?hd (cs := #[.int .i64 a2_0, .int .i64 a2_1, .slice A2_2 l2_2.length c2_2, .slice A2_3 l2_3.length c2_3, .bool a2_4, .bool a2_5, .bool a2_6]) (t := 28) ?hr ?_; (case hd => rfl); (case hg => rfl); (case hr => go_simp <;> rfl); intro gb286 hg w9 hbox hb; have n0_ := ak (blk_below (by (with_reducible repeat first | apply kn_ | apply kd_ | apply ka_); exact BK285.out) hb); have n1_ := ak (below_step (by repeat (with_reducible first | exact HB.out | apply ba_ | apply bn_ | apply b1_ | refine bs_ ?_ GE285.out)) hb); have n2_ := ak (hbox); have n3_ := ak ((by rw [hg]; exact (below_size (by repeat (with_reducible first | exact HB.out | apply ba_ | apply bn_ | apply b1_ | refine bs_ ?_ GE285.out))) : w.heap.size ≤ gb286)); have n4_ := n3_; have n5_ := ak ((by rw [hg]; exact Nat.ne_of_lt (blk_lt (g := gb285) (o := .cells #[.slice A0_0 l0_0.length c0_0, .slice A0_1 l0_1.length c0_1] 25 (0, 0)) (by (with_reducible repeat first | apply kn_ | apply kd_ | apply ka_); exact BK285.out)) : gb285 ≠ gb286)); have n6_ := ak ((by rw [hg]; exact Nat.ne_of_gt (blk_lt (g := gb285) (o := .cells #[.slice A0_0 l0_0.length c0_0, .slice A0_1 l0_1.length c0_1] 25 (0, 0)) (by (with_reducible repeat first | apply kn_ | apply kd_ | apply ka_); exact BK285.out)) : gb286 ≠ gb285)); clear BK285 HB; have BK285 := n0_; have HB := n1_; have BK286 := n2_; have GW286 := n3_; have GE286 := n4_; have NB285_286 := n5_; have NB286_285 := n6_; clear n0_ n1_ n2_ n3_ n4_ n5_ n6_ hb hbox hg) | ((with_reducible refine gate_dst (N := 8) rfl ?_); refine box_event ?hg (N := 8) ?hd (cs := #[.int .i64 0, .int .i64 0, .slice none 0 0, .slice none 0 0, .bool false, .bool false, .bool false]) (t := 28) ?hr ?_; (case hd => rfl); (case hg => rfl); (case hr => go_simp <;> rfl); intro gb287 hg w10 hbox hb; have n0_ := ak (blk_below (by (with_reducible repeat first | apply kn_ | apply kd_ | apply ka_); exact BK285.out) hb); have n1_ := ak (blk_below (by (with_reducible repeat first | apply kn_ | apply kd_ | apply ka_); exact BK286.out) hb); have n2_ := ak (below_step (by repeat (with_reducible first | exact HB.out | apply ba_ | apply bn_ | apply b1_ | refine bs_ ?_ GE285.out | refine bs_ ?_ GE286.out)) hb); have n3_ := ak (hbox); have n4_ := ak ((by rw [hg]; exact (below_size (by repeat (with_reducible first | exact HB.out | apply ba_ | apply bn_ | apply b1_ | refine bs_ ?_ GE285.out | refine bs_ ?_ GE286.out))) : w.heap.size ≤ gb287)); have n5_ := n4_; have n6_ := ak ((by rw [hg]; exact Nat.ne_of_lt (blk_lt (g := gb285) (o := .cells #[.slice A0_0 l0_0.length c0_0, .slice A0_1 l0_1.length c0_1] 25 (0, 0)) (by (with_reducible repeat first | apply kn_ | apply kd_ | apply ka_); exact BK285.out)) : gb285 ≠ gb287)); have n7_ := ak ((by rw [hg]; exact Nat.ne_of_gt (blk_lt (g := gb285) (o := .cells #[.slice A0_0 l0_0.length c0_0, .slice A0_1 l0_1.length c0_1] 25 (0, 0)) (by (with_reducible repeat first | apply kn_ | apply kd_ | apply ka_); exact BK285.out)) : gb287 ≠ gb285)); have n8_ := ak ((by rw [hg]; exact Nat.ne_of_lt (blk_lt (g := gb286) (o := .cells #[.int .i64 a2_0, .int .i64 a2_1, .slice A2_2 l2_2.length c2_2, .slice A2_3 l2_3.length c2_3, .bool a2_4, .bool a2_5, .bool a2_6] 28 (0, 0)) (by (with_reducible repeat first | apply kn_ | apply kd_ | apply ka_); exact BK286.out)) : gb286 ≠ gb287)); have n9_ := ak ((by rw [hg]; exact Nat.ne_of_gt (blk_lt (g := gb286) (o := .cells #[.int .i64 a2_0, .int .i64 a2_1, .slice A2_2 l2_2.length c2_2, .slice A2_3 l2_3.length c2_3, .bool a2_4, .bool a2_5, .bool a2_6] 28 (0, 0)) (by (with_reducible repeat first | apply kn_ | apply kd_ | apply ka_); exact BK286.out)) : gb287 ≠ gb286)); clear BK285 BK286 HB; have BK285 := n0_; have BK286 := n1_; have HB := n2_; have BK287 := n3_; have GW287 := n4_; have GE287 := n5_; have NB285_287 := n6_; have NB287_285 := n7_; have NB286_287 := n8_; have NB287_286 := n9_; clear n0_ n1_ n2_ n3_ n4_ n5_ n6_ n7_ n8_ n9_ hb hbox hg; have hnb11 := NB286_285.out; have hnc11 := NB285_286.out; have hnb12 := NB286_287.out; have hnc12 := NB287_286.out; obtain ⟨z13_0, z13_1, z13_2, z13_3, z13_4, z13_5, z13_6, f13_0, f13_1, f13_2, f13_3, f13_4, f13_5, f13_6⟩ := kk7 BK286.out) | ((with_reducible refine gate_callee (f := 47) rfl ?_); refine goesL_ (some 12) rfl rfl Try.func47 (by kernel_rfl) rfl #[.agg #[.int .i64 a2_0, .int .i64 a2_1, .slice A2_2 l2_2.length c2_2, .slice A2_3 l2_3.length c2_3, .bool a2_4, .bool a2_5, .bool a2_6]] rfl (by (try simp only [List.map_toArray, List.map_cons, List.map_nil]); first | done | rfl | (simp only [List.length_drop, List.length_take]; rfl)) ?_; (with_reducible refine (atticref19_Clone.calls a2_0 a2_1 _ _ l2_2 _ _ l2_3 a2_4 a2_5 a2_6 t288 t289 t290 t293 t296 t297 t298 _ ?side1 ?side2 ?side3 ?side4 A5.out).mono ?_); (case side1 => repeat (first | exact (Kd.C_below HR2_2.out HB.out) | (with_reducible first | refine ca_ ?_ _ | refine cn_ ?_ _ | refine cd_ ?_))); (case side2 => exact HC2_2.out); (case side3 => repeat (first | exact (Kd.C_below HR2_3.out HB.out) | (with_reducible first | refine ca_ ?_ _ | refine cn_ ?_ _ | refine cd_ ?_))); (case side4 => exact HC2_3.out); rintro e w14 ⟨v291, v294, rfl, ho0, ho1, hb⟩; refine ⟨_, rfl, ?_⟩; have n0_ := ak (Kd.R_lower ho0 (below_size (by repeat (with_reducible first | exact HB.out | apply ba_ | apply bn_ | apply b1_ | refine bs_ ?_ GE285.out | refine bs_ ?_ GE286.out | refine bs_ ?_ GE287.out)))); have n1_ := ak (Kd.R_lower ho1 (below_size (by repeat (with_reducible first | exact HB.out | apply ba_ | apply bn_ | apply b1_ | refine bs_ ?_ GE285.out | refine bs_ ?_ GE286.out | refine bs_ ?_ GE287.out)))); have n2_ := ak (blk_below (by (with_reducible repeat first | apply kn_ | apply kd_ | apply ka_); exact BK285.out) hb); have n3_ := ak (blk_below (by (with_reducible repeat first | apply kn_ | apply kd_ | apply ka_); exact BK286.out) hb); have n4_ := ak (blk_below (by (with_reducible repeat first | apply kn_ | apply kd_ | apply ka_); exact BK287.out) hb); have n5_ := ak (below_step (by repeat (with_reducible first | exact HB.out | apply ba_ | apply bn_ | apply b1_ | refine bs_ ?_ GE285.out | refine bs_ ?_ GE286.out | refine bs_ ?_ GE287.out)) hb); clear BK285 BK286 BK287 HB; have HO292 := n0_; have HO295 := n1_; have BK285 := n2_; have BK286 := n3_; have BK287 := n4_; have HB := n5_; clear n0_ n1_ n2_ n3_ n4_ n5_; (try clear hb); (try clear hb2); (try clear hk); (try clear hi); (try clear ho0); (try clear ho1); (try clear A5); obtain ⟨z15_0, z15_1, z15_2, z15_3, z15_4, z15_5, z15_6, f15_0, f15_1, f15_2, f15_3, f15_4, f15_5, f15_6⟩ := kk7 BK286.out; obtain ⟨Ao16, co16, eo16⟩ := Kd.R_slice HO292.out; subst eo16; obtain ⟨Ao17, co17, eo17⟩ := Kd.R_slice HO295.out; subst eo17; have hnb18 := NB285_287.out; have hnc18 := NB287_285.out; obtain ⟨z19_0, z19_1, f19_0, f19_1⟩ := kk2 BK285.out) | ((with_reducible refine gate_callee (f := 19) rfl ?_); refine goesL_ (some 16) rfl rfl Try.func19 (by kernel_rfl) rfl #[.agg #[.slice A0_0 l0_0.length c0_0, .slice A0_1 l0_1.length c0_1], .int .i64 a1, .agg #[.int .i64 t288, .int .i64 t289, .slice Ao16 t290.length co16, .slice Ao17 t293.length co17, .bool t296, .bool t297, .bool t298]] rfl (by (try simp only [List.map_toArray, List.map_cons, List.map_nil]); first | done | rfl | (simp only [List.length_drop, List.length_take]; rfl)) ?_; (with_reducible refine (atticref19_Check.calls k _ _ l0_0 _ _ l0_1 a1 t288 t289 _ _ t290 _ _ t293 t296 t297 t298 t299 _ ?side1 ?side2 ?side3 ?side4 ?side5 ?side6 ?side7 ?side8 A6.out).mono ?_); (case side1 => exact Kd.C_below HR0_0.out (by repeat (with_reducible first | exact HB.out | apply ba_ | apply bn_ | apply b1_ | refine bs_ ?_ GE285.out | refine bs_ ?_ GE286.out | refine bs_ ?_ GE287.out))); (case side2 => exact HC0_0.out); (case side3 => exact Kd.C_below HR0_1.out (by repeat (with_reducible first | exact HB.out | apply ba_ | apply bn_ | apply b1_ | refine bs_ ?_ GE285.out | refine bs_ ?_ GE286.out | refine bs_ ?_ GE287.out))); (case side4 => exact HC0_1.out); (case side5 => refine (Kd.R_reads' (e := 4) (base := w.heap.size) (ok := fun k_ => True) (n := t290.length) (c := co16) ?_).2.2; exact (by (with_reducible repeat (first | apply Kd.R_alloc | apply Kd.R_drewN | apply Kd.R_drew)); exact (Kd.R_mono (Kd.R_far (p := ⟨gb286, 6, none⟩) (Kd.R_far (p := ⟨gb286, 5, none⟩) (Kd.R_far (p := ⟨gb286, 4, none⟩) (Kd.R_far (p := ⟨gb286, 3, none⟩) (Kd.R_far (p := ⟨gb286, 2, none⟩) (Kd.R_far (p := ⟨gb286, 1, none⟩) (Kd.R_far (p := ⟨gb286, 0, none⟩) (Kd.R_types HO292.out BK286.out (by decide)) (fun _ hk => hk.2) (.int .i64 t288)) (fun _ hk => hk.2) (.int .i64 t289)) (fun _ hk => hk.2) (.slice Ao16 t290.length co16)) (fun _ hk => hk.2) (.slice Ao17 t293.length co17)) (fun _ hk => hk.2) (.bool t296)) (fun _ hk => hk.2) (.bool t297)) (fun _ hk => hk.2) (.bool t298)) (fun _ h_ => h_.1)))); (case side6 => exact (Kd.R_reads' HO292.out).2.1); (case side7 => refine (Kd.R_reads' (e := 3) (base := w.heap.size) (ok := fun k_ => True) (n := t293.length) (c := co17) ?_).2.2; exact (by (with_reducible repeat (first | apply Kd.R_alloc | apply Kd.R_drewN | apply Kd.R_drew)); exact (Kd.R_mono (Kd.R_far (p := ⟨gb286, 6, none⟩) (Kd.R_far (p := ⟨gb286, 5, none⟩) (Kd.R_far (p := ⟨gb286, 4, none⟩) (Kd.R_far (p := ⟨gb286, 3, none⟩) (Kd.R_far (p := ⟨gb286, 2, none⟩) (Kd.R_far (p := ⟨gb286, 1, none⟩) (Kd.R_far (p := ⟨gb286, 0, none⟩) (Kd.R_types HO295.out BK286.out (by decide)) (fun _ hk => hk.2) (.int .i64 t288)) (fun _ hk => hk.2) (.int .i64 t289)) (fun _ hk => hk.2) (.slice Ao16 t290.length co16)) (fun _ hk => hk.2) (.slice Ao17 t293.length co17)) (fun _ hk => hk.2) (.bool t296)) (fun _ hk => hk.2) (.bool t297)) (fun _ hk => hk.2) (.bool t298)) (fun _ h_ => h_.1)))); (case side8 => exact (Kd.R_reads' HO295.out).2.1); rintro e w20 ⟨rfl, hb⟩; refine ⟨_, rfl, ?_⟩; have n0_ := ak (Kd.R_below (by (with_reducible repeat (first | apply Kd.R_alloc | apply Kd.R_drewN | apply Kd.R_drew)); exact (Kd.R_mono (Kd.R_far (p := ⟨gb286, 6, none⟩) (Kd.R_far (p := ⟨gb286, 5, none⟩) (Kd.R_far (p := ⟨gb286, 4, none⟩) (Kd.R_far (p := ⟨gb286, 3, none⟩) (Kd.R_far (p := ⟨gb286, 2, none⟩) (Kd.R_far (p := ⟨gb286, 1, none⟩) (Kd.R_far (p := ⟨gb286, 0, none⟩) (Kd.R_types HO292.out BK286.out (by decide)) (fun _ hk => hk.2) (.int .i64 t288)) (fun _ hk => hk.2) (.int .i64 t289)) (fun _ hk => hk.2) (.slice Ao16 t290.length co16)) (fun _ hk => hk.2) (.slice Ao17 t293.length co17)) (fun _ hk => hk.2) (.bool t296)) (fun _ hk => hk.2) (.bool t297)) (fun _ hk => hk.2) (.bool t298)) (fun _ h_ => h_.1))) hb); have n1_ := ak (Kd.R_below (by (with_reducible repeat (first | apply Kd.R_alloc | apply Kd.R_drewN | apply Kd.R_drew)); exact (Kd.R_mono (Kd.R_far (p := ⟨gb286, 6, none⟩) (Kd.R_far (p := ⟨gb286, 5, none⟩) (Kd.R_far (p := ⟨gb286, 4, none⟩) (Kd.R_far (p := ⟨gb286, 3, none⟩) (Kd.R_far (p := ⟨gb286, 2, none⟩) (Kd.R_far (p := ⟨gb286, 1, none⟩) (Kd.R_far (p := ⟨gb286, 0, none⟩) (Kd.R_types HO295.out BK286.out (by decide)) (fun _ hk => hk.2) (.int .i64 t288)) (fun _ hk => hk.2) (.int .i64 t289)) (fun _ hk => hk.2) (.slice Ao16 t290.length co16)) (fun _ hk => hk.2) (.slice Ao17 t293.length co17)) (fun _ hk => hk.2) (.bool t296)) (fun _ hk => hk.2) (.bool t297)) (fun _ hk => hk.2) (.bool t298)) (fun _ h_ => h_.1))) hb); have n2_ := ak (blk_below (g := gb285) (o := .cells #[.slice A0_0 l0_0.length c0_0, .slice A0_1 l0_1.length c0_1] 25 (0, 0)) (by (with_reducible repeat first | apply kn_ | apply kd_ | apply ka_); refine blk_far ?_ NB285_286.out _; (with_reducible repeat first | apply kn_ | apply kd_ | apply ka_); refine blk_far ?_ NB285_286.out _; (with_reducible repeat first | apply kn_ | apply kd_ | apply ka_); refine blk_far ?_ NB285_286.out _; (with_reducible repeat first | apply kn_ | apply kd_ | apply ka_); refine blk_far ?_ NB285_286.out _; (with_reducible repeat first | apply kn_ | apply kd_ | apply ka_); refine blk_far ?_ NB285_286.out _; (with_reducible repeat first | apply kn_ | apply kd_ | apply ka_); refine blk_far ?_ NB285_286.out _; (with_reducible repeat first | apply kn_ | apply kd_ | apply ka_); refine blk_far ?_ NB285_286.out _; (with_reducible repeat first | apply kn_ | apply kd_ | apply ka_); exact BK285.out) hb); have n3_ := ak (blk_below (g := gb286) (o := .cells #[.int .i64 t288, .int .i64 t289, .slice Ao16 t290.length co16, .slice Ao17 t293.length co17, .bool t296, .bool t297, .bool t298] 28 (0, 0)) (by (with_reducible repeat first | apply kn_ | apply kd_ | apply ka_); refine blk_put (cs := #[.int .i64 t288, .int .i64 t289, .slice Ao16 t290.length co16, .slice Ao17 t293.length co17, .bool t296, .bool t297, .bool a2_6]) ?_ 6 _ rfl; (with_reducible repeat first | apply kn_ | apply kd_ | apply ka_); refine blk_put (cs := #[.int .i64 t288, .int .i64 t289, .slice Ao16 t290.length co16, .slice Ao17 t293.length co17, .bool t296, .bool a2_5, .bool a2_6]) ?_ 5 _ rfl; (with_reducible repeat first | apply kn_ | apply kd_ | apply ka_); refine blk_put (cs := #[.int .i64 t288, .int .i64 t289, .slice Ao16 t290.length co16, .slice Ao17 t293.length co17, .bool a2_4, .bool a2_5, .bool a2_6]) ?_ 4 _ rfl; (with_reducible repeat first | apply kn_ | apply kd_ | apply ka_); refine blk_put (cs := #[.int .i64 t288, .int .i64 t289, .slice Ao16 t290.length co16, .slice A2_3 l2_3.length c2_3, .bool a2_4, .bool a2_5, .bool a2_6]) ?_ 3 _ rfl; (with_reducible repeat first | apply kn_ | apply kd_ | apply ka_); refine blk_put (cs := #[.int .i64 t288, .int .i64 t289, .slice A2_2 l2_2.length c2_2, .slice A2_3 l2_3.length c2_3, .bool a2_4, .bool a2_5, .bool a2_6]) ?_ 2 _ rfl; (with_reducible repeat first | apply kn_ | apply kd_ | apply ka_); refine blk_put (cs := #[.int .i64 t288, .int .i64 a2_1, .slice A2_2 l2_2.length c2_2, .slice A2_3 l2_3.length c2_3, .bool a2_4, .bool a2_5, .bool a2_6]) ?_ 1 _ rfl; (with_reducible repeat first | apply kn_ | apply kd_ | apply ka_); refine blk_put (cs := #[.int .i64 a2_0, .int .i64 a2_1, .slice A2_2 l2_2.length c2_2, .slice A2_3 l2_3.length c2_3, .bool a2_4, .bool a2_5, .bool a2_6]) ?_ 0 _ rfl; (with_reducible repeat first | apply kn_ | apply kd_ | apply ka_); exact BK286.out) hb); have n4_ := ak (blk_below (g := gb287) (o := .cells #[.int .i64 0, .int .i64 0, .slice none 0 0, .slice none 0 0, .bool false, .bool false, .bool false] 28 (0, 0)) (by (with_reducible repeat first | apply kn_ | apply kd_ | apply ka_); refine blk_far ?_ NB287_286.out _; (with_reducible repeat first | apply kn_ | apply kd_ | apply ka_); refine blk_far ?_ NB287_286.out _; (with_reducible repeat first | apply kn_ | apply kd_ | apply ka_); refine blk_far ?_ NB287_286.out _; (with_reducible repeat first | apply kn_ | apply kd_ | apply ka_); refine blk_far ?_ NB287_286.out _; (with_reducible repeat first | apply kn_ | apply kd_ | apply ka_); refine blk_far ?_ NB287_286.out _; (with_reducible repeat first | apply kn_ | apply kd_ | apply ka_); refine blk_far ?_ NB287_286.out _; (with_reducible repeat first | apply kn_ | apply kd_ | apply ka_); refine blk_far ?_ NB287_286.out _; (with_reducible repeat first | apply kn_ | apply kd_ | apply ka_); exact BK287.out) hb); have n5_ := ak (below_step (by repeat (with_reducible first | exact HB.out | apply ba_ | apply bn_ | apply b1_ | refine bs_ ?_ GE285.out | refine bs_ ?_ GE286.out | refine bs_ ?_ GE287.out)) hb); clear HO292 HO295 BK285 BK286 BK287 HB; have HO292 := n0_; have HO295 := n1_; have BK285 := n2_; have BK286 := n3_; have BK287 := n4_; have HB := n5_; clear n0_ n1_ n2_ n3_ n4_ n5_; (try clear hb); (try clear hb2); (try clear hk); (try clear hi); (try clear A6)))
 go_loopg [10] k (fun kq v10 w' => ∃ (x10_1 : Int) (x287000_1 : Int) (x287001_1 : Int) (x287002_1 : List Bool) (x287003_1 : List Int) (x287004_1 : Bool) (x287005_1 : Bool) (x287006_1 : Bool) (u287002 : Value) (u287003 : Value), v10 = .int .i64 x10_1 ∧ Aside0 (atticref19_Run.l0 kq a1 a3 x10_1 l0_0 l0_1 x287000_1 x287001_1 x287002_1 x287003_1 x287004_1 x287005_1 x287006_1 = some (r1, r2, r3, r4, r5, r6, r7, r8)) ∧ Aside0 (kq ≤ k) ∧ Aside0 (Kd.R Kd.bool 4 w' w.heap.size (fun _ => True) u287002 x287002_1) ∧ Aside0 (Kd.R (Kd.int .i64) 3 w' w.heap.size (fun _ => True) u287003 x287003_1) ∧ Aside0 (w'.heap[gb285]? = some (.cells #[(.slice A0_0 l0_0.length c0_0), (.slice A0_1 l0_1.length c0_1)] 25 (0, 0))) ∧ Aside0 (w'.heap[gb286]? = some (.cells #[.int .i64 x287000_1, .int .i64 x287001_1, u287002, u287003, .bool x287004_1, .bool x287005_1, .bool x287006_1] 28 (0, 0))) ∧ Aside0 (w'.heap[gb287]? = some (.cells #[.int .i64 0, .int .i64 0, (.slice none 0 0), (.slice none 0 0), .bool false, .bool false, .bool false] 28 (0, 0))) ∧ Aside0 (Below w.heap.size w w'))
 case atStart => exact ⟨(0), (t288), (t289), (t290), (t293), (t296), (t297), (t298), (.slice Ao16 t290.length co16), (.slice Ao17 t293.length co17), (by first | rfl | (simp; done) | (simp [*]; done) | (simp [Int.tdiv_eq_ediv_of_nonneg]; done)), H', ⟨Nat.le_refl _⟩, ⟨by (with_reducible repeat (first | apply Kd.R_alloc | apply Kd.R_drewN | apply Kd.R_drew)); exact HO292.out⟩, ⟨by (with_reducible repeat (first | apply Kd.R_alloc | apply Kd.R_drewN | apply Kd.R_drew)); exact HO295.out⟩, ⟨by (with_reducible repeat first | apply kn_ | apply kd_ | apply ka_); exact BK285.out⟩, ⟨by (with_reducible repeat first | apply kn_ | apply kd_ | apply ka_); exact BK286.out⟩, ⟨by (with_reducible repeat first | apply kn_ | apply kd_ | apply ka_); exact BK287.out⟩, ⟨by repeat (with_reducible first | exact HB.out | apply ba_ | apply bn_ | apply b1_ | refine bs_ ?_ GE285.out | refine bs_ ?_ GE286.out | refine bs_ ?_ GE287.out)⟩⟩
 case round =>
  clear H'
  (try clear c1); (try clear c2); (try clear p2); (try clear c4); (try clear c7); (try clear c7b0); (try clear c7b1); (try clear c11); (try clear c12); (try clear c18); (try clear c19); (try clear z13_0 z13_1 z13_2 z13_3 z13_4 z13_5 z13_6); (try clear z15_0 z15_1 z15_2 z15_3 z15_4 z15_5 z15_6); (try clear z19_0 z19_1); (try clear f13_0 f13_1 f13_2 f13_3 f13_4 f13_5 f13_6); (try clear f15_0 f15_1 f15_2 f15_3 f15_4 f15_5 f15_6); (try clear f19_0 f19_1)
  obtain ⟨x10_1, x287000_1, x287001_1, x287002_1, x287003_1, x287004_1, x287005_1, x287006_1, u287002, u287003, rfl, HA, HK1, HO_287002, HO_287003, BK285, BK286, BK287, HB⟩ := hrel
  cases gk with
  | zero => exact absurd HA.out (by simp [atticref19_Run.l0])
  | succ k1 =>
   have H := HA.out
   clear HA
   simp only [atticref19_Run.l0] at H
   by_cases c21 : x10_1 < a3; rotate_left
   ·rw [if_neg c21] at H
    have c21b0 : decide (x10_1 < a3) = false := decide_eq_false c21
    clear c21
    simp only [Option.some.injEq, Prod.mk.injEq] at H
    obtain ⟨rfl, rfl, rfl, rfl, rfl, rfl, rfl, rfl⟩ := H
    have hnb42 := NB286_285.out
    have hnc42 := NB285_286.out
    have hnb43 := NB286_287.out
    have hnc43 := NB287_286.out
    obtain ⟨z44_0, z44_1, z44_2, z44_3, z44_4, z44_5, z44_6, f44_0, f44_1, f44_2, f44_3, f44_4, f44_5, f44_6⟩ := kk7 BK286.out
    have hnb45 := NB287_285.out
    have hnc45 := NB285_287.out
    obtain ⟨z46_0, z46_1, z46_2, z46_3, z46_4, z46_5, z46_6, f46_0, f46_1, f46_2, f46_3, f46_4, f46_5, f46_6⟩ := kk7 BK287.out
    obtain ⟨Ao47, co47, eo47⟩ := Kd.R_slice HO_287002.out
    subst eo47
    obtain ⟨Ao48, co48, eo48⟩ := Kd.R_slice HO_287003.out
    subst eo48
    go_wp2
    refine bodyPost_ret (results_ct rfl _ _ gb287 28 #[.int .i64 x287000_1, .int .i64 x287001_1, .slice Ao47 x287002_1.length co47, .slice Ao48 x287003_1.length co48, .bool x287004_1, .bool x287005_1, .bool x287006_1] (0, 0) _ rfl (by (with_reducible repeat first | apply kn_ | apply kd_ | apply ka_); refine blk_put (cs := #[.int .i64 x287000_1, .int .i64 x287001_1, .slice Ao47 x287002_1.length co47, .slice Ao48 x287003_1.length co48, .bool x287004_1, .bool x287005_1, .bool false]) ?_ 6 _ rfl; (with_reducible repeat first | apply kn_ | apply kd_ | apply ka_); refine blk_put (cs := #[.int .i64 x287000_1, .int .i64 x287001_1, .slice Ao47 x287002_1.length co47, .slice Ao48 x287003_1.length co48, .bool x287004_1, .bool false, .bool false]) ?_ 5 _ rfl; (with_reducible repeat first | apply kn_ | apply kd_ | apply ka_); refine blk_put (cs := #[.int .i64 x287000_1, .int .i64 x287001_1, .slice Ao47 x287002_1.length co47, .slice Ao48 x287003_1.length co48, .bool false, .bool false, .bool false]) ?_ 4 _ rfl; (with_reducible repeat first | apply kn_ | apply kd_ | apply ka_); refine blk_put (cs := #[.int .i64 x287000_1, .int .i64 x287001_1, .slice Ao47 x287002_1.length co47, .slice none 0 0, .bool false, .bool false, .bool false]) ?_ 3 _ rfl; (with_reducible repeat first | apply kn_ | apply kd_ | apply ka_); refine blk_put (cs := #[.int .i64 x287000_1, .int .i64 x287001_1, .slice none 0 0, .slice none 0 0, .bool false, .bool false, .bool false]) ?_ 2 _ rfl; (with_reducible repeat first | apply kn_ | apply kd_ | apply ka_); refine blk_put (cs := #[.int .i64 x287000_1, .int .i64 0, .slice none 0 0, .slice none 0 0, .bool false, .bool false, .bool false]) ?_ 1 _ rfl; (with_reducible repeat first | apply kn_ | apply kd_ | apply ka_); refine blk_put (cs := #[.int .i64 0, .int .i64 0, .slice none 0 0, .slice none 0 0, .bool false, .bool false, .bool false]) ?_ 0 _ rfl; (with_reducible repeat first | apply kn_ | apply kd_ | apply ka_); exact BK287.out) Try.underlying28 rfl (by kernel_rfl)) rfl ?_
    exact ⟨_, _, by first | rfl | (simp [errW_none, errW_some] <;> rfl) | (simp [*, errW_none, errW_some] <;> rfl) | (simp [Int.tdiv_eq_ediv_of_nonneg]; done), by (with_reducible repeat (first | apply Kd.R_alloc | apply Kd.R_drewN | apply Kd.R_drew)); exact Kd.R_mono (Kd.R_far (p := ⟨gb287, 6, none⟩) (Kd.R_far (p := ⟨gb287, 5, none⟩) (Kd.R_far (p := ⟨gb287, 4, none⟩) (Kd.R_far (p := ⟨gb287, 3, none⟩) (Kd.R_far (p := ⟨gb287, 2, none⟩) (Kd.R_far (p := ⟨gb287, 1, none⟩) (Kd.R_far (p := ⟨gb287, 0, none⟩) (Kd.R_types HO_287002.out BK287.out (by decide)) (fun _ hk => hk.2) (.int .i64 x287000_1)) (fun _ hk => hk.2) (.int .i64 x287001_1)) (fun _ hk => hk.2) (.slice Ao47 x287002_1.length co47)) (fun _ hk => hk.2) (.slice Ao48 x287003_1.length co48)) (fun _ hk => hk.2) (.bool x287004_1)) (fun _ hk => hk.2) (.bool x287005_1)) (fun _ hk => hk.2) (.bool x287006_1)) (fun _ hk => trivial), by (with_reducible repeat (first | apply Kd.R_alloc | apply Kd.R_drewN | apply Kd.R_drew)); exact Kd.R_mono (Kd.R_far (p := ⟨gb287, 6, none⟩) (Kd.R_far (p := ⟨gb287, 5, none⟩) (Kd.R_far (p := ⟨gb287, 4, none⟩) (Kd.R_far (p := ⟨gb287, 3, none⟩) (Kd.R_far (p := ⟨gb287, 2, none⟩) (Kd.R_far (p := ⟨gb287, 1, none⟩) (Kd.R_far (p := ⟨gb287, 0, none⟩) (Kd.R_types HO_287003.out BK287.out (by decide)) (fun _ hk => hk.2) (.int .i64 x287000_1)) (fun _ hk => hk.2) (.int .i64 x287001_1)) (fun _ hk => hk.2) (.slice Ao47 x287002_1.length co47)) (fun _ hk => hk.2) (.slice Ao48 x287003_1.length co48)) (fun _ hk => hk.2) (.bool x287004_1)) (fun _ hk => hk.2) (.bool x287005_1)) (fun _ hk => hk.2) (.bool x287006_1)) (fun _ hk => trivial), by repeat (with_reducible first | exact HB.out | apply ba_ | apply bn_ | apply b1_ | refine bs_ ?_ GE285.out | refine bs_ ?_ GE286.out | refine bs_ ?_ GE287.out)⟩
   rw [if_pos c21] at H
   have c21b0 : decide (x10_1 < a3) = true := decide_eq_true c21
   clear c21
   by_cases c22 : x287000_1 = 3; rotate_left
   ·rw [if_neg c22] at H
    have c22b0 : (x287000_1 == 3) = false := beq_eq_false_iff_ne.mpr c22
    have c22b1 : (x287000_1 != 3) = true := bne_iff_ne.mpr c22
    replace H := Option.bind_eq_some_iff.mp H
    obtain ⟨⟨t300, t301, t302, t305, t308, t309, t310, t311⟩, A300, H⟩ := H
    replace H : (atticref19_Run.l0 k1 a1 a3 (wrap64 (x10_1 + 1)) l0_0 l0_1 t300 t301 t302 t305 t308 t309 t310) = some (r1, r2, r3, r4, r5, r6, r7, r8) := H
    have A30 := ak A300
    clear A300
    have H' := ak H
    clear H
    have hnb31 := NB286_285.out
    have hnc31 := NB285_286.out
    have hnb32 := NB286_287.out
    have hnc32 := NB287_286.out
    obtain ⟨z33_0, z33_1, z33_2, z33_3, z33_4, z33_5, z33_6, f33_0, f33_1, f33_2, f33_3, f33_4, f33_5, f33_6⟩ := kk7 BK286.out
    have hnb34 := NB285_287.out
    have hnc34 := NB287_285.out
    obtain ⟨z35_0, z35_1, f35_0, f35_1⟩ := kk2 BK285.out
    obtain ⟨Ao36, co36, eo36⟩ := Kd.R_slice HO_287002.out
    subst eo36
    obtain ⟨Ao37, co37, eo37⟩ := Kd.R_slice HO_287003.out
    subst eo37
    go_wp2_with (first | ((with_reducible refine gate_callee (f := 27) rfl ?_); refine goesL_ (some 31) rfl rfl Try.func27 (by kernel_rfl) rfl #[.agg #[.slice A0_0 l0_0.length c0_0, .slice A0_1 l0_1.length c0_1], .int .i64 a1, .agg #[.int .i64 x287000_1, .int .i64 x287001_1, .slice Ao36 x287002_1.length co36, .slice Ao37 x287003_1.length co37, .bool x287004_1, .bool x287005_1, .bool x287006_1]] rfl (by (try simp only [List.map_toArray, List.map_cons, List.map_nil]); first | done | rfl | (simp only [List.length_drop, List.length_take]; rfl)) ?_; (with_reducible refine (atticref19_Step.calls k1 _ _ l0_0 _ _ l0_1 a1 x287000_1 x287001_1 _ _ x287002_1 _ _ x287003_1 x287004_1 x287005_1 x287006_1 t300 t301 t302 t305 t308 t309 t310 t311 _ ?side1 ?side2 ?side3 ?side4 ?side5 ?side6 ?side7 ?side8 A30.out).mono ?_); (case side1 => repeat (first | exact (Kd.C_below HR0_0.out HB.out) | (with_reducible first | refine ca_ ?_ _ | refine cn_ ?_ _ | refine cd_ ?_))); (case side2 => exact HC0_0.out); (case side3 => repeat (first | exact (Kd.C_below HR0_1.out HB.out) | (with_reducible first | refine ca_ ?_ _ | refine cn_ ?_ _ | refine cd_ ?_))); (case side4 => exact HC0_1.out); (case side5 => repeat (first | exact (Kd.R_reads' HO_287002.out).2.2 | (with_reducible first | refine ca_ ?_ _ | refine cn_ ?_ _ | refine cd_ ?_))); (case side6 => exact (Kd.R_reads' HO_287002.out).2.1); (case side7 => repeat (first | exact (Kd.R_reads' HO_287003.out).2.2 | (with_reducible first | refine ca_ ?_ _ | refine cn_ ?_ _ | refine cd_ ?_))); (case side8 => exact (Kd.R_reads' HO_287003.out).2.1); rintro e w38 ⟨v303, v306, rfl, ho0, ho1, hb⟩; refine ⟨_, rfl, ?_⟩; have n0_ := ak (Kd.R_elder' (by (with_reducible repeat (first | apply Kd.R_alloc | apply Kd.R_drewN | apply Kd.R_drew)); exact HO_287002.out) (Kd.R_base ho0) hb); have n1_ := ak (Kd.R_elder' (by (with_reducible repeat (first | apply Kd.R_alloc | apply Kd.R_drewN | apply Kd.R_drew)); exact HO_287003.out) (Kd.R_base ho1) hb); have n2_ := ak (Kd.R_lower (Kd.R_new' ho0 (Kd.R_lt (by (with_reducible repeat (first | apply Kd.R_alloc | apply Kd.R_drewN | apply Kd.R_drew)); exact HO_287002.out))) (below_size (by repeat (with_reducible first | exact HB.out | apply ba_ | apply bn_ | apply b1_ | refine bs_ ?_ GE285.out | refine bs_ ?_ GE286.out | refine bs_ ?_ GE287.out)))); have n3_ := ak (Kd.R_lower (Kd.R_new' ho1 (Kd.R_lt (by (with_reducible repeat (first | apply Kd.R_alloc | apply Kd.R_drewN | apply Kd.R_drew)); exact HO_287003.out))) (below_size (by repeat (with_reducible first | exact HB.out | apply ba_ | apply bn_ | apply b1_ | refine bs_ ?_ GE285.out | refine bs_ ?_ GE286.out | refine bs_ ?_ GE287.out)))); have n4_ := ak (blk_below (by (with_reducible repeat first | apply kn_ | apply kd_ | apply ka_); exact BK285.out) hb); have n5_ := ak (blk_below (by (with_reducible repeat first | apply kn_ | apply kd_ | apply ka_); exact BK286.out) hb); have n6_ := ak (blk_below (by (with_reducible repeat first | apply kn_ | apply kd_ | apply ka_); exact BK287.out) hb); have n7_ := ak (below_step (by repeat (with_reducible first | exact HB.out | apply ba_ | apply bn_ | apply b1_ | refine bs_ ?_ GE285.out | refine bs_ ?_ GE286.out | refine bs_ ?_ GE287.out)) hb); clear HO_287002 HO_287003 BK285 BK286 BK287 HB; have HO_287002 := n0_; have HO_287003 := n1_; have HO304 := n2_; have HO307 := n3_; have BK285 := n4_; have BK286 := n5_; have BK287 := n6_; have HB := n7_; clear n0_ n1_ n2_ n3_ n4_ n5_ n6_ n7_; (try clear hb); (try clear hb2); (try clear hk); (try clear hi); (try clear ho0); (try clear ho1); (try clear A30); obtain ⟨z39_0, z39_1, z39_2, z39_3, z39_4, z39_5, z39_6, f39_0, f39_1, f39_2, f39_3, f39_4, f39_5, f39_6⟩ := kk7 BK286.out; obtain ⟨Ao40, co40, eo40⟩ := Kd.R_slice HO304.out; subst eo40; obtain ⟨Ao41, co41, eo41⟩ := Kd.R_slice HO307.out; subst eo41))
    go_roundg k1
    case measure => have := HK1.out; omega
    case rel => exact ⟨(wrap64 (x10_1 + 1)), (t300), (t301), (t302), (t305), (t308), (t309), (t310), (.slice Ao40 t302.length co40), (.slice Ao41 t305.length co41), (by first | rfl | (simp; done) | (simp [*]; done) | (simp [Int.tdiv_eq_ediv_of_nonneg]; done)), H', ⟨by have := HK1.out; omega⟩, ⟨by (with_reducible repeat (first | apply Kd.R_alloc | apply Kd.R_drewN | apply Kd.R_drew)); exact Kd.R_mono (Kd.R_far (p := ⟨gb286, 6, none⟩) (Kd.R_far (p := ⟨gb286, 5, none⟩) (Kd.R_far (p := ⟨gb286, 4, none⟩) (Kd.R_far (p := ⟨gb286, 3, none⟩) (Kd.R_far (p := ⟨gb286, 2, none⟩) (Kd.R_far (p := ⟨gb286, 1, none⟩) (Kd.R_far (p := ⟨gb286, 0, none⟩) (Kd.R_types HO304.out BK286.out (by decide)) (fun _ hk => hk.2) (.int .i64 t300)) (fun _ hk => hk.2) (.int .i64 t301)) (fun _ hk => hk.2) (.slice Ao40 t302.length co40)) (fun _ hk => hk.2) (.slice Ao41 t305.length co41)) (fun _ hk => hk.2) (.bool t308)) (fun _ hk => hk.2) (.bool t309)) (fun _ hk => hk.2) (.bool t310)) (fun _ hk => trivial)⟩, ⟨by (with_reducible repeat (first | apply Kd.R_alloc | apply Kd.R_drewN | apply Kd.R_drew)); exact Kd.R_mono (Kd.R_far (p := ⟨gb286, 6, none⟩) (Kd.R_far (p := ⟨gb286, 5, none⟩) (Kd.R_far (p := ⟨gb286, 4, none⟩) (Kd.R_far (p := ⟨gb286, 3, none⟩) (Kd.R_far (p := ⟨gb286, 2, none⟩) (Kd.R_far (p := ⟨gb286, 1, none⟩) (Kd.R_far (p := ⟨gb286, 0, none⟩) (Kd.R_types HO307.out BK286.out (by decide)) (fun _ hk => hk.2) (.int .i64 t300)) (fun _ hk => hk.2) (.int .i64 t301)) (fun _ hk => hk.2) (.slice Ao40 t302.length co40)) (fun _ hk => hk.2) (.slice Ao41 t305.length co41)) (fun _ hk => hk.2) (.bool t308)) (fun _ hk => hk.2) (.bool t309)) (fun _ hk => hk.2) (.bool t310)) (fun _ hk => trivial)⟩, ⟨by (with_reducible repeat first | apply kn_ | apply kd_ | apply ka_); refine blk_far ?_ NB285_286.out _; (with_reducible repeat first | apply kn_ | apply kd_ | apply ka_); refine blk_far ?_ NB285_286.out _; (with_reducible repeat first | apply kn_ | apply kd_ | apply ka_); refine blk_far ?_ NB285_286.out _; (with_reducible repeat first | apply kn_ | apply kd_ | apply ka_); refine blk_far ?_ NB285_286.out _; (with_reducible repeat first | apply kn_ | apply kd_ | apply ka_); refine blk_far ?_ NB285_286.out _; (with_reducible repeat first | apply kn_ | apply kd_ | apply ka_); refine blk_far ?_ NB285_286.out _; (with_reducible repeat first | apply kn_ | apply kd_ | apply ka_); refine blk_far ?_ NB285_286.out _; (with_reducible repeat first | apply kn_ | apply kd_ | apply ka_); exact BK285.out⟩, ⟨by (with_reducible repeat first | apply kn_ | apply kd_ | apply ka_); refine blk_put (cs := #[.int .i64 t300, .int .i64 t301, .slice Ao40 t302.length co40, .slice Ao41 t305.length co41, .bool t308, .bool t309, .bool x287006_1]) ?_ 6 _ rfl; (with_reducible repeat first | apply kn_ | apply kd_ | apply ka_); refine blk_put (cs := #[.int .i64 t300, .int .i64 t301, .slice Ao40 t302.length co40, .slice Ao41 t305.length co41, .bool t308, .bool x287005_1, .bool x287006_1]) ?_ 5 _ rfl; (with_reducible repeat first | apply kn_ | apply kd_ | apply ka_); refine blk_put (cs := #[.int .i64 t300, .int .i64 t301, .slice Ao40 t302.length co40, .slice Ao41 t305.length co41, .bool x287004_1, .bool x287005_1, .bool x287006_1]) ?_ 4 _ rfl; (with_reducible repeat first | apply kn_ | apply kd_ | apply ka_); refine blk_put (cs := #[.int .i64 t300, .int .i64 t301, .slice Ao40 t302.length co40, .slice Ao37 x287003_1.length co37, .bool x287004_1, .bool x287005_1, .bool x287006_1]) ?_ 3 _ rfl; (with_reducible repeat first | apply kn_ | apply kd_ | apply ka_); refine blk_put (cs := #[.int .i64 t300, .int .i64 t301, .slice Ao36 x287002_1.length co36, .slice Ao37 x287003_1.length co37, .bool x287004_1, .bool x287005_1, .bool x287006_1]) ?_ 2 _ rfl; (with_reducible repeat first | apply kn_ | apply kd_ | apply ka_); refine blk_put (cs := #[.int .i64 t300, .int .i64 x287001_1, .slice Ao36 x287002_1.length co36, .slice Ao37 x287003_1.length co37, .bool x287004_1, .bool x287005_1, .bool x287006_1]) ?_ 1 _ rfl; (with_reducible repeat first | apply kn_ | apply kd_ | apply ka_); refine blk_put (cs := #[.int .i64 x287000_1, .int .i64 x287001_1, .slice Ao36 x287002_1.length co36, .slice Ao37 x287003_1.length co37, .bool x287004_1, .bool x287005_1, .bool x287006_1]) ?_ 0 _ rfl; (with_reducible repeat first | apply kn_ | apply kd_ | apply ka_); exact BK286.out⟩, ⟨by (with_reducible repeat first | apply kn_ | apply kd_ | apply ka_); refine blk_far ?_ NB287_286.out _; (with_reducible repeat first | apply kn_ | apply kd_ | apply ka_); refine blk_far ?_ NB287_286.out _; (with_reducible repeat first | apply kn_ | apply kd_ | apply ka_); refine blk_far ?_ NB287_286.out _; (with_reducible repeat first | apply kn_ | apply kd_ | apply ka_); refine blk_far ?_ NB287_286.out _; (with_reducible repeat first | apply kn_ | apply kd_ | apply ka_); refine blk_far ?_ NB287_286.out _; (with_reducible repeat first | apply kn_ | apply kd_ | apply ka_); refine blk_far ?_ NB287_286.out _; (with_reducible repeat first | apply kn_ | apply kd_ | apply ka_); refine blk_far ?_ NB287_286.out _; (with_reducible repeat first | apply kn_ | apply kd_ | apply ka_); exact BK287.out⟩, ⟨by repeat (with_reducible first | exact HB.out | apply ba_ | apply bn_ | apply b1_ | refine bs_ ?_ GE285.out | refine bs_ ?_ GE286.out | refine bs_ ?_ GE287.out)⟩⟩
   rw [if_pos c22] at H
   have c22b0 : (x287000_1 == 3) = true := beq_iff_eq.mpr c22
   have c22b1 : (x287000_1 != 3) = false := bne_eq_false_iff_eq.mpr c22
   clear c22
   simp only [Option.some.injEq, Prod.mk.injEq] at H
   obtain ⟨rfl, rfl, rfl, rfl, rfl, rfl, rfl, rfl⟩ := H
   have hnb23 := NB286_285.out
   have hnc23 := NB285_286.out
   have hnb24 := NB286_287.out
   have hnc24 := NB287_286.out
   obtain ⟨z25_0, z25_1, z25_2, z25_3, z25_4, z25_5, z25_6, f25_0, f25_1, f25_2, f25_3, f25_4, f25_5, f25_6⟩ := kk7 BK286.out
   have hnb26 := NB287_285.out
   have hnc26 := NB285_287.out
   obtain ⟨z27_0, z27_1, z27_2, z27_3, z27_4, z27_5, z27_6, f27_0, f27_1, f27_2, f27_3, f27_4, f27_5, f27_6⟩ := kk7 BK287.out
   obtain ⟨Ao28, co28, eo28⟩ := Kd.R_slice HO_287002.out
   subst eo28
   obtain ⟨Ao29, co29, eo29⟩ := Kd.R_slice HO_287003.out
   subst eo29
   go_wp2
   refine bodyPost_ret (results_ct rfl _ _ gb287 28 #[.int .i64 x287000_1, .int .i64 x287001_1, .slice Ao28 x287002_1.length co28, .slice Ao29 x287003_1.length co29, .bool x287004_1, .bool x287005_1, .bool x287006_1] (0, 0) _ rfl (by (with_reducible repeat first | apply kn_ | apply kd_ | apply ka_); refine blk_put (cs := #[.int .i64 x287000_1, .int .i64 x287001_1, .slice Ao28 x287002_1.length co28, .slice Ao29 x287003_1.length co29, .bool x287004_1, .bool x287005_1, .bool false]) ?_ 6 _ rfl; (with_reducible repeat first | apply kn_ | apply kd_ | apply ka_); refine blk_put (cs := #[.int .i64 x287000_1, .int .i64 x287001_1, .slice Ao28 x287002_1.length co28, .slice Ao29 x287003_1.length co29, .bool x287004_1, .bool false, .bool false]) ?_ 5 _ rfl; (with_reducible repeat first | apply kn_ | apply kd_ | apply ka_); refine blk_put (cs := #[.int .i64 x287000_1, .int .i64 x287001_1, .slice Ao28 x287002_1.length co28, .slice Ao29 x287003_1.length co29, .bool false, .bool false, .bool false]) ?_ 4 _ rfl; (with_reducible repeat first | apply kn_ | apply kd_ | apply ka_); refine blk_put (cs := #[.int .i64 x287000_1, .int .i64 x287001_1, .slice Ao28 x287002_1.length co28, .slice none 0 0, .bool false, .bool false, .bool false]) ?_ 3 _ rfl; (with_reducible repeat first | apply kn_ | apply kd_ | apply ka_); refine blk_put (cs := #[.int .i64 x287000_1, .int .i64 x287001_1, .slice none 0 0, .slice none 0 0, .bool false, .bool false, .bool false]) ?_ 2 _ rfl; (with_reducible repeat first | apply kn_ | apply kd_ | apply ka_); refine blk_put (cs := #[.int .i64 x287000_1, .int .i64 0, .slice none 0 0, .slice none 0 0, .bool false, .bool false, .bool false]) ?_ 1 _ rfl; (with_reducible repeat first | apply kn_ | apply kd_ | apply ka_); refine blk_put (cs := #[.int .i64 0, .int .i64 0, .slice none 0 0, .slice none 0 0, .bool false, .bool false, .bool false]) ?_ 0 _ rfl; (with_reducible repeat first | apply kn_ | apply kd_ | apply ka_); exact BK287.out) Try.underlying28 rfl (by kernel_rfl)) rfl ?_
   exact ⟨_, _, by first | rfl | (simp [errW_none, errW_some] <;> rfl) | (simp [*, errW_none, errW_some] <;> rfl) | (simp [Int.tdiv_eq_ediv_of_nonneg]; done), by (with_reducible repeat (first | apply Kd.R_alloc | apply Kd.R_drewN | apply Kd.R_drew)); exact Kd.R_mono (Kd.R_far (p := ⟨gb287, 6, none⟩) (Kd.R_far (p := ⟨gb287, 5, none⟩) (Kd.R_far (p := ⟨gb287, 4, none⟩) (Kd.R_far (p := ⟨gb287, 3, none⟩) (Kd.R_far (p := ⟨gb287, 2, none⟩) (Kd.R_far (p := ⟨gb287, 1, none⟩) (Kd.R_far (p := ⟨gb287, 0, none⟩) (Kd.R_types HO_287002.out BK287.out (by decide)) (fun _ hk => hk.2) (.int .i64 x287000_1)) (fun _ hk => hk.2) (.int .i64 x287001_1)) (fun _ hk => hk.2) (.slice Ao28 x287002_1.length co28)) (fun _ hk => hk.2) (.slice Ao29 x287003_1.length co29)) (fun _ hk => hk.2) (.bool x287004_1)) (fun _ hk => hk.2) (.bool x287005_1)) (fun _ hk => hk.2) (.bool x287006_1)) (fun _ hk => trivial), by (with_reducible repeat (first | apply Kd.R_alloc | apply Kd.R_drewN | apply Kd.R_drew)); exact Kd.R_mono (Kd.R_far (p := ⟨gb287, 6, none⟩) (Kd.R_far (p := ⟨gb287, 5, none⟩) (Kd.R_far (p := ⟨gb287, 4, none⟩) (Kd.R_far (p := ⟨gb287, 3, none⟩) (Kd.R_far (p := ⟨gb287, 2, none⟩) (Kd.R_far (p := ⟨gb287, 1, none⟩) (Kd.R_far (p := ⟨gb287, 0, none⟩) (Kd.R_types HO_287003.out BK287.out (by decide)) (fun _ hk => hk.2) (.int .i64 x287000_1)) (fun _ hk => hk.2) (.int .i64 x287001_1)) (fun _ hk => hk.2) (.slice Ao28 x287002_1.length co28)) (fun _ hk => hk.2) (.slice Ao29 x287003_1.length co29)) (fun _ hk => hk.2) (.bool x287004_1)) (fun _ hk => hk.2) (.bool x287005_1)) (fun _ hk => hk.2) (.bool x287006_1)) (fun _ hk => trivial), by repeat (with_reducible first | exact HB.out | apply ba_ | apply bn_ | apply b1_ | refine bs_ ?_ GE285.out | refine bs_ ?_ GE286.out | refine bs_ ?_ GE287.out)⟩
end Go.Proofs.Ytnmpmjbkelogaaa.Print
