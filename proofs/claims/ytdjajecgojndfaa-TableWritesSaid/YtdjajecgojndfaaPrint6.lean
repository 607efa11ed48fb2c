-- Written by a program of this session (wip/xprint.py, by way of the print): Lean functions and proofs that the Go functions come to them.
import Derived.Test.YtdjajecgojndfaaPrint0
import Derived.Test.YtdjajecgojndfaaPrint1
import Derived.Test.YtdjajecgojndfaaPrint4
import Derived.Test.YtdjajecgojndfaaPrint5
namespace Go.Proofs.Ytdjajecgojndfaa.Print
open Go.RowKit Go.Proofs.YtdjajecgojndfaaW.PrintWords Go.Proofs.YtdjajecgojndfaaW.PrintLast Go.Proofs.YtdjajecgojndfaaW.PrintMore
attribute [local go_sem] max2_int min2_int max_two min_two max_three min_three max_four min_four   -- for this text's walks alone
set_option linter.unusedVariables false
set_option linter.unusedSimpArgs false

attribute [local go_sem high] eqA34
/-! ### table_From: function 40 -/
mutual
def table_From.l0 : Nat → Int → List (List Int) → Int → Int → List (S34) → Option ((List (S34)) × Int)
 | 0, _, _, _, _, _ => none
 | k + 1, x0, x29, x30, x31, x238000 => if x31 < x30 then (if 0 ≤ x31 then (if x31 < (x29.length : Int) then (if ((rd_L7 x29 x31).length : Int) = 256 then (table_From.l1 k x0 x31 (rd_L7 x29 x31) x29 x30 x31 0 x238000) else (some (([] : List (S34)), 140))) else (none)) else (none)) else (some (x238000, 0))
def table_From.l1 : Nat → Int → Int → List Int → List (List Int) → Int → Int → Int → List (S34) → Option ((List (S34)) × Int)
 | 0, _, _, _, _, _, _, _, _ => none
 | k + 1, x0, x8, x9, x29, x30, x31, x40, x238000 => if x40 < 32 then (if 0 ≤ (wrap64 (8 * x40)) then (if (wrap64 (8 * x40)) ≤ (wrap64 (8 * (wrap64 (x40 + 1)))) then (if (wrap64 (8 * (wrap64 (x40 + 1)))) ≤ (x9.length : Int) then ((table_Parse.f k ((x9.take ((wrap64 (8 * (wrap64 (x40 + 1)))) : Int).toNat).drop ((wrap64 (8 * x40)) : Int).toNat)).bind fun bt241 => (if bt241.2.2 = 0 then (if (wrap64 ((wrap64 (32 * x8)) + x40)) ≥ x0 then (table_From.j2 k x0 x8 x9 (wrap64 ((wrap64 (32 * x8)) + x40)) x29 x30 x31 x40 (!(bt241.1 == (-1)) || (!(bt241.2.1 == 0))) x238000 bt241.1 bt241.2.1) else (table_From.j2 k x0 x8 x9 (wrap64 ((wrap64 (32 * x8)) + x40)) x29 x30 x31 x40 false x238000 bt241.1 bt241.2.1)) else (table_From.j2 k x0 x8 x9 (wrap64 ((wrap64 (32 * x8)) + x40)) x29 x30 x31 x40 true x238000 bt241.1 bt241.2.1))) else (none)) else (none)) else (none)) else (table_From.l0 k x0 x29 x30 (wrap64 (x31 + 1)) x238000)
def table_From.j2 : Nat → Int → Int → List Int → Int → List (List Int) → Int → Int → Int → Bool → List (S34) → Int → Int → Option ((List (S34)) × Int)
 | 0, _, _, _, _, _, _, _, _, _, _, _, _ => none
 | k + 1, x0, x8, x9, x11, x29, x30, x31, x40, x58, x238000, x245000, x245001 => if x58 = true then (some (([] : List (S34)), 140)) else (if x11 < x0 then (if 0 ≤ x11 then (if x11 < (x238000.length : Int) then (table_From.l1 k x0 x8 x9 x29 x30 x31 (wrap64 (x40 + 1)) (x238000.set (x11 : Int).toNat (⟨x245000, x245001⟩ : S34))) else (none)) else (none)) else (table_From.l1 k x0 x8 x9 x29 x30 x31 (wrap64 (x40 + 1)) x238000))
end
def table_From.f (k : Nat) (a0 : Int) (l1 : List (List Int)) : Option ((List (S34)) × Int) := (table_New.f a0).bind fun bt233 => (if bt233.2 = 0 then ((table_pages.f a0).bind fun t238 => (if (l1.length : Int) = t238 then (table_From.l0 k a0 l1 (l1.length : Int) 0 bt233.1) else (some (([] : List (S34)), 140)))) else (some (bt233.1, bt233.2)))
theorem table_From.mono_l : ∀ k, (∀ y0 y1 y2 y3 y4, LeO (table_From.l0 k y0 y1 y2 y3 y4) (table_From.l0 (k + 1) y0 y1 y2 y3 y4)) ∧ (∀ y0 y1 y2 y3 y4 y5 y6 y7, LeO (table_From.l1 k y0 y1 y2 y3 y4 y5 y6 y7) (table_From.l1 (k + 1) y0 y1 y2 y3 y4 y5 y6 y7)) ∧ (∀ y0 y1 y2 y3 y4 y5 y6 y7 y8 y9 y10 y11, LeO (table_From.j2 k y0 y1 y2 y3 y4 y5 y6 y7 y8 y9 y10 y11) (table_From.j2 (k + 1) y0 y1 y2 y3 y4 y5 y6 y7 y8 y9 y10 y11))
 | 0 => ⟨fun _ _ _ _ _ r h => by simp [table_From.l0] at h, fun _ _ _ _ _ _ _ _ r h => by simp [table_From.l1] at h, fun _ _ _ _ _ _ _ _ _ _ _ _ r h => by simp [table_From.j2] at h⟩
 | k + 1 => by
  obtain ⟨ih0, ih1, ih2⟩ := table_From.mono_l k
  refine ⟨?_, ?_, ?_⟩
  ·intro y0 y1 y2 y3 y4
   unfold table_From.l0
   repeat' first
   | (with_reducible exact ih0 _ _ _ _ _)
   | (with_reducible exact ih1 _ _ _ _ _ _ _ _)
   | (with_reducible exact ih2 _ _ _ _ _ _ _ _ _ _ _ _)
   | (with_reducible exact table_Parse.mono _ _)
   | (with_reducible exact LeO.refl _)
   | (with_reducible exact LeO.none _)
   | (with_reducible refine LeO.ite ?_ ?_)
   | (with_reducible refine LeO.bind ?_ (fun _ => ?_))
   | exact ih0 _ _ _ _ _
   | exact ih1 _ _ _ _ _ _ _ _
   | exact ih2 _ _ _ _ _ _ _ _ _ _ _ _
   | exact table_Parse.mono _ _
   | exact LeO.none _
   | refine LeO.ite ?_ ?_
   | refine LeO.bind ?_ (fun _ => ?_)
  ·intro y0 y1 y2 y3 y4 y5 y6 y7
   unfold table_From.l1
   repeat' first
   | (with_reducible exact ih0 _ _ _ _ _)
   | (with_reducible exact ih1 _ _ _ _ _ _ _ _)
   | (with_reducible exact ih2 _ _ _ _ _ _ _ _ _ _ _ _)
   | (with_reducible exact table_Parse.mono _ _)
   | (with_reducible exact LeO.refl _)
   | (with_reducible exact LeO.none _)
   | (with_reducible refine LeO.ite ?_ ?_)
   | (with_reducible refine LeO.bind ?_ (fun _ => ?_))
   | exact ih0 _ _ _ _ _
   | exact ih1 _ _ _ _ _ _ _ _
   | exact ih2 _ _ _ _ _ _ _ _ _ _ _ _
   | exact table_Parse.mono _ _
   | exact LeO.none _
   | refine LeO.ite ?_ ?_
   | refine LeO.bind ?_ (fun _ => ?_)
  ·intro y0 y1 y2 y3 y4 y5 y6 y7 y8 y9 y10 y11
   unfold table_From.j2
   repeat' first
   | (with_reducible exact ih0 _ _ _ _ _)
   | (with_reducible exact ih1 _ _ _ _ _ _ _ _)
   | (with_reducible exact ih2 _ _ _ _ _ _ _ _ _ _ _ _)
   | (with_reducible exact table_Parse.mono _ _)
   | (with_reducible exact LeO.refl _)
   | (with_reducible exact LeO.none _)
   | (with_reducible refine LeO.ite ?_ ?_)
   | (with_reducible refine LeO.bind ?_ (fun _ => ?_))
   | exact ih0 _ _ _ _ _
   | exact ih1 _ _ _ _ _ _ _ _
   | exact ih2 _ _ _ _ _ _ _ _ _ _ _ _
   | exact table_Parse.mono _ _
   | exact LeO.none _
   | refine LeO.ite ?_ ?_
   | refine LeO.bind ?_ (fun _ => ?_)
theorem table_From.mono : ∀ a0 a1 k, LeO (table_From.f k a0 a1) (table_From.f (k + 1) a0 a1) := by
 intro a0 a1 k
 obtain ⟨ih0, ih1, ih2⟩ := table_From.mono_l k
 unfold table_From.f
 repeat' first
   | (with_reducible exact ih0 _ _ _ _ _)
   | (with_reducible exact ih1 _ _ _ _ _ _ _ _)
   | (with_reducible exact ih2 _ _ _ _ _ _ _ _ _ _ _ _)
   | (with_reducible exact table_Parse.mono _ _)
   | (with_reducible exact LeO.refl _)
   | (with_reducible exact LeO.none _)
   | (with_reducible refine LeO.ite ?_ ?_)
   | (with_reducible refine LeO.bind ?_ (fun _ => ?_))
   | exact ih0 _ _ _ _ _
   | exact ih1 _ _ _ _ _ _ _ _
   | exact ih2 _ _ _ _ _ _ _ _ _ _ _ _
   | exact table_Parse.mono _ _
   | exact LeO.none _
   | refine LeO.ite ?_ ?_
   | refine LeO.bind ?_ (fun _ => ?_)
set_option maxHeartbeats 8000000 in
set_option maxRecDepth 100000 in
theorem table_From.calls (k : Nat) (a0 : Int) (A1 : Option Addr) (c1 : Nat) (l1 : List (List Int)) (r1 : List (S34)) (r2 : Int) (w : World) (hr1 : Kd.C (Kd.slice 5 (Kd.int .u8)) w A1 l1.length l1) (hc1 : l1.length ≤ c1) (h : table_From.f k a0 l1 = some (r1, r2)) :
  Calls Try.prog 40 #[.int .i64 a0, .slice A1 l1.length c1] w fun e w' => ∃ v0_ : Value, e = .returned (.tuple #[.agg #[v0_], .int .i64 r2]) ∧ Kd.R k34 34 w' w.heap.size (fun _ => True) v0_ r1 ∧ Below w.heap.size w w' := by
 have hu24 := Try.underlying24
 have hu34 := Try.underlying34
 have HR1 := Aside0.mk hr1
 have HC1 := Aside0.mk hc1
 clear hr1 hc1
 have HB := Aside0.mk (Below.refl w.heap.size w)
 have H : ((table_New.f a0).bind fun bt233 => (if bt233.2 = 0 then ((table_pages.f a0).bind fun t238 => (if (l1.length : Int) = t238 then (table_From.l0 k a0 l1 (l1.length : Int) 0 bt233.1) else (some (([] : List (S34)), 140)))) else (some (bt233.1, bt233.2)))) = some (r1, r2) := h
 clear h
 replace H := Option.bind_eq_some_iff.mp H
 obtain ⟨⟨t233, t236⟩, A30, H⟩ := H
 replace H : (if t236 = 0 then ((table_pages.f a0).bind fun t238 => (if (l1.length : Int) = t238 then (table_From.l0 k a0 l1 (l1.length : Int) 0 t233) else (some (([] : List (S34)), 140)))) else (some (t233, t236))) = some (r1, r2) := H
 have A3 := Aside0.mk A30
 clear A30
 by_cases c4 : t236 = 0
 ·rw [if_pos c4] at H
  have c4b0 : (t236 == 0) = true := beq_iff_eq.mpr c4
  have c4b1 : (t236 != 0) = false := bne_eq_false_iff_eq.mpr c4
  clear c4
  replace H := Option.bind_eq_some_iff.mp H
  obtain ⟨t238, A50, H⟩ := H
  replace H : (if (l1.length : Int) = t238 then (table_From.l0 k a0 l1 (l1.length : Int) 0 t233) else (some (([] : List (S34)), 140))) = some (r1, r2) := H
  have A5 := Aside0.mk A50
  clear A50
  by_cases c6 : (l1.length : Int) = t238
  ·rw [if_pos c6] at H
   have c6b0 : ((l1.length : Int) == t238) = true := beq_iff_eq.mpr c6
   have c6b1 : ((l1.length : Int) != t238) = false := bne_eq_false_iff_eq.mpr c6
   clear c6
   have H' := Aside0.mk H
   clear H
   go_enter Try.func40, Try.ntmps40
   go_wp2_with (first | ((with_reducible refine gate_dst (N := 4) rfl ?_); refine box_event ?hg (N := 4) ?hd (cs := #[.slice none 0 0]) (t := 24) ?hr ?_; (case hd => rfl); (case hg => rfl); (case hr => first | (go_simp; done) | (go_simp; rfl)); intro gb232 hg w7 hbox hb; have n0_ := Aside0.mk (below_step (by repeat (first | (with_reducible first | exact HB.out | apply below_alloc | apply pw_below_drewN | apply below_drew1) | exact HB.out)) hb); have n1_ := Aside0.mk (hbox); have n2_ := Aside0.mk ((by rw [hg]; exact (below_size (by repeat (first | (with_reducible first | exact HB.out | apply below_alloc | apply pw_below_drewN | apply below_drew1) | exact HB.out))) : w.heap.size ≤ gb232)); have n3_ := Aside0.mk ((by rw [hg]; exact (below_size (by repeat (first | (with_reducible first | exact HB.out | apply below_alloc | apply pw_below_drewN | apply below_drew1) | exact HB.out))) : w.heap.size ≤ gb232)); clear HB; have HB := n0_; have BK232 := n1_; have GW232 := n2_; have GE232 := n3_; clear n0_ n1_ n2_ n3_; clear hb hbox hg) | ((with_reducible refine gate_callee (f := 25) rfl ?_); refine goesL_ (some 16) rfl rfl Try.func25 (by kernel_rfl) rfl #[.int .i64 a0] rfl (by (try simp only [List.map_toArray, List.map_cons, List.map_nil]); first | done | rfl | (simp only [List.length_drop, List.length_take]; rfl)) ?_; (with_reducible refine (table_New.calls a0 t233 t236 _ A3.out).mono ?_); rintro e w8 ⟨v234, rfl, ho0, hb⟩; refine ⟨_, rfl, ?_⟩; have n0_ := Aside0.mk (Kd.R_lower ho0 (below_size (by repeat (first | (with_reducible first | exact HB.out | apply below_alloc | apply pw_below_drewN | apply below_drew1 | refine below_set ?_ GE232.out) | exact HB.out)))); have n1_ := Aside0.mk (blk_below (g := gb232) (o := .cells #[.slice none 0 0] 24 (0, 0)) (by (with_reducible repeat first | apply blk_drewN | apply blk_drew | apply blk_alloc); exact BK232.out) hb); have n2_ := Aside0.mk (below_step (by repeat (first | (with_reducible first | exact HB.out | apply below_alloc | apply pw_below_drewN | apply below_drew1 | refine below_set ?_ GE232.out) | exact HB.out)) hb); clear BK232; clear HB; have HO235 := n0_; have BK232 := n1_; have HB := n2_; clear n0_ n1_ n2_; (try clear hb); (try clear hb2); (try clear hk); (try clear hi); (try clear ho0); (try clear A3)) | ((with_reducible refine gate_dst (N := 6) rfl ?_); refine box_event ?hg (N := 6) ?hd (cs := #[.slice none 0 0]) (t := 24) ?hr ?_; (case hd => rfl); (case hg => rfl); (case hr => first | (go_simp; done) | (go_simp; rfl)); intro gb237 hg w9 hbox hb; have n0_ := Aside0.mk (Kd.R_below (by (with_reducible repeat (first | apply Kd.R_alloc | apply Kd.R_drewN | apply Kd.R_drew)); exact HO235.out) hb); have n1_ := Aside0.mk (blk_below (g := gb232) (o := .cells #[.slice none 0 0] 24 (0, 0)) (by (with_reducible repeat first | apply blk_drewN | apply blk_drew | apply blk_alloc); exact BK232.out) hb); have n2_ := Aside0.mk (below_step (by repeat (first | (with_reducible first | exact HB.out | apply below_alloc | apply pw_below_drewN | apply below_drew1 | refine below_set ?_ GE232.out) | exact HB.out)) hb); have n3_ := Aside0.mk (hbox); have n4_ := Aside0.mk ((by rw [hg]; exact (below_size (by repeat (first | (with_reducible first | exact HB.out | apply below_alloc | apply pw_below_drewN | apply below_drew1 | refine below_set ?_ GE232.out) | exact HB.out))) : w.heap.size ≤ gb237)); have n5_ := Aside0.mk ((by rw [hg]; exact (below_size (by repeat (first | (with_reducible first | exact HB.out | apply below_alloc | apply pw_below_drewN | apply below_drew1 | refine below_set ?_ GE232.out) | exact HB.out))) : w.heap.size ≤ gb237)); have n6_ := Aside0.mk ((by rw [hg]; exact Nat.ne_of_lt (blk_lt (g := gb232) (o := .cells #[.slice none 0 0] 24 (0, 0)) (by (with_reducible repeat first | apply blk_drewN | apply blk_drew | apply blk_alloc); exact BK232.out)) : gb232 ≠ gb237)); have n7_ := Aside0.mk ((by rw [hg]; exact Nat.ne_of_gt (blk_lt (g := gb232) (o := .cells #[.slice none 0 0] 24 (0, 0)) (by (with_reducible repeat first | apply blk_drewN | apply blk_drew | apply blk_alloc); exact BK232.out)) : gb237 ≠ gb232)); clear HO235; clear BK232; clear HB; have HO235 := n0_; have BK232 := n1_; have HB := n2_; have BK237 := n3_; have GW237 := n4_; have GE237 := n5_; have NB232_237 := n6_; have NB237_232 := n7_; clear n0_ n1_ n2_ n3_ n4_ n5_ n6_ n7_; clear hb hbox hg; obtain ⟨Ao10, co10, eo10⟩ := Kd.R_slice HO235.out; subst eo10; have hnb11 := NB237_232.out; have hnc11 := NB232_237.out; have hcz12_0 : w9.cell? ⟨gb237, 0, none⟩ = some (.slice none 0 0) := (blk_cell BK237.out 0).trans rfl; have hfz12_0 := blk_frozen BK237.out 0) | ((with_reducible refine gate_callee (f := 59) rfl ?_); refine goesL_ (some 26) rfl rfl Try.func59 (by kernel_rfl) rfl #[.int .i64 a0] rfl (by (try simp only [List.map_toArray, List.map_cons, List.map_nil]); first | done | rfl | (simp only [List.length_drop, List.length_take]; rfl)) ?_; (with_reducible refine (table_pages.calls a0 t238 _ A5.out).mono ?_); rintro e w' ⟨rfl, ⟨nd, rfl⟩⟩; refine ⟨_, rfl, ?_⟩))
   go_loopg [31] k (fun kq v31 w' => ∃ (x31_1 : Int) (x238000_1 : List (S34)) (u238000 : Value), v31 = .int .i64 x31_1 ∧ Aside0 (table_From.l0 kq a0 l1 (l1.length : Int) x31_1 x238000_1 = some (r1, r2)) ∧ Aside0 (kq ≤ k) ∧ Aside0 (Kd.R k34 34 w' w.heap.size (fun _ => True) u238000 x238000_1) ∧ Aside0 (w'.heap[gb232]? = some (.cells #[(.slice none 0 0)] 24 (0, 0))) ∧ Aside0 (w'.heap[gb237]? = some (.cells #[u238000] 24 (0, 0))) ∧ Aside0 (Below w.heap.size w w'))
   case atStart => exact ⟨(0), (t233), (.slice Ao10 t233.length co10), (by first | rfl | (simp; done) | (simp [*]; done) | (simp [Int.tdiv_eq_ediv_of_nonneg]; done)), H', ⟨Nat.le_refl _⟩, ⟨by (with_reducible repeat (first | apply Kd.R_alloc | apply Kd.R_drewN | apply Kd.R_drew)); exact Kd.R_mono (Kd.R_far (p := ⟨gb237, 0, none⟩) (Kd.R_types HO235.out BK237.out (by decide)) (fun _ hk => hk.2) (.slice Ao10 t233.length co10)) (fun _ hk => trivial)⟩, ⟨by (with_reducible repeat first | apply blk_drewN | apply blk_drew | apply blk_alloc); refine blk_far ?_ NB232_237.out _; (with_reducible repeat first | apply blk_drewN | apply blk_drew | apply blk_alloc); exact BK232.out⟩, ⟨by (with_reducible repeat first | apply blk_drewN | apply blk_drew | apply blk_alloc); refine blk_put (cs := #[.slice none 0 0]) ?_ 0 _ rfl; (with_reducible repeat first | apply blk_drewN | apply blk_drew | apply blk_alloc); exact BK237.out⟩, ⟨by repeat (first | (with_reducible first | exact HB.out | apply below_alloc | apply pw_below_drewN | apply below_drew1 | refine below_set ?_ GE232.out | refine below_set ?_ GE237.out) | exact HB.out)⟩⟩
   case round =>
    clear H'
    try clear c1
    try clear c2
    try clear p2
    try clear c4
    try clear c4b0
    try clear c4b1
    try clear c5
    try clear c6
    try clear c6b0
    try clear c6b1
    try clear c11
    try clear hcz12_0
    try clear hfz12_0
    obtain ⟨x31_1, x238000_1, u238000, rfl, HA, HK1, HO_238000, BK232, BK237, HB⟩ := hrel
    cases gk with
    | zero => exact absurd HA.out (by simp [table_From.l0])
    | succ k1 =>
     have H := HA.out
     clear HA
     simp only [table_From.l0] at H
     by_cases c13 : x31_1 < (l1.length : Int)
     ·rw [if_pos c13] at H
      have c13b0 : decide (x31_1 < (l1.length : Int)) = true := decide_eq_true c13
      clear c13
      by_cases c14 : 0 ≤ x31_1
      ·rw [if_pos c14] at H
       have c14b0 : decide (0 ≤ x31_1) = true := decide_eq_true c14
       clear c14
       by_cases c15 : x31_1 < (l1.length : Int)
       ·rw [if_pos c15] at H
        have c15b0 : decide (x31_1 < (l1.length : Int)) = true := decide_eq_true c15
        clear c15
        by_cases c16 : ((rd_L7 l1 x31_1).length : Int) = 256
        ·rw [if_pos c16] at H
         have c16b0 : (((rd_L7 l1 x31_1).length : Int) == 256) = true := beq_iff_eq.mpr c16
         have c16b1 : (((rd_L7 l1 x31_1).length : Int) != 256) = false := bne_eq_false_iff_eq.mpr c16
         clear c16
         have H' := Aside0.mk H
         clear H
         have p239 : 0 ≤ (x31_1 : Int) := of_decide_eq_true (by first | (with_reducible assumption) | assumption)
         have q239 : x31_1 < (l1.length : Int) := of_decide_eq_true (by first | (with_reducible assumption) | assumption)
         obtain ⟨ad239, A239_0, c239_0, e239, hx239_0, hl239_0, hi239_0⟩ := at_L7 HR1.out x31_1 p239 q239
         cases e239
         replace hx239_0 := (HB.out.cell (World.block_lt_of_cell? w _ hx239_0)).trans hx239_0
         have HR239_0 := Aside0.mk hi239_0
         have HC239_0 := Aside0.mk hl239_0
         clear hi239_0 hl239_0
         replace p239 := eq_true p239
         replace q239 := eq_true q239
         go_wp2
         go_loopg [40] k1 (fun kq v40 w' => ∃ (x40_2 : Int) (x238000_2 : List (S34)) (u238000 : Value), v40 = .int .i64 x40_2 ∧ Aside0 (table_From.l1 kq a0 x31_1 (rd_L7 l1 x31_1) l1 (l1.length : Int) x31_1 x40_2 x238000_2 = some (r1, r2)) ∧ Aside0 (kq ≤ k1) ∧ Aside0 (Kd.R k34 34 w' w.heap.size (fun _ => True) u238000 x238000_2) ∧ Aside0 (w'.heap[gb232]? = some (.cells #[(.slice none 0 0)] 24 (0, 0))) ∧ Aside0 (w'.heap[gb237]? = some (.cells #[u238000] 24 (0, 0))) ∧ Aside0 (Below w.heap.size w w'))
         case atStart => exact ⟨(0), (x238000_1), (u238000), (by first | rfl | (simp; done) | (simp [*]; done) | (simp [Int.tdiv_eq_ediv_of_nonneg]; done)), H', ⟨Nat.le_refl _⟩, ⟨by (with_reducible repeat (first | apply Kd.R_alloc | apply Kd.R_drewN | apply Kd.R_drew)); exact HO_238000.out⟩, ⟨by (with_reducible repeat first | apply blk_drewN | apply blk_drew | apply blk_alloc); exact BK232.out⟩, ⟨by (with_reducible repeat first | apply blk_drewN | apply blk_drew | apply blk_alloc); exact BK237.out⟩, ⟨by repeat (first | (with_reducible first | exact HB.out | apply below_alloc | apply pw_below_drewN | apply below_drew1 | refine below_set ?_ GE232.out | refine below_set ?_ GE237.out) | exact HB.out)⟩⟩
         case round =>
          clear H'
          try clear c1
          try clear c2
          try clear p2
          try clear q2
          try clear hx2
          try clear c4
          try clear c4b0
          try clear c4b1
          try clear c5
          try clear c6
          try clear c6b0
          try clear c6b1
          try clear c11
          try clear c13
          try clear c13b0
          try clear c14
          try clear c14b0
          try clear c15
          try clear c15b0
          try clear c16
          try clear c16b0
          try clear c16b1
          try clear hcz12_0
          try clear hfz12_0
          try clear hx239_0
          try clear p2
          try clear p239
          try clear q239
          obtain ⟨x40_2, x238000_2, u238000, rfl, HA, HK2, HO_238000, BK232, BK237, HB⟩ := hrel
          cases gk with
          | zero => exact absurd HA.out (by simp [table_From.l1])
          | succ k2 =>
           have H := HA.out
           clear HA
           simp only [table_From.l1] at H
           by_cases c17 : x40_2 < 32
           ·rw [if_pos c17] at H
            have c17b0 : decide (x40_2 < 32) = true := decide_eq_true c17
            clear c17
            obtain ⟨ji18, hji18⟩ : ∃ j_ : Int, (wrap64 (8 * x40_2)) = j_ := ⟨_, rfl⟩
            replace H : (if 0 ≤ (ji18) then (if (ji18) ≤ (wrap64 (8 * (wrap64 (x40_2 + 1)))) then (if (wrap64 (8 * (wrap64 (x40_2 + 1)))) ≤ ((rd_L7 l1 x31_1).length : Int) then ((table_Parse.f k2 (((rd_L7 l1 x31_1).take ((wrap64 (8 * (wrap64 (x40_2 + 1)))) : Int).toNat).drop ((ji18) : Int).toNat)).bind fun bt241 => (if bt241.2.2 = 0 then (if (wrap64 ((wrap64 (32 * x31_1)) + x40_2)) ≥ a0 then (table_From.j2 k2 a0 x31_1 (rd_L7 l1 x31_1) (wrap64 ((wrap64 (32 * x31_1)) + x40_2)) l1 (l1.length : Int) x31_1 x40_2 (!(bt241.1 == (-1)) || (!(bt241.2.1 == 0))) x238000_2 bt241.1 bt241.2.1) else (table_From.j2 k2 a0 x31_1 (rd_L7 l1 x31_1) (wrap64 ((wrap64 (32 * x31_1)) + x40_2)) l1 (l1.length : Int) x31_1 x40_2 false x238000_2 bt241.1 bt241.2.1)) else (table_From.j2 k2 a0 x31_1 (rd_L7 l1 x31_1) (wrap64 ((wrap64 (32 * x31_1)) + x40_2)) l1 (l1.length : Int) x31_1 x40_2 true x238000_2 bt241.1 bt241.2.1))) else (none)) else (none)) else (none)) = some (r1, r2) := by first | (rw [hji18] at H; exact H) | (simp only [hji18] at H ⊢; exact H)
            have hji18w : (IntKind.i64.wrap (8 * x40_2)) = ji18 := (i64_w _).trans hji18
            by_cases c19 : 0 ≤ (ji18)
            ·rw [if_pos c19] at H
             have c19b0 := eq_true c19
             have c19b1 : decide (0 ≤ (ji18)) = true := decide_eq_true c19
             clear c19
             by_cases c20 : (ji18) ≤ (wrap64 (8 * (wrap64 (x40_2 + 1))))
             ·rw [if_pos c20] at H
              have c20b0 := eq_true c20
              have c20b1 : decide ((ji18) ≤ (wrap64 (8 * (wrap64 (x40_2 + 1))))) = true := decide_eq_true c20
              by_cases c21 : (wrap64 (8 * (wrap64 (x40_2 + 1)))) ≤ ((rd_L7 l1 x31_1).length : Int)
              ·rw [if_pos c21] at H
               have c21b0 := eq_true c21
               have c21b1 : decide ((wrap64 (8 * (wrap64 (x40_2 + 1)))) ≤ ((rd_L7 l1 x31_1).length : Int)) = true := decide_eq_true c21
               replace H := Option.bind_eq_some_iff.mp H
               obtain ⟨⟨t241, t242, t243⟩, A220, H⟩ := H
               replace H : (if t243 = 0 then (if (wrap64 ((wrap64 (32 * x31_1)) + x40_2)) ≥ a0 then (table_From.j2 k2 a0 x31_1 (rd_L7 l1 x31_1) (wrap64 ((wrap64 (32 * x31_1)) + x40_2)) l1 (l1.length : Int) x31_1 x40_2 (!(t241 == (-1)) || (!(t242 == 0))) x238000_2 t241 t242) else (table_From.j2 k2 a0 x31_1 (rd_L7 l1 x31_1) (wrap64 ((wrap64 (32 * x31_1)) + x40_2)) l1 (l1.length : Int) x31_1 x40_2 false x238000_2 t241 t242)) else (table_From.j2 k2 a0 x31_1 (rd_L7 l1 x31_1) (wrap64 ((wrap64 (32 * x31_1)) + x40_2)) l1 (l1.length : Int) x31_1 x40_2 true x238000_2 t241 t242)) = some (r1, r2) := H
               have A22 := Aside0.mk A220
               clear A220
               have HC23 := Aside0.mk H
               clear H
               obtain ⟨i024, hi024, _, hsz24, _⟩ := info_parts info5
               obtain ⟨A24, hcut24, hA24, hC24⟩ := print_mid_of (P := Try.prog) (Value.int .u8) 0 58 5 .i64 .i64 Try.underlying58 hi024 hsz24 A239_0 c239_0 (rd_L7 l1 x31_1) (ji18) (wrap64 (8 * (wrap64 (x40_2 + 1)))) (of_decide_eq_true (by first | (with_reducible assumption) | assumption)) (by first | omega | exact of_decide_eq_true (by first | (with_reducible assumption) | assumption)) (of_decide_eq_true (by first | (with_reducible assumption) | assumption)) HC239_0.out
               have HR240 := Aside0.mk (Kd.C_of_reads (h1 := fun _ => rfl) (hA24 _ (Kd.reads_of_C HR239_0.out)))
               have HC240 := Aside0.mk hC24
               clear hA24 hC24 hi024 hsz24
               go_upto_region 16 with (first | ((with_reducible refine gate_callee (f := 36) rfl ?_); refine goesL_ (some 55) rfl rfl Try.func36 (by kernel_rfl) rfl #[.slice A24 (((rd_L7 l1 x31_1).take ((wrap64 (8 * (wrap64 (x40_2 + 1)))) : Int).toNat).drop ((ji18) : Int).toNat).length (c239_0 - (ji18).toNat)] rfl (by (try simp only [List.map_toArray, List.map_cons, List.map_nil]); first | done | (rw [show (((rd_L7 l1 x31_1).take ((wrap64 (8 * (wrap64 (x40_2 + 1)))) : Int).toNat).drop ((ji18) : Int).toNat).length = ((wrap64 (8 * (wrap64 (x40_2 + 1)))).toNat - (ji18).toNat) from (by rw [List.length_drop, List.length_take]; have h_ : ((wrap64 (8 * (wrap64 (x40_2 + 1)))) : Int) ≤ ((rd_L7 l1 x31_1).length : Int) := of_decide_eq_true (by first | (with_reducible assumption) | assumption); omega)] <;> rfl) | (simp only [hji18]; rfl) | rfl | (simp only [List.length_drop, List.length_take]; rfl)) ?_; (with_reducible refine (table_Parse.calls k2 _ _ (((rd_L7 l1 x31_1).take ((wrap64 (8 * (wrap64 (x40_2 + 1)))) : Int).toNat).drop ((ji18) : Int).toNat) t241 t242 t243 _ ?side1 ?side2 A22.out).mono ?_); (case side1 => repeat (first | exact (Kd.C_below HR240.out HB.out) | (with_reducible refine Kd.C_alloc ?_ _) | (with_reducible refine Kd.C_drewN ?_ _) | (with_reducible refine Kd.C_drew ?_))); (case side2 => exact HC240.out); rintro e w25 ⟨rfl, hb⟩; refine ⟨_, rfl, ?_⟩; have n0_ := Aside0.mk (Kd.R_below (by (with_reducible repeat (first | apply Kd.R_alloc | apply Kd.R_drewN | apply Kd.R_drew)); exact HO_238000.out) hb); have n1_ := Aside0.mk (blk_below (g := gb232) (o := .cells #[.slice none 0 0] 24 (0, 0)) (by (with_reducible repeat first | apply blk_drewN | apply blk_drew | apply blk_alloc); exact BK232.out) hb); have n2_ := Aside0.mk (blk_below (g := gb237) (o := .cells #[u238000] 24 (0, 0)) (by (with_reducible repeat first | apply blk_drewN | apply blk_drew | apply blk_alloc); exact BK237.out) hb); have n3_ := Aside0.mk (below_step (by repeat (first | (with_reducible first | exact HB.out | apply below_alloc | apply pw_below_drewN | apply below_drew1 | refine below_set ?_ GE232.out | refine below_set ?_ GE237.out) | exact HB.out)) hb); clear HO_238000; clear BK232; clear BK237; clear HB; have HO_238000 := n0_; have BK232 := n1_; have BK237 := n2_; have HB := n3_; clear n0_ n1_ n2_ n3_; (try clear hb); (try clear hb2); (try clear hk); (try clear hi); (try clear A22)) | ((with_reducible refine gate_dst (N := 12) rfl ?_); refine box_event ?hg (N := 12) ?hd (cs := #[.int .i64 0, .int .u32 0]) (t := 34) ?hr ?_; (case hd => rfl); (case hg => rfl); (case hr => first | (go_simp; done) | (go_simp; rfl)); intro gb244 hg w26 hbox hb; have n0_ := Aside0.mk (Kd.R_below (Kd.R_elderB (by (with_reducible repeat (first | apply Kd.R_alloc | apply Kd.R_drewN | apply Kd.R_drew)); exact HO_238000.out) gb244 (Nat.le_of_eq hg.symm)) hb); have n1_ := Aside0.mk (blk_below (g := gb232) (o := .cells #[.slice none 0 0] 24 (0, 0)) (by (with_reducible repeat first | apply blk_drewN | apply blk_drew | apply blk_alloc); exact BK232.out) hb); have n2_ := Aside0.mk (blk_below (g := gb237) (o := .cells #[u238000] 24 (0, 0)) (by (with_reducible repeat first | apply blk_drewN | apply blk_drew | apply blk_alloc); exact BK237.out) hb); have n3_ := Aside0.mk (below_step (by repeat (first | (with_reducible first | exact HB.out | apply below_alloc | apply pw_below_drewN | apply below_drew1 | refine below_set ?_ GE232.out | refine below_set ?_ GE237.out) | exact HB.out)) hb); have n4_ := Aside0.mk (hbox); have n5_ := Aside0.mk ((by rw [hg]; exact (below_size (by repeat (first | (with_reducible first | exact HB.out | apply below_alloc | apply pw_below_drewN | apply below_drew1 | refine below_set ?_ GE232.out | refine below_set ?_ GE237.out) | exact HB.out))) : w.heap.size ≤ gb244)); have n6_ := Aside0.mk ((by rw [hg]; exact (below_size (by repeat (first | (with_reducible first | exact HB.out | apply below_alloc | apply pw_below_drewN | apply below_drew1 | refine below_set ?_ GE232.out | refine below_set ?_ GE237.out) | exact HB.out))) : w.heap.size ≤ gb244)); have n7_ := Aside0.mk ((by rw [hg]; exact Nat.ne_of_lt (blk_lt (g := gb232) (o := .cells #[.slice none 0 0] 24 (0, 0)) (by (with_reducible repeat first | apply blk_drewN | apply blk_drew | apply blk_alloc); exact BK232.out)) : gb232 ≠ gb244)); have n8_ := Aside0.mk ((by rw [hg]; exact Nat.ne_of_gt (blk_lt (g := gb232) (o := .cells #[.slice none 0 0] 24 (0, 0)) (by (with_reducible repeat first | apply blk_drewN | apply blk_drew | apply blk_alloc); exact BK232.out)) : gb244 ≠ gb232)); have n9_ := Aside0.mk ((by rw [hg]; exact Nat.ne_of_lt (blk_lt (g := gb237) (o := .cells #[u238000] 24 (0, 0)) (by (with_reducible repeat first | apply blk_drewN | apply blk_drew | apply blk_alloc); exact BK237.out)) : gb237 ≠ gb244)); have n10_ := Aside0.mk ((by rw [hg]; exact Nat.ne_of_gt (blk_lt (g := gb237) (o := .cells #[u238000] 24 (0, 0)) (by (with_reducible repeat first | apply blk_drewN | apply blk_drew | apply blk_alloc); exact BK237.out)) : gb244 ≠ gb237)); clear HO_238000; clear BK232; clear BK237; clear HB; have HO_238000 := n0_; have BK232 := n1_; have BK237 := n2_; have HB := n3_; have BK244 := n4_; have GW244 := n5_; have GE244 := n6_; have NB232_244 := n7_; have NB244_232 := n8_; have NB237_244 := n9_; have NB244_237 := n10_; clear n0_ n1_ n2_ n3_ n4_ n5_ n6_ n7_ n8_ n9_ n10_; clear hb hbox hg; have hnb27 := NB244_232.out; have hnc27 := NB232_244.out; have hnb28 := NB244_237.out; have hnc28 := NB237_244.out; have hcz29_0 : w26.cell? ⟨gb244, 0, none⟩ = some (.int .i64 0) := (blk_cell BK244.out 0).trans rfl; have hcz29_1 : w26.cell? ⟨gb244, 1, none⟩ = some (.int .u32 0) := (blk_cell BK244.out 1).trans rfl; have hfz29_0 := blk_frozen BK244.out 0; have hfz29_1 := blk_frozen BK244.out 1))
               (try simp only [Act.put, List.setIfInBounds_toArray, List.set_cons_zero, List.set_cons_succ])
               go_cut [58] (fun v58 wc => ∃ (kq : Nat) (x58_22 : Bool), v58 = .bool x58_22 ∧ Aside0 (table_From.j2 kq a0 x31_1 (rd_L7 l1 x31_1) (wrap64 ((wrap64 (32 * x31_1)) + x40_2)) l1 (l1.length : Int) x31_1 x40_2 x58_22 x238000_2 t241 t242 = some (r1, r2)) ∧ Aside0 (kq ≤ k2) ∧ Aside0 (Kd.R k34 34 wc w.heap.size (fun k_ => k_ ≠ gb244) u238000 x238000_2) ∧ Aside0 (wc.heap[gb232]? = some (.cells #[(.slice none 0 0)] 24 (0, 0))) ∧ Aside0 (wc.heap[gb237]? = some (.cells #[u238000] 24 (0, 0))) ∧ Aside0 (wc.heap[gb244]? = some (.cells #[.int .i64 t241, .int .u32 t242] 34 (0, 0))) ∧ Aside0 (Below w.heap.size w wc))
               case first =>
                have H := HC23.out
                clear HC23
                by_cases c30 : t243 = 0
                ·rw [if_pos c30] at H
                 have c30b0 : (t243 == 0) = true := beq_iff_eq.mpr c30
                 have c30b1 : (t243 != 0) = false := bne_eq_false_iff_eq.mpr c30
                 clear c30
                 (first | rw [c30b0] | (simp only [i64_w, i32_w]; rw [c30b0]) | skip)
                 by_cases c31 : (wrap64 ((wrap64 (32 * x31_1)) + x40_2)) ≥ a0
                 ·rw [if_pos c31] at H
                  have c31b0 : decide (a0 ≤ (wrap64 ((wrap64 (32 * x31_1)) + x40_2))) = true := decide_eq_true c31
                  clear c31
                  have H' := Aside0.mk H
                  clear H
                  have hnb32 := NB244_232.out
                  have hnc32 := NB232_244.out
                  have hnb33 := NB244_237.out
                  have hnc33 := NB237_244.out
                  have hcz34_0 : w26.cell? ⟨gb244, 0, none⟩ = some (.int .i64 0) := (blk_cell BK244.out 0).trans rfl
                  have hcz34_1 : w26.cell? ⟨gb244, 1, none⟩ = some (.int .u32 0) := (blk_cell BK244.out 1).trans rfl
                  have hfz34_0 := blk_frozen BK244.out 0
                  have hfz34_1 := blk_frozen BK244.out 1
                  go_wp2
                  go_meet
                  case rel => exact ⟨_, ((!(t241 == (-1)) || (!(t242 == 0)))), (by first | rfl | (simp; done) | (simp [*]; done) | (simp [Int.tdiv_eq_ediv_of_nonneg]; done)), H', ⟨by have := HK1.out; have := HK2.out; first | omega | exact Nat.le_refl _⟩, ⟨by (with_reducible repeat (first | apply Kd.R_alloc | apply Kd.R_drewN | apply Kd.R_drew)); exact Kd.R_mono (Kd.R_far (p := ⟨gb244, 1, none⟩) (Kd.R_far (p := ⟨gb244, 0, none⟩) (Kd.R_mono HO_238000.out (fun k_ hk => (⟨hk, hk.2⟩ : _ ∧ k_ ≠ gb244))) (fun _ hk => hk.2) (.int .i64 t241)) (fun _ hk => hk.2) (.int .u32 t242)) (fun _ hk => hk.1.2)⟩, ⟨by (with_reducible repeat first | apply blk_drewN | apply blk_drew | apply blk_alloc); refine blk_far ?_ NB232_244.out _; (with_reducible repeat first | apply blk_drewN | apply blk_drew | apply blk_alloc); refine blk_far ?_ NB232_244.out _; (with_reducible repeat first | apply blk_drewN | apply blk_drew | apply blk_alloc); exact BK232.out⟩, ⟨by (with_reducible repeat first | apply blk_drewN | apply blk_drew | apply blk_alloc); refine blk_far ?_ NB237_244.out _; (with_reducible repeat first | apply blk_drewN | apply blk_drew | apply blk_alloc); refine blk_far ?_ NB237_244.out _; (with_reducible repeat first | apply blk_drewN | apply blk_drew | apply blk_alloc); exact BK237.out⟩, ⟨by (with_reducible repeat first | apply blk_drewN | apply blk_drew | apply blk_alloc); refine blk_put (cs := #[.int .i64 t241, .int .u32 0]) ?_ 1 _ rfl; (with_reducible repeat first | apply blk_drewN | apply blk_drew | apply blk_alloc); refine blk_put (cs := #[.int .i64 0, .int .u32 0]) ?_ 0 _ rfl; (with_reducible repeat first | apply blk_drewN | apply blk_drew | apply blk_alloc); exact BK244.out⟩, ⟨by repeat (first | (with_reducible first | exact HB.out | apply below_alloc | apply pw_below_drewN | apply below_drew1 | refine below_set ?_ GE232.out | refine below_set ?_ GE237.out | refine below_set ?_ GE244.out) | exact HB.out)⟩⟩
                 ·rw [if_neg c31] at H
                  have c31b0 : decide (a0 ≤ (wrap64 ((wrap64 (32 * x31_1)) + x40_2))) = false := decide_eq_false c31
                  clear c31
                  have H' := Aside0.mk H
                  clear H
                  go_wp2
                  go_meet
                  case rel => exact ⟨_, (false), (by first | rfl | (simp; done) | (simp [*]; done) | (simp [Int.tdiv_eq_ediv_of_nonneg]; done)), H', ⟨by have := HK1.out; have := HK2.out; first | omega | exact Nat.le_refl _⟩, ⟨by (with_reducible repeat (first | apply Kd.R_alloc | apply Kd.R_drewN | apply Kd.R_drew)); exact Kd.R_mono (Kd.R_far (p := ⟨gb244, 1, none⟩) (Kd.R_far (p := ⟨gb244, 0, none⟩) (Kd.R_mono HO_238000.out (fun k_ hk => (⟨hk, hk.2⟩ : _ ∧ k_ ≠ gb244))) (fun _ hk => hk.2) (.int .i64 t241)) (fun _ hk => hk.2) (.int .u32 t242)) (fun _ hk => hk.1.2)⟩, ⟨by (with_reducible repeat first | apply blk_drewN | apply blk_drew | apply blk_alloc); refine blk_far ?_ NB232_244.out _; (with_reducible repeat first | apply blk_drewN | apply blk_drew | apply blk_alloc); refine blk_far ?_ NB232_244.out _; (with_reducible repeat first | apply blk_drewN | apply blk_drew | apply blk_alloc); exact BK232.out⟩, ⟨by (with_reducible repeat first | apply blk_drewN | apply blk_drew | apply blk_alloc); refine blk_far ?_ NB237_244.out _; (with_reducible repeat first | apply blk_drewN | apply blk_drew | apply blk_alloc); refine blk_far ?_ NB237_244.out _; (with_reducible repeat first | apply blk_drewN | apply blk_drew | apply blk_alloc); exact BK237.out⟩, ⟨by (with_reducible repeat first | apply blk_drewN | apply blk_drew | apply blk_alloc); refine blk_put (cs := #[.int .i64 t241, .int .u32 0]) ?_ 1 _ rfl; (with_reducible repeat first | apply blk_drewN | apply blk_drew | apply blk_alloc); refine blk_put (cs := #[.int .i64 0, .int .u32 0]) ?_ 0 _ rfl; (with_reducible repeat first | apply blk_drewN | apply blk_drew | apply blk_alloc); exact BK244.out⟩, ⟨by repeat (first | (with_reducible first | exact HB.out | apply below_alloc | apply pw_below_drewN | apply below_drew1 | refine below_set ?_ GE232.out | refine below_set ?_ GE237.out | refine below_set ?_ GE244.out) | exact HB.out)⟩⟩
                ·rw [if_neg c30] at H
                 have c30b0 : (t243 == 0) = false := beq_eq_false_iff_ne.mpr c30
                 have c30b1 : (t243 != 0) = true := bne_iff_ne.mpr c30
                 (first | rw [c30b0] | (simp only [i64_w, i32_w]; rw [c30b0]) | skip)
                 have H' := Aside0.mk H
                 clear H
                 go_wp2
                 go_meet
                 case rel => exact ⟨_, (true), (by first | rfl | (simp; done) | (simp [*]; done) | (simp [Int.tdiv_eq_ediv_of_nonneg]; done)), H', ⟨by have := HK1.out; have := HK2.out; first | omega | exact Nat.le_refl _⟩, ⟨by (with_reducible repeat (first | apply Kd.R_alloc | apply Kd.R_drewN | apply Kd.R_drew)); exact Kd.R_mono (Kd.R_far (p := ⟨gb244, 1, none⟩) (Kd.R_far (p := ⟨gb244, 0, none⟩) (Kd.R_mono HO_238000.out (fun k_ hk => (⟨hk, hk.2⟩ : _ ∧ k_ ≠ gb244))) (fun _ hk => hk.2) (.int .i64 t241)) (fun _ hk => hk.2) (.int .u32 t242)) (fun _ hk => hk.1.2)⟩, ⟨by (with_reducible repeat first | apply blk_drewN | apply blk_drew | apply blk_alloc); refine blk_far ?_ NB232_244.out _; (with_reducible repeat first | apply blk_drewN | apply blk_drew | apply blk_alloc); refine blk_far ?_ NB232_244.out _; (with_reducible repeat first | apply blk_drewN | apply blk_drew | apply blk_alloc); exact BK232.out⟩, ⟨by (with_reducible repeat first | apply blk_drewN | apply blk_drew | apply blk_alloc); refine blk_far ?_ NB237_244.out _; (with_reducible repeat first | apply blk_drewN | apply blk_drew | apply blk_alloc); refine blk_far ?_ NB237_244.out _; (with_reducible repeat first | apply blk_drewN | apply blk_drew | apply blk_alloc); exact BK237.out⟩, ⟨by (with_reducible repeat first | apply blk_drewN | apply blk_drew | apply blk_alloc); refine blk_put (cs := #[.int .i64 t241, .int .u32 0]) ?_ 1 _ rfl; (with_reducible repeat first | apply blk_drewN | apply blk_drew | apply blk_alloc); refine blk_put (cs := #[.int .i64 0, .int .u32 0]) ?_ 0 _ rfl; (with_reducible repeat first | apply blk_drewN | apply blk_drew | apply blk_alloc); exact BK244.out⟩, ⟨by repeat (first | (with_reducible first | exact HB.out | apply below_alloc | apply pw_below_drewN | apply below_drew1 | refine below_set ?_ GE232.out | refine below_set ?_ GE237.out | refine below_set ?_ GE244.out) | exact HB.out)⟩⟩
               case rest =>
                clear HC23
                try clear c1
                try clear c2
                try clear p2
                try clear q2
                try clear hx2
                try clear c3
                try clear c4
                try clear c4b0
                try clear c4b1
                try clear c5
                try clear c6
                try clear c6b0
                try clear c6b1
                try clear p6
                try clear c11
                try clear c13
                try clear c13b0
                try clear c14
                try clear c14b0
                try clear c15
                try clear c15b0
                try clear c16
                try clear c16b0
                try clear c16b1
                try clear c17
                try clear c17b0
                try clear c19
                try clear c19b0
                try clear c19b1
                try clear c20
                try clear c20b0
                try clear c20b1
                try clear c21
                try clear c21b0
                try clear c21b1
                try clear c23
                try clear p23
                try clear q23
                try clear hx23
                try clear c25
                try clear c27
                try clear c28
                try clear c30
                try clear c30b0
                try clear c30b1
                try clear c31
                try clear c31b0
                try clear c32
                try clear c33
                try clear hcz12_0
                try clear hcz29_0
                try clear hcz29_1
                try clear hcz34_0
                try clear hcz34_1
                try clear hfz12_0
                try clear hfz29_0
                try clear hfz29_1
                try clear hfz34_0
                try clear hfz34_1
                try clear hx239_0
                try clear p2
                try clear p239
                try clear q2
                try clear q239
                obtain ⟨kq, x58_22, rfl, HA, HJ22, HO_238000, BK232, BK237, BK244, HB⟩ := hcut
                cases kq with
                | zero => exact absurd HA.out (by simp [table_From.j2])
                | succ kj22 =>
                 have H := HA.out
                 clear HA
                 simp only [table_From.j2] at H
                 by_cases c35 : x58_22 = true
                 ·subst c35
                  have H1 : (some (([] : List (S34)), 140)) = some (r1, r2) := by rw [if_pos rfl] at H; exact H
                  clear H
                  have H := H1
                  clear H1
                  simp only [Option.some.injEq, Prod.mk.injEq] at H
                  obtain ⟨rfl, rfl⟩ := H
                  have hnb36 := NB232_237.out
                  have hnc36 := NB237_232.out
                  have hnb37 := NB232_244.out
                  have hnc37 := NB244_232.out
                  have hcz38_0 : wc.cell? ⟨gb232, 0, none⟩ = some (.slice none 0 0) := (blk_cell BK232.out 0).trans rfl
                  have hfz38_0 := blk_frozen BK232.out 0
                  go_wp2
                  refine bodyPost_ret (results_ct rfl _ _ gb232 24 #[.slice none 0 0] (0, 0) _ rfl (by (with_reducible repeat first | apply blk_drewN | apply blk_drew | apply blk_alloc); refine blk_put (cs := #[.slice none 0 0]) ?_ 0 _ rfl; (with_reducible repeat first | apply blk_drewN | apply blk_drew | apply blk_alloc); exact BK232.out) Try.underlying24 rfl (by kernel_rfl)) rfl ?_
                  exact ⟨_, by first | rfl | (simp [errW_none, errW_some] <;> rfl) | (simp only [← hji18]; first | rfl | (simp [errW_none, errW_some] <;> rfl)) | (simp [*, errW_none, errW_some] <;> rfl) | (simp [Int.tdiv_eq_ediv_of_nonneg]; done), by first | exact Kd.R_nil _ _ _ _ _ | exact Kd.N_nil _ _ _ _ _ | exact Kd.V_nil _ _ _ _ _ | exact Kd.Q_nil _ _ _ _ _ | exact Kd.S_nil _ _ _ _ _, by repeat (first | (with_reducible first | exact HB.out | apply below_alloc | apply pw_below_drewN | apply below_drew1 | refine below_set ?_ GE232.out | refine below_set ?_ GE237.out | refine below_set ?_ GE244.out) | exact HB.out)⟩
                 ·replace c35 := Bool.eq_false_iff.mpr c35
                  subst c35
                  have H1 : (if (wrap64 ((wrap64 (32 * x31_1)) + x40_2)) < a0 then (if 0 ≤ (wrap64 ((wrap64 (32 * x31_1)) + x40_2)) then (if (wrap64 ((wrap64 (32 * x31_1)) + x40_2)) < (x238000_2.length : Int) then (table_From.l1 kj22 a0 x31_1 (rd_L7 l1 x31_1) l1 (l1.length : Int) x31_1 (wrap64 (x40_2 + 1)) (x238000_2.set ((wrap64 ((wrap64 (32 * x31_1)) + x40_2)) : Int).toNat (⟨t241, t242⟩ : S34))) else (none)) else (none)) else (table_From.l1 kj22 a0 x31_1 (rd_L7 l1 x31_1) l1 (l1.length : Int) x31_1 (wrap64 (x40_2 + 1)) x238000_2)) = some (r1, r2) := by rw [if_neg (show ¬ (false = true) by decide)] at H; exact H
                  clear H
                  have H := H1
                  clear H1
                  by_cases c39 : (wrap64 ((wrap64 (32 * x31_1)) + x40_2)) < a0
                  ·rw [if_pos c39] at H
                   have c39b0 : decide ((wrap64 ((wrap64 (32 * x31_1)) + x40_2)) < a0) = true := decide_eq_true c39
                   clear c39
                   obtain ⟨ji40, hji40⟩ : ∃ j_ : Int, (wrap64 ((wrap64 (32 * x31_1)) + x40_2)) = j_ := ⟨_, rfl⟩
                   replace H : (if 0 ≤ (ji40) then (if (ji40) < (x238000_2.length : Int) then (table_From.l1 kj22 a0 x31_1 (rd_L7 l1 x31_1) l1 (l1.length : Int) x31_1 (wrap64 (x40_2 + 1)) (x238000_2.set ((ji40) : Int).toNat (⟨t241, t242⟩ : S34))) else (none)) else (none)) = some (r1, r2) := by first | (rw [hji40] at H; exact H) | (simp only [hji40] at H ⊢; exact H)
                   (try rw [hji40] at c39b0)
                   have hji40w : (IntKind.i64.wrap ((wrap64 (32 * x31_1)) + x40_2)) = ji40 := (i64_w _).trans hji40
                   by_cases c41 : 0 ≤ (ji40)
                   ·rw [if_pos c41] at H
                    have c41b0 : decide (0 ≤ (ji40)) = true := decide_eq_true c41
                    clear c41
                    by_cases c42 : (ji40) < (x238000_2.length : Int)
                    ·rw [if_pos c42] at H
                     have c42b0 : decide ((ji40) < (x238000_2.length : Int)) = true := decide_eq_true c42
                     clear c42
                     obtain ⟨y245, hy245⟩ : ∃ y_ : List (S34), y_ = (x238000_2.set ((ji40) : Int).toNat (⟨t241, t242⟩ : S34)) := ⟨_, rfl⟩
                     replace H : (table_From.l1 kj22 a0 x31_1 (rd_L7 l1 x31_1) l1 (l1.length : Int) x31_1 (wrap64 (x40_2 + 1)) y245) = some (r1, r2) := by first | (rw [hy245]; with_reducible exact H) | (have H2_ := (Option.bind_some _ _).symm.trans H; rw [hy245]; with_reducible exact H2_) | (have H2_ := (Option.bind_some _ _).symm.trans H; with_reducible exact H2_) | with_reducible exact H | (rw [hy245]; exact H) | exact H
                     have Ny245 := Aside0.mk hy245
                     clear hy245
                     have H' := Aside0.mk H
                     clear H
                     have hnb44 := NB237_232.out
                     have hnc44 := NB232_237.out
                     have hnb45 := NB237_244.out
                     have hnc45 := NB244_237.out
                     have hcz46_0 : wc.cell? ⟨gb237, 0, none⟩ = some (u238000) := (blk_cell BK237.out 0).trans rfl
                     have hfz46_0 := blk_frozen BK237.out 0
                     have hnb47 := NB244_232.out
                     have hnc47 := NB232_244.out
                     have hcz48_0 : wc.cell? ⟨gb244, 0, none⟩ = some (.int .i64 t241) := (blk_cell BK244.out 0).trans rfl
                     have hcz48_1 : wc.cell? ⟨gb244, 1, none⟩ = some (.int .u32 t242) := (blk_cell BK244.out 1).trans rfl
                     have hfz48_0 := blk_frozen BK244.out 0
                     have hfz48_1 := blk_frozen BK244.out 1
                     have p43 : 0 ≤ ((ji40) : Int) := of_decide_eq_true (by first | (with_reducible assumption) | assumption)
                     have q43 : ((ji40) : Int) < ((x238000_2.length : Int) : Int) := of_decide_eq_true (by first | (with_reducible assumption) | assumption)
                     obtain ⟨go43, co43, eo43, gb43, gl43, cl43, HG43⟩ := Kd.R_form HO_238000.out (by omega)
                     (first | cases eo43 | (injection eo43 with ea_ en_ ec_; (first | subst ea_ | (injection ea_ with ea_; subst ea_)); subst ec_; clear en_))
                     have GB43 := Aside0.mk gb43
                     have GG43 := Aside0.mk HG43
                     clear gb43 gl43 HG43
                     obtain ⟨ce43, hcl43, hM43, hcc43, hfr43⟩ := Kd.R_elem HO_238000.out z34 ((ji40) : Int) p43 q43
                     obtain rfl := k34_openM hM43
                     have hx43_0 : wc.cell? ⟨go43, ((ji40) : Int).toNat * 2, none⟩ = some (.int .i64 ((rd_T34 x238000_2 (ji40)).f0)) := hcc43 0 _ rfl
                     have hx43_1 : wc.cell? ⟨go43, ((ji40) : Int).toNat * 2 + 1, none⟩ = some (.int .u32 ((rd_T34 x238000_2 (ji40)).f1)) := hcc43 1 _ rfl
                     have hf43_0 : wc.frozen? ⟨go43, ((ji40) : Int).toNat * 2, none⟩ = false := hfr43 0
                     have hf43_1 : wc.frozen? ⟨go43, ((ji40) : Int).toNat * 2 + 1, none⟩ = false := hfr43 1
                     clear hcl43 hcc43 hfr43 hM43
                     replace p43 := eq_true p43
                     replace q43 := eq_true q43
                     have HX49 := Aside0.mk (show Kd.R k34 34 wc w.heap.size (fun k_ => k_ ≠ gb244) (.slice (some ⟨go43, 0, none⟩) x238000_2.length co43) x238000_2 from (by (with_reducible repeat (first | apply Kd.R_alloc | apply Kd.R_drewN | apply Kd.R_drew)); exact HO_238000.out))
                     obtain ⟨ce49, hcl49, hM49, hcc49, hfr49⟩ := Kd.R_elem HX49.out z34 ((ji40) : Int) (of_decide_eq_true (by first | (with_reducible assumption) | assumption)) (by have h_ : ((ji40) : Int) < ((x238000_2.length : Int) : Int) := of_decide_eq_true (by first | (with_reducible assumption) | assumption); first | exact h_ | (have e_ := (Kd.R_reads' HO_238000.out).1; omega) | simpa using h_)
                     obtain rfl := k34_openM hM49
                     have HP49 := Kd.R_seg HX49.out ((ji40) : Int) (of_decide_eq_true (by first | (with_reducible assumption) | assumption)) (by have h_ : ((ji40) : Int) < ((x238000_2.length : Int) : Int) := of_decide_eq_true (by first | (with_reducible assumption) | assumption); first | exact h_ | (have e_ := (Kd.R_reads' HO_238000.out).1; omega) | simpa using h_) (seg := [.int .i64 t241, .int .u32 t242]) (j := 0) hcl49 hcc49 (show 2 ≤ 2 from by decide) (x' := (⟨t241, t242⟩ : S34)) (k34_mkM _ _ _ (⟨t241, t242⟩ : S34) ) (fun _ hk => hk)
                     have hx49_0 := hcc49 0 _ rfl
                     (try simp only [show (k34).sz = 2 from rfl, Nat.mul_one, Nat.add_zero] at hx49_0)
                     have hf49_0 := hfr49 0
                     (try simp only [show (k34).sz = 2 from rfl, Nat.mul_one, Nat.add_zero] at hf49_0)
                     have hx49_1 := hcc49 1 _ rfl
                     (try simp only [show (k34).sz = 2 from rfl, Nat.mul_one, Nat.add_zero] at hx49_1)
                     have hf49_1 := hfr49 1
                     (try simp only [show (k34).sz = 2 from rfl, Nat.mul_one, Nat.add_zero] at hf49_1)
                     clear hcl49 hcc49 hfr49 hM49
                     go_wp2_with (first | ((with_reducible refine gate_store (t := 34) (p := 80) rfl ?_); refine store_event (t := 34) (p := 80) (v := ?vo_w50) (w1 := ((wc.setCell ⟨go43, ((ji40) : Int).toNat * 2, none⟩ (.int .i64 t241)).setCell ⟨go43, ((ji40) : Int).toNat * 2 + 1, none⟩ (.int .u32 t242))) ?hg ?ho ?hn ?hr ?_; (case ho => rfl); (case hg => rfl); (case hn => rfl); (case hr => first | (go_simp; done) | (go_simp; rfl)); intro w50 hw; have hg : wc.grownBy w50 (some go43) := (by rw [hw]; exact HP49.2); have hp_ : Kd.R k34 34 w50 w.heap.size (fun k_ => k_ ≠ gb244) (.slice (some ⟨go43, 0, none⟩) x238000_2.length co43) y245 := (by rw [hw, Ny245.out]; exact HP49.1); clear HP49; have n0_ := Aside0.mk (hp_); have n1_ := Aside0.mk (blk_grown (g := gb232) (o := .cells #[.slice none 0 0] 24 (0, 0)) (by (with_reducible repeat first | apply blk_drewN | apply blk_drew | apply blk_alloc); exact BK232.out) hg (Kd.R_ne HO_238000.out BK232.out (by decide))); have n2_ := Aside0.mk (blk_grown (g := gb237) (o := .cells #[.slice (some ⟨go43, 0, none⟩) x238000_2.length co43] 24 (0, 0)) (by (with_reducible repeat first | apply blk_drewN | apply blk_drew | apply blk_alloc); exact BK237.out) hg (Kd.R_ne HO_238000.out BK237.out (by decide))); have n3_ := Aside0.mk (blk_grown (g := gb244) (o := .cells #[.int .i64 t241, .int .u32 t242] 34 (0, 0)) (by (with_reducible repeat first | apply blk_drewN | apply blk_drew | apply blk_alloc); exact BK244.out) hg (Kd.R_away HO_238000.out (fun _ hk => hk))); have n4_ := Aside0.mk ((by rw [hw]; exact below_set (below_set (HB.out) GB43.out) GB43.out : Below w.heap.size w w50)); clear HO_238000; clear BK232; clear BK237; clear BK244; clear HB; have HO_238000 := n0_; have BK232 := n1_; have BK237 := n2_; have BK244 := n3_; have HB := n4_; clear n0_ n1_ n2_ n3_ n4_; clear hg hw hp_))
                     go_roundg kj22
                     case measure => have := HK1.out; have := HK2.out; have := HJ22.out; omega
                     case rel => exact ⟨(wrap64 (x40_2 + 1)), (y245), (.slice (some ⟨go43, 0, none⟩) x238000_2.length co43), (by first | rfl | (simp; done) | (simp [*]; done) | (simp [Int.tdiv_eq_ediv_of_nonneg]; done)), H', ⟨by have := HK1.out; have := HK2.out; have := HJ22.out; omega⟩, ⟨by (with_reducible repeat (first | apply Kd.R_alloc | apply Kd.R_drewN | apply Kd.R_drew)); exact Kd.R_mono HO_238000.out (fun _ hk => trivial)⟩, ⟨by (with_reducible repeat first | apply blk_drewN | apply blk_drew | apply blk_alloc); exact BK232.out⟩, ⟨by (with_reducible repeat first | apply blk_drewN | apply blk_drew | apply blk_alloc); exact BK237.out⟩, ⟨by repeat (first | (with_reducible first | exact HB.out | apply below_alloc | apply pw_below_drewN | apply below_drew1 | refine below_set ?_ GE232.out | refine below_set ?_ GE237.out | refine below_set ?_ GE244.out) | exact HB.out)⟩⟩
                    ·rw [if_neg c42] at H
                     exact absurd H (by simp)
                   ·rw [if_neg c41] at H
                    exact absurd H (by simp)
                  ·rw [if_neg c39] at H
                   have c39b0 : decide ((wrap64 ((wrap64 (32 * x31_1)) + x40_2)) < a0) = false := decide_eq_false c39
                   clear c39
                   have H' := Aside0.mk H
                   clear H
                   go_wp2
                   go_roundg kj22
                   case measure => have := HK1.out; have := HK2.out; have := HJ22.out; omega
                   case rel => exact ⟨(wrap64 (x40_2 + 1)), (x238000_2), (u238000), (by first | rfl | (simp; done) | (simp [*]; done) | (simp [Int.tdiv_eq_ediv_of_nonneg]; done)), H', ⟨by have := HK1.out; have := HK2.out; have := HJ22.out; omega⟩, ⟨by (with_reducible repeat (first | apply Kd.R_alloc | apply Kd.R_drewN | apply Kd.R_drew)); exact Kd.R_mono HO_238000.out (fun _ hk => trivial)⟩, ⟨by (with_reducible repeat first | apply blk_drewN | apply blk_drew | apply blk_alloc); exact BK232.out⟩, ⟨by (with_reducible repeat first | apply blk_drewN | apply blk_drew | apply blk_alloc); exact BK237.out⟩, ⟨by repeat (first | (with_reducible first | exact HB.out | apply below_alloc | apply pw_below_drewN | apply below_drew1 | refine below_set ?_ GE232.out | refine below_set ?_ GE237.out | refine below_set ?_ GE244.out) | exact HB.out)⟩⟩
              ·rw [if_neg c21] at H
               exact absurd H (by simp)
             ·rw [if_neg c20] at H
              exact absurd H (by simp)
            ·rw [if_neg c19] at H
             exact absurd H (by simp)
           ·rw [if_neg c17] at H
            have c17b0 : decide (x40_2 < 32) = false := decide_eq_false c17
            clear c17
            have H' := Aside0.mk H
            clear H
            go_wp2
            go_roundg k2
            case measure => have := HK1.out; have := HK2.out; omega
            case rel => exact ⟨(wrap64 (x31_1 + 1)), (x238000_2), (u238000), (by first | rfl | (simp; done) | (simp [*]; done) | (simp [Int.tdiv_eq_ediv_of_nonneg]; done)), H', ⟨by have := HK1.out; have := HK2.out; omega⟩, ⟨by (with_reducible repeat (first | apply Kd.R_alloc | apply Kd.R_drewN | apply Kd.R_drew)); exact HO_238000.out⟩, ⟨by (with_reducible repeat first | apply blk_drewN | apply blk_drew | apply blk_alloc); exact BK232.out⟩, ⟨by (with_reducible repeat first | apply blk_drewN | apply blk_drew | apply blk_alloc); exact BK237.out⟩, ⟨by repeat (first | (with_reducible first | exact HB.out | apply below_alloc | apply pw_below_drewN | apply below_drew1 | refine below_set ?_ GE232.out | refine below_set ?_ GE237.out) | exact HB.out)⟩⟩
        ·rw [if_neg c16] at H
         have c16b0 : (((rd_L7 l1 x31_1).length : Int) == 256) = false := beq_eq_false_iff_ne.mpr c16
         have c16b1 : (((rd_L7 l1 x31_1).length : Int) != 256) = true := bne_iff_ne.mpr c16
         simp only [Option.some.injEq, Prod.mk.injEq] at H
         obtain ⟨rfl, rfl⟩ := H
         have p239 : 0 ≤ (x31_1 : Int) := of_decide_eq_true (by first | (with_reducible assumption) | assumption)
         have q239 : x31_1 < (l1.length : Int) := of_decide_eq_true (by first | (with_reducible assumption) | assumption)
         obtain ⟨ad239, A239_0, c239_0, e239, hx239_0, hl239_0, hi239_0⟩ := at_L7 HR1.out x31_1 p239 q239
         cases e239
         replace hx239_0 := (HB.out.cell (World.block_lt_of_cell? w _ hx239_0)).trans hx239_0
         have HR239_0 := Aside0.mk hi239_0
         have HC239_0 := Aside0.mk hl239_0
         clear hi239_0 hl239_0
         replace p239 := eq_true p239
         replace q239 := eq_true q239
         have hnb51 := NB232_237.out
         have hnc51 := NB237_232.out
         have hcz52_0 : wr.cell? ⟨gb232, 0, none⟩ = some (.slice none 0 0) := (blk_cell BK232.out 0).trans rfl
         have hfz52_0 := blk_frozen BK232.out 0
         go_wp2
         refine bodyPost_ret (results_ct rfl _ _ gb232 24 #[.slice none 0 0] (0, 0) _ rfl (by (with_reducible repeat first | apply blk_drewN | apply blk_drew | apply blk_alloc); refine blk_put (cs := #[.slice none 0 0]) ?_ 0 _ rfl; (with_reducible repeat first | apply blk_drewN | apply blk_drew | apply blk_alloc); exact BK232.out) Try.underlying24 rfl (by kernel_rfl)) rfl ?_
         exact ⟨_, by first | rfl | (simp [errW_none, errW_some] <;> rfl) | (simp [*, errW_none, errW_some] <;> rfl) | (simp [Int.tdiv_eq_ediv_of_nonneg]; done), by first | exact Kd.R_nil _ _ _ _ _ | exact Kd.N_nil _ _ _ _ _ | exact Kd.V_nil _ _ _ _ _ | exact Kd.Q_nil _ _ _ _ _ | exact Kd.S_nil _ _ _ _ _, by repeat (first | (with_reducible first | exact HB.out | apply below_alloc | apply pw_below_drewN | apply below_drew1 | refine below_set ?_ GE232.out | refine below_set ?_ GE237.out) | exact HB.out)⟩
       ·rw [if_neg c15] at H
        exact absurd H (by simp)
      ·rw [if_neg c14] at H
       exact absurd H (by simp)
     ·rw [if_neg c13] at H
      have c13b0 : decide (x31_1 < (l1.length : Int)) = false := decide_eq_false c13
      clear c13
      simp only [Option.some.injEq, Prod.mk.injEq] at H
      obtain ⟨rfl, rfl⟩ := H
      have hnb53 := NB237_232.out
      have hnc53 := NB232_237.out
      have hcz54_0 : wr.cell? ⟨gb237, 0, none⟩ = some (u238000) := (blk_cell BK237.out 0).trans rfl
      have hfz54_0 := blk_frozen BK237.out 0
      obtain ⟨Ao55, co55, eo55⟩ := Kd.R_slice HO_238000.out
      subst eo55
      have hcz56_0 : wr.cell? ⟨gb232, 0, none⟩ = some (.slice none 0 0) := (blk_cell BK232.out 0).trans rfl
      have hfz56_0 := blk_frozen BK232.out 0
      go_wp2
      refine bodyPost_ret (results_ct rfl _ _ gb232 24 #[.slice Ao55 x238000_1.length co55] (0, 0) _ rfl (by (with_reducible repeat first | apply blk_drewN | apply blk_drew | apply blk_alloc); refine blk_put (cs := #[.slice none 0 0]) ?_ 0 _ rfl; (with_reducible repeat first | apply blk_drewN | apply blk_drew | apply blk_alloc); exact BK232.out) Try.underlying24 rfl (by kernel_rfl)) rfl ?_
      exact ⟨_, by first | rfl | (simp [errW_none, errW_some] <;> rfl) | (simp [*, errW_none, errW_some] <;> rfl) | (simp [Int.tdiv_eq_ediv_of_nonneg]; done), by (with_reducible repeat (first | apply Kd.R_alloc | apply Kd.R_drewN | apply Kd.R_drew)); exact Kd.R_mono (Kd.R_far (p := ⟨gb232, 0, none⟩) (Kd.R_types HO_238000.out BK232.out (by decide)) (fun _ hk => hk.2) (.slice Ao55 x238000_1.length co55)) (fun _ hk => trivial), by repeat (first | (with_reducible first | exact HB.out | apply below_alloc | apply pw_below_drewN | apply below_drew1 | refine below_set ?_ GE232.out | refine below_set ?_ GE237.out) | exact HB.out)⟩
  ·rw [if_neg c6] at H
   have c6b0 : ((l1.length : Int) == t238) = false := beq_eq_false_iff_ne.mpr c6
   have c6b1 : ((l1.length : Int) != t238) = true := bne_iff_ne.mpr c6
   simp only [Option.some.injEq, Prod.mk.injEq] at H
   obtain ⟨rfl, rfl⟩ := H
   go_enter Try.func40, Try.ntmps40
   go_wp2_with (first | ((with_reducible refine gate_dst (N := 4) rfl ?_); refine box_event ?hg (N := 4) ?hd (cs := #[.slice none 0 0]) (t := 24) ?hr ?_; (case hd => rfl); (case hg => rfl); (case hr => first | (go_simp; done) | (go_simp; rfl)); intro gb232 hg w57 hbox hb; have n0_ := Aside0.mk (below_step (by repeat (first | (with_reducible first | exact HB.out | apply below_alloc | apply pw_below_drewN | apply below_drew1) | exact HB.out)) hb); have n1_ := Aside0.mk (hbox); have n2_ := Aside0.mk ((by rw [hg]; exact (below_size (by repeat (first | (with_reducible first | exact HB.out | apply below_alloc | apply pw_below_drewN | apply below_drew1) | exact HB.out))) : w.heap.size ≤ gb232)); have n3_ := Aside0.mk ((by rw [hg]; exact (below_size (by repeat (first | (with_reducible first | exact HB.out | apply below_alloc | apply pw_below_drewN | apply below_drew1) | exact HB.out))) : w.heap.size ≤ gb232)); clear HB; have HB := n0_; have BK232 := n1_; have GW232 := n2_; have GE232 := n3_; clear n0_ n1_ n2_ n3_; clear hb hbox hg) | ((with_reducible refine gate_callee (f := 25) rfl ?_); refine goesL_ (some 16) rfl rfl Try.func25 (by kernel_rfl) rfl #[.int .i64 a0] rfl (by (try simp only [List.map_toArray, List.map_cons, List.map_nil]); first | done | rfl | (simp only [List.length_drop, List.length_take]; rfl)) ?_; (with_reducible refine (table_New.calls a0 t233 t236 _ A3.out).mono ?_); rintro e w58 ⟨v234, rfl, ho0, hb⟩; refine ⟨_, rfl, ?_⟩; have n0_ := Aside0.mk (Kd.R_lower ho0 (below_size (by repeat (first | (with_reducible first | exact HB.out | apply below_alloc | apply pw_below_drewN | apply below_drew1 | refine below_set ?_ GE232.out) | exact HB.out)))); have n1_ := Aside0.mk (blk_below (g := gb232) (o := .cells #[.slice none 0 0] 24 (0, 0)) (by (with_reducible repeat first | apply blk_drewN | apply blk_drew | apply blk_alloc); exact BK232.out) hb); have n2_ := Aside0.mk (below_step (by repeat (first | (with_reducible first | exact HB.out | apply below_alloc | apply pw_below_drewN | apply below_drew1 | refine below_set ?_ GE232.out) | exact HB.out)) hb); clear BK232; clear HB; have HO235 := n0_; have BK232 := n1_; have HB := n2_; clear n0_ n1_ n2_; (try clear hb); (try clear hb2); (try clear hk); (try clear hi); (try clear ho0); (try clear A3)) | ((with_reducible refine gate_dst (N := 6) rfl ?_); refine box_event ?hg (N := 6) ?hd (cs := #[.slice none 0 0]) (t := 24) ?hr ?_; (case hd => rfl); (case hg => rfl); (case hr => first | (go_simp; done) | (go_simp; rfl)); intro gb237 hg w59 hbox hb; have n0_ := Aside0.mk (Kd.R_below (by (with_reducible repeat (first | apply Kd.R_alloc | apply Kd.R_drewN | apply Kd.R_drew)); exact HO235.out) hb); have n1_ := Aside0.mk (blk_below (g := gb232) (o := .cells #[.slice none 0 0] 24 (0, 0)) (by (with_reducible repeat first | apply blk_drewN | apply blk_drew | apply blk_alloc); exact BK232.out) hb); have n2_ := Aside0.mk (below_step (by repeat (first | (with_reducible first | exact HB.out | apply below_alloc | apply pw_below_drewN | apply below_drew1 | refine below_set ?_ GE232.out) | exact HB.out)) hb); have n3_ := Aside0.mk (hbox); have n4_ := Aside0.mk ((by rw [hg]; exact (below_size (by repeat (first | (with_reducible first | exact HB.out | apply below_alloc | apply pw_below_drewN | apply below_drew1 | refine below_set ?_ GE232.out) | exact HB.out))) : w.heap.size ≤ gb237)); have n5_ := Aside0.mk ((by rw [hg]; exact (below_size (by repeat (first | (with_reducible first | exact HB.out | apply below_alloc | apply pw_below_drewN | apply below_drew1 | refine below_set ?_ GE232.out) | exact HB.out))) : w.heap.size ≤ gb237)); have n6_ := Aside0.mk ((by rw [hg]; exact Nat.ne_of_lt (blk_lt (g := gb232) (o := .cells #[.slice none 0 0] 24 (0, 0)) (by (with_reducible repeat first | apply blk_drewN | apply blk_drew | apply blk_alloc); exact BK232.out)) : gb232 ≠ gb237)); have n7_ := Aside0.mk ((by rw [hg]; exact Nat.ne_of_gt (blk_lt (g := gb232) (o := .cells #[.slice none 0 0] 24 (0, 0)) (by (with_reducible repeat first | apply blk_drewN | apply blk_drew | apply blk_alloc); exact BK232.out)) : gb237 ≠ gb232)); clear HO235; clear BK232; clear HB; have HO235 := n0_; have BK232 := n1_; have HB := n2_; have BK237 := n3_; have GW237 := n4_; have GE237 := n5_; have NB232_237 := n6_; have NB237_232 := n7_; clear n0_ n1_ n2_ n3_ n4_ n5_ n6_ n7_; clear hb hbox hg; obtain ⟨Ao60, co60, eo60⟩ := Kd.R_slice HO235.out; subst eo60; have hnb61 := NB237_232.out; have hnc61 := NB232_237.out; have hcz62_0 : w59.cell? ⟨gb237, 0, none⟩ = some (.slice none 0 0) := (blk_cell BK237.out 0).trans rfl; have hfz62_0 := blk_frozen BK237.out 0) | ((with_reducible refine gate_callee (f := 59) rfl ?_); refine goesL_ (some 26) rfl rfl Try.func59 (by kernel_rfl) rfl #[.int .i64 a0] rfl (by (try simp only [List.map_toArray, List.map_cons, List.map_nil]); first | done | rfl | (simp only [List.length_drop, List.length_take]; rfl)) ?_; (with_reducible refine (table_pages.calls a0 t238 _ A5.out).mono ?_); rintro e w' ⟨rfl, ⟨nd, rfl⟩⟩; refine ⟨_, rfl, ?_⟩; have hcz63_0 : w59.cell? ⟨gb232, 0, none⟩ = some (.slice none 0 0) := (blk_cell BK232.out 0).trans rfl; have hfz63_0 := blk_frozen BK232.out 0))
   refine bodyPost_ret (results_ct rfl _ _ gb232 24 #[.slice none 0 0] (0, 0) _ rfl (by (with_reducible repeat first | apply blk_drewN | apply blk_drew | apply blk_alloc); refine blk_put (cs := #[.slice none 0 0]) ?_ 0 _ rfl; (with_reducible repeat first | apply blk_drewN | apply blk_drew | apply blk_alloc); refine blk_far ?_ NB232_237.out _; (with_reducible repeat first | apply blk_drewN | apply blk_drew | apply blk_alloc); exact BK232.out) Try.underlying24 rfl (by kernel_rfl)) rfl ?_
   exact ⟨_, by first | rfl | (simp [errW_none, errW_some] <;> rfl) | (simp [*, errW_none, errW_some] <;> rfl) | (simp [Int.tdiv_eq_ediv_of_nonneg]; done), by first | exact Kd.R_nil _ _ _ _ _ | exact Kd.N_nil _ _ _ _ _ | exact Kd.V_nil _ _ _ _ _ | exact Kd.Q_nil _ _ _ _ _ | exact Kd.S_nil _ _ _ _ _, by repeat (first | (with_reducible first | exact HB.out | apply below_alloc | apply pw_below_drewN | apply below_drew1 | refine below_set ?_ GE232.out | refine below_set ?_ GE237.out) | exact HB.out)⟩
 ·rw [if_neg c4] at H
  have c4b0 : (t236 == 0) = false := beq_eq_false_iff_ne.mpr c4
  have c4b1 : (t236 != 0) = true := bne_iff_ne.mpr c4
  simp only [Option.some.injEq, Prod.mk.injEq] at H
  obtain ⟨rfl, rfl⟩ := H
  go_enter Try.func40, Try.ntmps40
  go_wp2_with (first | ((with_reducible refine gate_dst (N := 4) rfl ?_); refine box_event ?hg (N := 4) ?hd (cs := #[.slice none 0 0]) (t := 24) ?hr ?_; (case hd => rfl); (case hg => rfl); (case hr => first | (go_simp; done) | (go_simp; rfl)); intro gb232 hg w64 hbox hb; have n0_ := Aside0.mk (below_step (by repeat (first | (with_reducible first | exact HB.out | apply below_alloc | apply pw_below_drewN | apply below_drew1) | exact HB.out)) hb); have n1_ := Aside0.mk (hbox); have n2_ := Aside0.mk ((by rw [hg]; exact (below_size (by repeat (first | (with_reducible first | exact HB.out | apply below_alloc | apply pw_below_drewN | apply below_drew1) | exact HB.out))) : w.heap.size ≤ gb232)); have n3_ := Aside0.mk ((by rw [hg]; exact (below_size (by repeat (first | (with_reducible first | exact HB.out | apply below_alloc | apply pw_below_drewN | apply below_drew1) | exact HB.out))) : w.heap.size ≤ gb232)); clear HB; have HB := n0_; have BK232 := n1_; have GW232 := n2_; have GE232 := n3_; clear n0_ n1_ n2_ n3_; clear hb hbox hg) | ((with_reducible refine gate_callee (f := 25) rfl ?_); refine goesL_ (some 16) rfl rfl Try.func25 (by kernel_rfl) rfl #[.int .i64 a0] rfl (by (try simp only [List.map_toArray, List.map_cons, List.map_nil]); first | done | rfl | (simp only [List.length_drop, List.length_take]; rfl)) ?_; (with_reducible refine (table_New.calls a0 t233 t236 _ A3.out).mono ?_); rintro e w65 ⟨v234, rfl, ho0, hb⟩; refine ⟨_, rfl, ?_⟩; have n0_ := Aside0.mk (Kd.R_lower ho0 (below_size (by repeat (first | (with_reducible first | exact HB.out | apply below_alloc | apply pw_below_drewN | apply below_drew1 | refine below_set ?_ GE232.out) | exact HB.out)))); have n1_ := Aside0.mk (blk_below (g := gb232) (o := .cells #[.slice none 0 0] 24 (0, 0)) (by (with_reducible repeat first | apply blk_drewN | apply blk_drew | apply blk_alloc); exact BK232.out) hb); have n2_ := Aside0.mk (below_step (by repeat (first | (with_reducible first | exact HB.out | apply below_alloc | apply pw_below_drewN | apply below_drew1 | refine below_set ?_ GE232.out) | exact HB.out)) hb); clear BK232; clear HB; have HO235 := n0_; have BK232 := n1_; have HB := n2_; clear n0_ n1_ n2_; (try clear hb); (try clear hb2); (try clear hk); (try clear hi); (try clear ho0); (try clear A3)) | ((with_reducible refine gate_dst (N := 6) rfl ?_); refine box_event ?hg (N := 6) ?hd (cs := #[.slice none 0 0]) (t := 24) ?hr ?_; (case hd => rfl); (case hg => rfl); (case hr => first | (go_simp; done) | (go_simp; rfl)); intro gb237 hg w66 hbox hb; have n0_ := Aside0.mk (Kd.R_below (by (with_reducible repeat (first | apply Kd.R_alloc | apply Kd.R_drewN | apply Kd.R_drew)); exact HO235.out) hb); have n1_ := Aside0.mk (blk_below (g := gb232) (o := .cells #[.slice none 0 0] 24 (0, 0)) (by (with_reducible repeat first | apply blk_drewN | apply blk_drew | apply blk_alloc); exact BK232.out) hb); have n2_ := Aside0.mk (below_step (by repeat (first | (with_reducible first | exact HB.out | apply below_alloc | apply pw_below_drewN | apply below_drew1 | refine below_set ?_ GE232.out) | exact HB.out)) hb); have n3_ := Aside0.mk (hbox); have n4_ := Aside0.mk ((by rw [hg]; exact (below_size (by repeat (first | (with_reducible first | exact HB.out | apply below_alloc | apply pw_below_drewN | apply below_drew1 | refine below_set ?_ GE232.out) | exact HB.out))) : w.heap.size ≤ gb237)); have n5_ := Aside0.mk ((by rw [hg]; exact (below_size (by repeat (first | (with_reducible first | exact HB.out | apply below_alloc | apply pw_below_drewN | apply below_drew1 | refine below_set ?_ GE232.out) | exact HB.out))) : w.heap.size ≤ gb237)); have n6_ := Aside0.mk ((by rw [hg]; exact Nat.ne_of_lt (blk_lt (g := gb232) (o := .cells #[.slice none 0 0] 24 (0, 0)) (by (with_reducible repeat first | apply blk_drewN | apply blk_drew | apply blk_alloc); exact BK232.out)) : gb232 ≠ gb237)); have n7_ := Aside0.mk ((by rw [hg]; exact Nat.ne_of_gt (blk_lt (g := gb232) (o := .cells #[.slice none 0 0] 24 (0, 0)) (by (with_reducible repeat first | apply blk_drewN | apply blk_drew | apply blk_alloc); exact BK232.out)) : gb237 ≠ gb232)); clear HO235; clear BK232; clear HB; have HO235 := n0_; have BK232 := n1_; have HB := n2_; have BK237 := n3_; have GW237 := n4_; have GE237 := n5_; have NB232_237 := n6_; have NB237_232 := n7_; clear n0_ n1_ n2_ n3_ n4_ n5_ n6_ n7_; clear hb hbox hg; obtain ⟨Ao67, co67, eo67⟩ := Kd.R_slice HO235.out; subst eo67; have hnb68 := NB237_232.out; have hnc68 := NB232_237.out; have hcz69_0 : w66.cell? ⟨gb237, 0, none⟩ = some (.slice none 0 0) := (blk_cell BK237.out 0).trans rfl; have hfz69_0 := blk_frozen BK237.out 0; have hcz70_0 : w66.cell? ⟨gb232, 0, none⟩ = some (.slice none 0 0) := (blk_cell BK232.out 0).trans rfl; have hfz70_0 := blk_frozen BK232.out 0))
  refine bodyPost_ret (results_ct rfl _ _ gb232 24 #[.slice Ao67 t233.length co67] (0, 0) _ rfl (by (with_reducible repeat first | apply blk_drewN | apply blk_drew | apply blk_alloc); refine blk_put (cs := #[.slice none 0 0]) ?_ 0 _ rfl; (with_reducible repeat first | apply blk_drewN | apply blk_drew | apply blk_alloc); refine blk_far ?_ NB232_237.out _; (with_reducible repeat first | apply blk_drewN | apply blk_drew | apply blk_alloc); exact BK232.out) Try.underlying24 rfl (by kernel_rfl)) rfl ?_
  exact ⟨_, by first | rfl | (simp [errW_none, errW_some] <;> rfl) | (simp [*, errW_none, errW_some] <;> rfl) | (simp [Int.tdiv_eq_ediv_of_nonneg]; done), by (with_reducible repeat (first | apply Kd.R_alloc | apply Kd.R_drewN | apply Kd.R_drew)); exact Kd.R_mono (Kd.R_far (p := ⟨gb232, 0, none⟩) (Kd.R_far (p := ⟨gb237, 0, none⟩) (Kd.R_types (Kd.R_types HO235.out BK237.out (by decide)) BK232.out (by decide)) (fun _ hk => hk.1.2) (.slice Ao67 t233.length co67)) (fun _ hk => hk.2) (.slice Ao67 t233.length co67)) (fun _ hk => trivial), by repeat (first | (with_reducible first | exact HB.out | apply below_alloc | apply pw_below_drewN | apply below_drew1 | refine below_set ?_ GE232.out | refine below_set ?_ GE237.out) | exact HB.out)⟩

/-! ### atticref14_New: function 26 -/
mutual
def atticref14_New.j0 : Nat → Int → Bool → Option ((List (S34)) × Int)
 | 0, _, _ => none
 | k + 1, x0, x11 => if x11 = true then (some (([] : List (S34)), 1)) else (atticref14_New.l0 k x0 0 ([] : List (S34)))
def atticref14_New.l0 : Nat → Int → Int → List (S34) → Option ((List (S34)) × Int)
 | 0, _, _, _ => none
 | k + 1, x0, x5, x248000 => if x5 < x0 then (if x248000.length < 8796093022208 then (atticref14_New.l0 k x0 (wrap64 (x5 + 1)) (x248000 ++ [(⟨(-1), 0⟩ : S34)])) else (none)) else (some (x248000, 0))
end
def atticref14_New.f (k : Nat) (a0 : Int) : Option ((List (S34)) × Int) := if a0 < 1 then (atticref14_New.j0 k a0 true) else (atticref14_New.j0 k a0 (decide (a0 > 256)))
theorem atticref14_New.mono_l : ∀ k, (∀ y0 y1, LeO (atticref14_New.j0 k y0 y1) (atticref14_New.j0 (k + 1) y0 y1)) ∧ (∀ y0 y1 y2, LeO (atticref14_New.l0 k y0 y1 y2) (atticref14_New.l0 (k + 1) y0 y1 y2))
 | 0 => ⟨fun _ _ r h => by simp [atticref14_New.j0] at h, fun _ _ _ r h => by simp [atticref14_New.l0] at h⟩
 | k + 1 => by
  obtain ⟨ih0, ih1⟩ := atticref14_New.mono_l k
  refine ⟨?_, ?_⟩
  ·intro y0 y1
   unfold atticref14_New.j0
   repeat' first
   | (with_reducible exact ih0 _ _)
   | (with_reducible exact ih1 _ _ _)
   | (with_reducible exact LeO.refl _)
   | (with_reducible exact LeO.none _)
   | (with_reducible refine LeO.ite ?_ ?_)
   | (with_reducible refine LeO.bind ?_ (fun _ => ?_))
   | exact ih0 _ _
   | exact ih1 _ _ _
   | exact LeO.none _
   | refine LeO.ite ?_ ?_
   | refine LeO.bind ?_ (fun _ => ?_)
  ·intro y0 y1 y2
   unfold atticref14_New.l0
   repeat' first
   | (with_reducible exact ih0 _ _)
   | (with_reducible exact ih1 _ _ _)
   | (with_reducible exact LeO.refl _)
   | (with_reducible exact LeO.none _)
   | (with_reducible refine LeO.ite ?_ ?_)
   | (with_reducible refine LeO.bind ?_ (fun _ => ?_))
   | exact ih0 _ _
   | exact ih1 _ _ _
   | exact LeO.none _
   | refine LeO.ite ?_ ?_
   | refine LeO.bind ?_ (fun _ => ?_)
theorem atticref14_New.mono : ∀ a0 k, LeO (atticref14_New.f k a0) (atticref14_New.f (k + 1) a0) := by
 intro a0 k
 obtain ⟨ih0, ih1⟩ := atticref14_New.mono_l k
 unfold atticref14_New.f
 repeat' first
   | (with_reducible exact ih0 _ _)
   | (with_reducible exact ih1 _ _ _)
   | (with_reducible exact LeO.refl _)
   | (with_reducible exact LeO.none _)
   | (with_reducible refine LeO.ite ?_ ?_)
   | (with_reducible refine LeO.bind ?_ (fun _ => ?_))
   | exact ih0 _ _
   | exact ih1 _ _ _
   | exact LeO.none _
   | refine LeO.ite ?_ ?_
   | refine LeO.bind ?_ (fun _ => ?_)
set_option maxHeartbeats 8000000 in
set_option maxRecDepth 100000 in
theorem atticref14_New.calls (k : Nat) (a0 : Int) (r1 : List (S34)) (r2 : Int) (w : World) (h : atticref14_New.f k a0 = some (r1, r2)) :
  Calls Try.prog 26 #[.int .i64 a0] w fun e w' => ∃ v0_ : Value, e = .returned (.tuple #[.agg #[v0_], .int .i64 r2]) ∧ Kd.R k34 34 w' w.heap.size (fun _ => True) v0_ r1 ∧ Below w.heap.size w w' := by
 have hu24 := Try.underlying24
 have hu34 := Try.underlying34
 have HB := Aside0.mk (Below.refl w.heap.size w)
 have H : (if a0 < 1 then (atticref14_New.j0 k a0 true) else (atticref14_New.j0 k a0 (decide (a0 > 256)))) = some (r1, r2) := h
 clear h
 have HC2 := Aside0.mk H
 clear H
 go_enter Try.func26, Try.ntmps26
 go_upto_region 1 with (first | ((with_reducible refine gate_dst (N := 2) rfl ?_); refine box_event ?hg (N := 2) ?hd (cs := #[.slice none 0 0]) (t := 24) ?hr ?_; (case hd => rfl); (case hg => rfl); (case hr => first | (go_simp; done) | (go_simp; rfl)); intro gb246 hg w3 hbox hb; have n0_ := Aside0.mk (below_step (by repeat (first | (with_reducible first | exact HB.out | apply below_alloc | apply pw_below_drewN | apply below_drew1) | exact HB.out)) hb); have n1_ := Aside0.mk (hbox); have n2_ := Aside0.mk ((by rw [hg]; exact (below_size (by repeat (first | (with_reducible first | exact HB.out | apply below_alloc | apply pw_below_drewN | apply below_drew1) | exact HB.out))) : w.heap.size ≤ gb246)); have n3_ := Aside0.mk ((by rw [hg]; exact (below_size (by repeat (first | (with_reducible first | exact HB.out | apply below_alloc | apply pw_below_drewN | apply below_drew1) | exact HB.out))) : w.heap.size ≤ gb246)); clear HB; have HB := n0_; have BK246 := n1_; have GW246 := n2_; have GE246 := n3_; clear n0_ n1_ n2_ n3_; clear hb hbox hg))
 (try simp only [Act.put, List.setIfInBounds_toArray, List.set_cons_zero, List.set_cons_succ])
 go_cut [11] (fun v11 wc => ∃ (kq : Nat) (x11_1 : Bool), v11 = .bool x11_1 ∧ Aside0 (atticref14_New.j0 kq a0 x11_1 = some (r1, r2)) ∧ Aside0 (kq ≤ k) ∧ Aside0 (wc.heap[gb246]? = some (.cells #[(.slice none 0 0)] 24 (0, 0))) ∧ Aside0 (Below w.heap.size w wc))
 case first =>
  have H := HC2.out
  clear HC2
  by_cases c4 : a0 < 1
  ·rw [if_pos c4] at H
   have c4b0 : decide (a0 < 1) = true := decide_eq_true c4
   clear c4
   (first | rw [c4b0] | (simp only [i64_w, i32_w]; rw [c4b0]) | skip)
   have H' := Aside0.mk H
   clear H
   go_wp2
   go_meet
   case rel => exact ⟨_, (true), (by first | rfl | (simp; done) | (simp [*]; done) | (simp [Int.tdiv_eq_ediv_of_nonneg]; done)), H', ⟨by first | omega | exact Nat.le_refl _⟩, ⟨by (with_reducible repeat first | apply blk_drewN | apply blk_drew | apply blk_alloc); exact BK246.out⟩, ⟨by repeat (first | (with_reducible first | exact HB.out | apply below_alloc | apply pw_below_drewN | apply below_drew1 | refine below_set ?_ GE246.out) | exact HB.out)⟩⟩
  ·rw [if_neg c4] at H
   have c4b0 : decide (a0 < 1) = false := decide_eq_false c4
   clear c4
   (first | rw [c4b0] | (simp only [i64_w, i32_w]; rw [c4b0]) | skip)
   have H' := Aside0.mk H
   clear H
   go_wp2
   go_meet
   case rel => exact ⟨_, (decide (a0 > 256)), (by first | rfl | (simp; done) | (simp [*]; done) | (simp [Int.tdiv_eq_ediv_of_nonneg]; done)), H', ⟨by first | omega | exact Nat.le_refl _⟩, ⟨by (with_reducible repeat first | apply blk_drewN | apply blk_drew | apply blk_alloc); exact BK246.out⟩, ⟨by repeat (first | (with_reducible first | exact HB.out | apply below_alloc | apply pw_below_drewN | apply below_drew1 | refine below_set ?_ GE246.out) | exact HB.out)⟩⟩
 case rest =>
  clear HC2
  try clear c2
  try clear p2
  try clear c4
  try clear c4b0
  obtain ⟨kq, x11_1, rfl, HA, HJ1, BK246, HB⟩ := hcut
  cases kq with
  | zero => exact absurd HA.out (by simp [atticref14_New.j0])
  | succ kj1 =>
   have H := HA.out
   clear HA
   simp only [atticref14_New.j0] at H
   by_cases c5 : x11_1 = true
   ·subst c5
    have H1 : (some (([] : List (S34)), 1)) = some (r1, r2) := by rw [if_pos rfl] at H; exact H
    clear H
    have H := H1
    clear H1
    simp only [Option.some.injEq, Prod.mk.injEq] at H
    obtain ⟨rfl, rfl⟩ := H
    have hcz6_0 : wc.cell? ⟨gb246, 0, none⟩ = some (.slice none 0 0) := (blk_cell BK246.out 0).trans rfl
    have hfz6_0 := blk_frozen BK246.out 0
    go_wp2
    refine bodyPost_ret (results_ct rfl _ _ gb246 24 #[.slice none 0 0] (0, 0) _ rfl (by (with_reducible repeat first | apply blk_drewN | apply blk_drew | apply blk_alloc); refine blk_put (cs := #[.slice none 0 0]) ?_ 0 _ rfl; (with_reducible repeat first | apply blk_drewN | apply blk_drew | apply blk_alloc); exact BK246.out) Try.underlying24 rfl (by kernel_rfl)) rfl ?_
    exact ⟨_, by first | rfl | (simp [errW_none, errW_some] <;> rfl) | (simp [*, errW_none, errW_some] <;> rfl) | (simp [Int.tdiv_eq_ediv_of_nonneg]; done), by first | exact Kd.R_nil _ _ _ _ _ | exact Kd.N_nil _ _ _ _ _ | exact Kd.V_nil _ _ _ _ _ | exact Kd.Q_nil _ _ _ _ _ | exact Kd.S_nil _ _ _ _ _, by repeat (first | (with_reducible first | exact HB.out | apply below_alloc | apply pw_below_drewN | apply below_drew1 | refine below_set ?_ GE246.out) | exact HB.out)⟩
   ·replace c5 := Bool.eq_false_iff.mpr c5
    subst c5
    have H1 : (atticref14_New.l0 kj1 a0 0 ([] : List (S34))) = some (r1, r2) := by rw [if_neg (show ¬ (false = true) by decide)] at H; exact H
    clear H
    have H := H1
    clear H1
    have H' := Aside0.mk H
    clear H
    go_wp2_with (first | ((with_reducible refine gate_dst (N := 4) rfl ?_); refine box_event ?hg (N := 4) ?hd (cs := #[.slice none 0 0]) (t := 24) ?hr ?_; (case hd => rfl); (case hg => rfl); (case hr => first | (go_simp; done) | (go_simp; rfl)); intro gb247 hg w7 hbox hb; have n0_ := Aside0.mk (blk_below (g := gb246) (o := .cells #[.slice none 0 0] 24 (0, 0)) (by (with_reducible repeat first | apply blk_drewN | apply blk_drew | apply blk_alloc); exact BK246.out) hb); have n1_ := Aside0.mk (below_step (by repeat (first | (with_reducible first | exact HB.out | apply below_alloc | apply pw_below_drewN | apply below_drew1 | refine below_set ?_ GE246.out) | exact HB.out)) hb); have n2_ := Aside0.mk (hbox); have n3_ := Aside0.mk ((by rw [hg]; exact (below_size (by repeat (first | (with_reducible first | exact HB.out | apply below_alloc | apply pw_below_drewN | apply below_drew1 | refine below_set ?_ GE246.out) | exact HB.out))) : w.heap.size ≤ gb247)); have n4_ := Aside0.mk ((by rw [hg]; exact (below_size (by repeat (first | (with_reducible first | exact HB.out | apply below_alloc | apply pw_below_drewN | apply below_drew1 | refine below_set ?_ GE246.out) | exact HB.out))) : w.heap.size ≤ gb247)); have n5_ := Aside0.mk ((by rw [hg]; exact Nat.ne_of_lt (blk_lt (g := gb246) (o := .cells #[.slice none 0 0] 24 (0, 0)) (by (with_reducible repeat first | apply blk_drewN | apply blk_drew | apply blk_alloc); exact BK246.out)) : gb246 ≠ gb247)); have n6_ := Aside0.mk ((by rw [hg]; exact Nat.ne_of_gt (blk_lt (g := gb246) (o := .cells #[.slice none 0 0] 24 (0, 0)) (by (with_reducible repeat first | apply blk_drewN | apply blk_drew | apply blk_alloc); exact BK246.out)) : gb247 ≠ gb246)); clear BK246; clear HB; have BK246 := n0_; have HB := n1_; have BK247 := n2_; have GW247 := n3_; have GE247 := n4_; have NB246_247 := n5_; have NB247_246 := n6_; clear n0_ n1_ n2_ n3_ n4_ n5_ n6_; clear hb hbox hg))
    go_loopg [5] kj1 (fun kq v5 w' => ∃ (x5_2 : Int) (x248000_2 : List (S34)) (u248000 : Value), v5 = .int .i64 x5_2 ∧ Aside0 (atticref14_New.l0 kq a0 x5_2 x248000_2 = some (r1, r2)) ∧ Aside0 (kq ≤ kj1) ∧ Aside0 (Kd.R k34 34 w' w.heap.size (fun _ => True) u248000 x248000_2) ∧ Aside0 (w'.heap[gb246]? = some (.cells #[(.slice none 0 0)] 24 (0, 0))) ∧ Aside0 (w'.heap[gb247]? = some (.cells #[u248000] 24 (0, 0))) ∧ Aside0 (Below w.heap.size w w'))
    case atStart => exact ⟨(0), (([] : List (S34))), (.slice none 0 0), (by first | rfl | (simp; done) | (simp [*]; done) | (simp [Int.tdiv_eq_ediv_of_nonneg]; done)), H', ⟨Nat.le_refl _⟩, ⟨by first | exact Kd.R_nil _ _ _ _ _ | exact Kd.N_nil _ _ _ _ _ | exact Kd.V_nil _ _ _ _ _ | exact Kd.Q_nil _ _ _ _ _ | exact Kd.S_nil _ _ _ _ _⟩, ⟨by (with_reducible repeat first | apply blk_drewN | apply blk_drew | apply blk_alloc); exact BK246.out⟩, ⟨by (with_reducible repeat first | apply blk_drewN | apply blk_drew | apply blk_alloc); exact BK247.out⟩, ⟨by repeat (first | (with_reducible first | exact HB.out | apply below_alloc | apply pw_below_drewN | apply below_drew1 | refine below_set ?_ GE246.out | refine below_set ?_ GE247.out) | exact HB.out)⟩⟩
    case round =>
     clear H'
     try clear c2
     try clear p2
     try clear c4
     try clear c4b0
     try clear c5
     try clear hcz6_0
     try clear hfz6_0
     try clear p2
     obtain ⟨x5_2, x248000_2, u248000, rfl, HA, HK2, HO_248000, BK246, BK247, HB⟩ := hrel
     cases gk with
     | zero => exact absurd HA.out (by simp [atticref14_New.l0])
     | succ k2 =>
      have H := HA.out
      clear HA
      simp only [atticref14_New.l0] at H
      by_cases c8 : x5_2 < a0
      ·rw [if_pos c8] at H
       have c8b0 : decide (x5_2 < a0) = true := decide_eq_true c8
       clear c8
       by_cases c9 : x248000_2.length < 8796093022208
       ·rw [if_pos c9] at H
        have LMc9 := Aside0.mk c9
        clear c9
        obtain ⟨y248, hy248⟩ : ∃ y_ : List (S34), y_ = (x248000_2 ++ [(⟨(-1), 0⟩ : S34)]) := ⟨_, rfl⟩
        replace H : (atticref14_New.l0 k2 a0 (wrap64 (x5_2 + 1)) y248) = some (r1, r2) := by first | (rw [hy248]; with_reducible exact H) | (have H2_ := (Option.bind_some _ _).symm.trans H; rw [hy248]; with_reducible exact H2_) | (have H2_ := (Option.bind_some _ _).symm.trans H; with_reducible exact H2_) | with_reducible exact H | (rw [hy248]; exact H) | exact H
        have Ny248 := Aside0.mk hy248
        clear hy248
        have H' := Aside0.mk H
        clear H
        have hnb10 := NB247_246.out
        have hnc10 := NB246_247.out
        have hcz11_0 : wr.cell? ⟨gb247, 0, none⟩ = some (u248000) := (blk_cell BK247.out 0).trans rfl
        have hfz11_0 := blk_frozen BK247.out 0
        go_wp2_with (first | ((with_reducible refine gate_builtin (b := .append) (xs := #[.tmp 19, .tmp 21]) rfl ?_); at_builtin; refine Kd.R_append k34 (w0 := w) w.heap.size rfl (.tmp 19) (.tmp 21) 22 34 (.agg #[(.int .i64 0), (.int .u32 0)]) 16 rfl Try.underlying22 info34 rfl (by decide) (by omega) u248000 x248000_2 (⟨(-1), 0⟩ : S34) [.int .i64 (-1), .int .u32 0] (fun _ => True) (fun _ => False) rfl rfl ?aP (fun _ hk => hk.elim) ?aF ?aO ?aB ?aS ?aL ?_; (case aP => exact k34_mkM _ _ _ (⟨(-1), 0⟩ : S34)); (case aB => exact (by repeat (first | (with_reducible first | exact HB.out | apply below_alloc | apply pw_below_drewN | apply below_drew1 | refine below_set ?_ GE246.out | refine below_set ?_ GE247.out) | exact HB.out))); (case aF => exact (fun _ _ => trivial)); (case aO => exact (by (with_reducible repeat (first | apply Kd.R_alloc | apply Kd.R_drewN | apply Kd.R_drew)); exact HO_248000.out)); (case aS => exact (below_size (by repeat (first | (with_reducible first | exact HB.out | apply below_alloc | apply pw_below_drewN | apply below_drew1 | refine below_set ?_ GE246.out | refine below_set ?_ GE247.out) | exact HB.out)))); (case aL => have := LMc9.out; omega); intro v249 w12 ho hb hg hat; rw [← Ny248.out] at ho; have n0_ := Aside0.mk (blk_grown (g := gb246) (o := .cells #[.slice none 0 0] 24 (0, 0)) (by (with_reducible repeat first | apply blk_drewN | apply blk_drew | apply blk_alloc); exact BK246.out) hg (Kd.R_ne HO_248000.out BK246.out (by decide))); have n1_ := Aside0.mk (blk_grown (g := gb247) (o := .cells #[u248000] 24 (0, 0)) (by (with_reducible repeat first | apply blk_drewN | apply blk_drew | apply blk_alloc); exact BK247.out) hg (Kd.R_ne HO_248000.out BK247.out (by decide))); have n2_ := Aside0.mk (hb); have n3_ := Aside0.mk (ho); clear BK246; clear BK247; clear HB; clear HO_248000; have BK246 := n0_; have BK247 := n1_; have HB := n2_; have HO250 := n3_; clear n0_ n1_ n2_ n3_; clear ho hb hg hat; obtain ⟨Ao13, co13, eo13⟩ := Kd.R_slice HO250.out; subst eo13; have hcz14_0 : w12.cell? ⟨gb247, 0, none⟩ = some (u248000) := (blk_cell BK247.out 0).trans rfl; have hfz14_0 := blk_frozen BK247.out 0))
        go_roundg k2
        case measure => have := HJ1.out; have := HK2.out; omega
        case rel => exact ⟨(wrap64 (x5_2 + 1)), (y248), (.slice Ao13 y248.length co13), (by first | rfl | (simp; done) | (simp [*]; done) | (simp [Int.tdiv_eq_ediv_of_nonneg]; done)), H', ⟨by have := HJ1.out; have := HK2.out; omega⟩, ⟨by (with_reducible repeat (first | apply Kd.R_alloc | apply Kd.R_drewN | apply Kd.R_drew)); exact Kd.R_mono (Kd.R_far (p := ⟨gb247, 0, none⟩) (Kd.R_types HO250.out BK247.out (by decide)) (fun _ hk => hk.2) (.slice Ao13 y248.length co13)) (fun _ hk => trivial)⟩, ⟨by (with_reducible repeat first | apply blk_drewN | apply blk_drew | apply blk_alloc); refine blk_far ?_ NB246_247.out _; (with_reducible repeat first | apply blk_drewN | apply blk_drew | apply blk_alloc); exact BK246.out⟩, ⟨by (with_reducible repeat first | apply blk_drewN | apply blk_drew | apply blk_alloc); refine blk_put (cs := #[u248000]) ?_ 0 _ rfl; (with_reducible repeat first | apply blk_drewN | apply blk_drew | apply blk_alloc); exact BK247.out⟩, ⟨by repeat (first | (with_reducible first | exact HB.out | apply below_alloc | apply pw_below_drewN | apply below_drew1 | refine below_set ?_ GE246.out | refine below_set ?_ GE247.out) | exact HB.out)⟩⟩
       ·rw [if_neg c9] at H
        exact absurd H (by simp)
      ·rw [if_neg c8] at H
       have c8b0 : decide (x5_2 < a0) = false := decide_eq_false c8
       clear c8
       simp only [Option.some.injEq, Prod.mk.injEq] at H
       obtain ⟨rfl, rfl⟩ := H
       have hnb15 := NB247_246.out
       have hnc15 := NB246_247.out
       have hcz16_0 : wr.cell? ⟨gb247, 0, none⟩ = some (u248000) := (blk_cell BK247.out 0).trans rfl
       have hfz16_0 := blk_frozen BK247.out 0
       obtain ⟨Ao17, co17, eo17⟩ := Kd.R_slice HO_248000.out
       subst eo17
       have hcz18_0 : wr.cell? ⟨gb246, 0, none⟩ = some (.slice none 0 0) := (blk_cell BK246.out 0).trans rfl
       have hfz18_0 := blk_frozen BK246.out 0
       go_wp2
       refine bodyPost_ret (results_ct rfl _ _ gb246 24 #[.slice Ao17 x248000_2.length co17] (0, 0) _ rfl (by (with_reducible repeat first | apply blk_drewN | apply blk_drew | apply blk_alloc); refine blk_put (cs := #[.slice none 0 0]) ?_ 0 _ rfl; (with_reducible repeat first | apply blk_drewN | apply blk_drew | apply blk_alloc); exact BK246.out) Try.underlying24 rfl (by kernel_rfl)) rfl ?_
       exact ⟨_, by first | rfl | (simp [errW_none, errW_some] <;> rfl) | (simp [*, errW_none, errW_some] <;> rfl) | (simp [Int.tdiv_eq_ediv_of_nonneg]; done), by (with_reducible repeat (first | apply Kd.R_alloc | apply Kd.R_drewN | apply Kd.R_drew)); exact Kd.R_mono (Kd.R_far (p := ⟨gb246, 0, none⟩) (Kd.R_types HO_248000.out BK246.out (by decide)) (fun _ hk => hk.2) (.slice Ao17 x248000_2.length co17)) (fun _ hk => trivial), by repeat (first | (with_reducible first | exact HB.out | apply below_alloc | apply pw_below_drewN | apply below_drew1 | refine below_set ?_ GE246.out | refine below_set ?_ GE247.out) | exact HB.out)⟩

/-! ### atticref14_From: function 41 -/
mutual
def atticref14_From.l0 : Nat → Int → List (List Int) → Int → List (S34) → Option ((List (S34)) × Int)
 | 0, _, _, _, _ => none
 | k + 1, x0, x1, x8, x257000 => if x8 < (x1.length : Int) then (if 0 ≤ x8 then (if ((rd_L7 x1 x8).length : Int) = 256 then (atticref14_From.l1 k x0 x1 x8 0 x257000) else (some (([] : List (S34)), 140))) else (none)) else (some (x257000, 0))
def atticref14_From.l1 : Nat → Int → List (List Int) → Int → Int → List (S34) → Option ((List (S34)) × Int)
 | 0, _, _, _, _, _ => none
 | k + 1, x0, x1, x8, x9, x257000 => if x9 < 32 then (if 0 ≤ x8 then (if x8 < (x1.length : Int) then (if 0 ≤ (wrap64 (8 * x9)) then (if (wrap64 (8 * x9)) ≤ (wrap64 ((wrap64 (8 * x9)) + 8)) then (if (wrap64 ((wrap64 (8 * x9)) + 8)) ≤ ((rd_L7 x1 x8).length : Int) then (if (wrap64 ((wrap64 (32 * x8)) + x9)) ≥ x0 then (if 8 ≤ 281474976710656 then (if (strOfNums (((rd_L7 x1 x8).take ((wrap64 ((wrap64 (8 * x9)) + 8)) : Int).toNat).drop ((wrap64 (8 * x9)) : Int).toNat)).toList = (strOfNums (List.replicate 8 0)).toList then (atticref14_From.l1 k x0 x1 x8 (wrap64 (x9 + 1)) x257000) else (some (([] : List (S34)), 140))) else (none)) else ((atticref14_Parse.f k (((rd_L7 x1 x8).take ((wrap64 ((wrap64 (8 * x9)) + 8)) : Int).toNat).drop ((wrap64 (8 * x9)) : Int).toNat)).bind fun bt263 => (if bt263.2.2 = 0 then (if 0 ≤ (wrap64 ((wrap64 (32 * x8)) + x9)) then (if (wrap64 ((wrap64 (32 * x8)) + x9)) < (x257000.length : Int) then (atticref14_From.l1 k x0 x1 x8 (wrap64 (x9 + 1)) (x257000.set ((wrap64 ((wrap64 (32 * x8)) + x9)) : Int).toNat (⟨bt263.1, bt263.2.1⟩ : S34))) else (none)) else (none)) else (some (([] : List (S34)), bt263.2.2))))) else (none)) else (none)) else (none)) else (none)) else (none)) else (atticref14_From.l0 k x0 x1 (wrap64 (x8 + 1)) x257000)
end
def atticref14_From.f (k : Nat) (a0 : Int) (l1 : List (List Int)) : Option ((List (S34)) × Int) := (atticref14_New.f k a0).bind fun bt252 => (if bt252.2 = 0 then (if (l1.length : Int) = (wrap64 (Int.tdiv (wrap64 (a0 + 31)) 32)) then (atticref14_From.l0 k a0 l1 0 bt252.1) else (some (([] : List (S34)), 140))) else (some (([] : List (S34)), bt252.2)))
theorem atticref14_From.mono_l : ∀ k, (∀ y0 y1 y2 y3, LeO (atticref14_From.l0 k y0 y1 y2 y3) (atticref14_From.l0 (k + 1) y0 y1 y2 y3)) ∧ (∀ y0 y1 y2 y3 y4, LeO (atticref14_From.l1 k y0 y1 y2 y3 y4) (atticref14_From.l1 (k + 1) y0 y1 y2 y3 y4))
 | 0 => ⟨fun _ _ _ _ r h => by simp [atticref14_From.l0] at h, fun _ _ _ _ _ r h => by simp [atticref14_From.l1] at h⟩
 | k + 1 => by
  obtain ⟨ih0, ih1⟩ := atticref14_From.mono_l k
  refine ⟨?_, ?_⟩
  ·intro y0 y1 y2 y3
   unfold atticref14_From.l0
   repeat' first
   | (with_reducible exact ih0 _ _ _ _)
   | (with_reducible exact ih1 _ _ _ _ _)
   | (with_reducible exact atticref14_New.mono _ _)
   | (with_reducible exact atticref14_Parse.mono _ _)
   | (with_reducible exact LeO.refl _)
   | (with_reducible exact LeO.none _)
   | (with_reducible refine LeO.ite ?_ ?_)
   | (with_reducible refine LeO.bind ?_ (fun _ => ?_))
   | exact ih0 _ _ _ _
   | exact ih1 _ _ _ _ _
   | exact atticref14_New.mono _ _
   | exact atticref14_Parse.mono _ _
   | exact LeO.none _
   | refine LeO.ite ?_ ?_
   | refine LeO.bind ?_ (fun _ => ?_)
  ·intro y0 y1 y2 y3 y4
   unfold atticref14_From.l1
   repeat' first
   | (with_reducible exact ih0 _ _ _ _)
   | (with_reducible exact ih1 _ _ _ _ _)
   | (with_reducible exact atticref14_New.mono _ _)
   | (with_reducible exact atticref14_Parse.mono _ _)
   | (with_reducible exact LeO.refl _)
   | (with_reducible exact LeO.none _)
   | (with_reducible refine LeO.ite ?_ ?_)
   | (with_reducible refine LeO.bind ?_ (fun _ => ?_))
   | exact ih0 _ _ _ _
   | exact ih1 _ _ _ _ _
   | exact atticref14_New.mono _ _
   | exact atticref14_Parse.mono _ _
   | exact LeO.none _
   | refine LeO.ite ?_ ?_
   | refine LeO.bind ?_ (fun _ => ?_)
theorem atticref14_From.mono : ∀ a0 a1 k, LeO (atticref14_From.f k a0 a1) (atticref14_From.f (k + 1) a0 a1) := by
 intro a0 a1 k
 obtain ⟨ih0, ih1⟩ := atticref14_From.mono_l k
 unfold atticref14_From.f
 repeat' first
   | (with_reducible exact ih0 _ _ _ _)
   | (with_reducible exact ih1 _ _ _ _ _)
   | (with_reducible exact atticref14_New.mono _ _)
   | (with_reducible exact atticref14_Parse.mono _ _)
   | (with_reducible exact LeO.refl _)
   | (with_reducible exact LeO.none _)
   | (with_reducible refine LeO.ite ?_ ?_)
   | (with_reducible refine LeO.bind ?_ (fun _ => ?_))
   | exact ih0 _ _ _ _
   | exact ih1 _ _ _ _ _
   | exact atticref14_New.mono _ _
   | exact atticref14_Parse.mono _ _
   | exact LeO.none _
   | refine LeO.ite ?_ ?_
   | refine LeO.bind ?_ (fun _ => ?_)
def Sat_ {α : Type} {d : Kd α} {w : World} {A : Option Addr} {n : Nat} {xs : List α} (_ : d.C w A n xs) (w' : World) : Prop := d.C w' A n xs
theorem Sat_out {α : Type} {d : Kd α} {w w' : World} {A : Option Addr} {n : Nat} {xs : List α} {h : d.C w A n xs} (s : Sat_ h w') : d.C w' A n xs := s
set_option maxHeartbeats 8000000 in
set_option maxRecDepth 100000 in
theorem atticref14_From.calls (k : Nat) (a0 : Int) (A1 : Option Addr) (c1 : Nat) (l1 : List (List Int)) (r1 : List (S34)) (r2 : Int) (w : World) (hr1 : Kd.C (Kd.slice 5 (Kd.int .u8)) w A1 l1.length l1) (hc1 : l1.length ≤ c1) (h : atticref14_From.f k a0 l1 = some (r1, r2)) :
  Calls Try.prog 41 #[.int .i64 a0, .slice A1 l1.length c1] w fun e w' => ∃ v0_ : Value, e = .returned (.tuple #[.agg #[v0_], .int .i64 r2]) ∧ Kd.R k34 34 w' w.heap.size (fun _ => True) v0_ r1 ∧ Below w.heap.size w w' := by
 have hu24 := Try.underlying24
 have hu34 := Try.underlying34
 have HR1 := Aside0.mk hr1
 have HC1 := Aside0.mk hc1
 clear hr1 hc1
 have HB := Aside0.mk (Below.refl w.heap.size w)
 have H : ((atticref14_New.f k a0).bind fun bt252 => (if bt252.2 = 0 then (if (l1.length : Int) = (wrap64 (Int.tdiv (wrap64 (a0 + 31)) 32)) then (atticref14_From.l0 k a0 l1 0 bt252.1) else (some (([] : List (S34)), 140))) else (some (([] : List (S34)), bt252.2)))) = some (r1, r2) := h
 clear h
 replace H := Option.bind_eq_some_iff.mp H
 obtain ⟨⟨t252, t255⟩, A30, H⟩ := H
 replace H : (if t255 = 0 then (if (l1.length : Int) = (wrap64 (Int.tdiv (wrap64 (a0 + 31)) 32)) then (atticref14_From.l0 k a0 l1 0 t252) else (some (([] : List (S34)), 140))) else (some (([] : List (S34)), t255))) = some (r1, r2) := H
 have A3 := Aside0.mk A30
 clear A30
 by_cases c4 : t255 = 0
 ·rw [if_pos c4] at H
  have c4b0 : (t255 == 0) = true := beq_iff_eq.mpr c4
  have c4b1 : (t255 != 0) = false := bne_eq_false_iff_eq.mpr c4
  clear c4
  by_cases c5 : (l1.length : Int) = (wrap64 (Int.tdiv (wrap64 (a0 + 31)) 32))
  ·rw [if_pos c5] at H
   have c5b0 : ((l1.length : Int) == (wrap64 (Int.tdiv (wrap64 (a0 + 31)) 32))) = true := beq_iff_eq.mpr c5
   have c5b1 : ((l1.length : Int) != (wrap64 (Int.tdiv (wrap64 (a0 + 31)) 32))) = false := bne_eq_false_iff_eq.mpr c5
   clear c5
   have H' := Aside0.mk H
   clear H
   go_enter Try.func41, Try.ntmps41
   go_wp2_with (first | ((with_reducible refine gate_dst (N := 4) rfl ?_); refine box_event ?hg (N := 4) ?hd (cs := #[.slice none 0 0]) (t := 24) ?hr ?_; (case hd => rfl); (case hg => rfl); (case hr => first | (go_simp; done) | (go_simp; rfl)); intro gb251 hg w6 hbox hb; have n0_ := Aside0.mk (below_step (by repeat (first | (with_reducible first | exact HB.out | apply below_alloc | apply pw_below_drewN | apply below_drew1) | exact HB.out)) hb); have n1_ := Aside0.mk (hbox); have n2_ := Aside0.mk ((by rw [hg]; exact (below_size (by repeat (first | (with_reducible first | exact HB.out | apply below_alloc | apply pw_below_drewN | apply below_drew1) | exact HB.out))) : w.heap.size ≤ gb251)); have n3_ := Aside0.mk ((by rw [hg]; exact (below_size (by repeat (first | (with_reducible first | exact HB.out | apply below_alloc | apply pw_below_drewN | apply below_drew1) | exact HB.out))) : w.heap.size ≤ gb251)); clear HB; have HB := n0_; have BK251 := n1_; have GW251 := n2_; have GE251 := n3_; clear n0_ n1_ n2_ n3_; clear hb hbox hg) | ((with_reducible refine gate_callee (f := 26) rfl ?_); refine goesL_ (some 15) rfl rfl Try.func26 (by kernel_rfl) rfl #[.int .i64 a0] rfl (by (try simp only [List.map_toArray, List.map_cons, List.map_nil]); first | done | rfl | (simp only [List.length_drop, List.length_take]; rfl)) ?_; (with_reducible refine (atticref14_New.calls k a0 t252 t255 _ A3.out).mono ?_); rintro e w7 ⟨v253, rfl, ho0, hb⟩; refine ⟨_, rfl, ?_⟩; have n0_ := Aside0.mk (Kd.R_lower ho0 (below_size (by repeat (first | (with_reducible first | exact HB.out | apply below_alloc | apply pw_below_drewN | apply below_drew1 | refine below_set ?_ GE251.out) | exact HB.out)))); have n1_ := Aside0.mk (blk_below (g := gb251) (o := .cells #[.slice none 0 0] 24 (0, 0)) (by (with_reducible repeat first | apply blk_drewN | apply blk_drew | apply blk_alloc); exact BK251.out) hb); have n2_ := Aside0.mk (below_step (by repeat (first | (with_reducible first | exact HB.out | apply below_alloc | apply pw_below_drewN | apply below_drew1 | refine below_set ?_ GE251.out) | exact HB.out)) hb); clear BK251; clear HB; have HO254 := n0_; have BK251 := n1_; have HB := n2_; clear n0_ n1_ n2_; (try clear hb); (try clear hb2); (try clear hk); (try clear hi); (try clear ho0); (try clear A3)) | ((with_reducible refine gate_dst (N := 6) rfl ?_); refine box_event ?hg (N := 6) ?hd (cs := #[.slice none 0 0]) (t := 24) ?hr ?_; (case hd => rfl); (case hg => rfl); (case hr => first | (go_simp; done) | (go_simp; rfl)); intro gb256 hg w8 hbox hb; have n0_ := Aside0.mk (Kd.R_below (by (with_reducible repeat (first | apply Kd.R_alloc | apply Kd.R_drewN | apply Kd.R_drew)); exact HO254.out) hb); have n1_ := Aside0.mk (blk_below (g := gb251) (o := .cells #[.slice none 0 0] 24 (0, 0)) (by (with_reducible repeat first | apply blk_drewN | apply blk_drew | apply blk_alloc); exact BK251.out) hb); have n2_ := Aside0.mk (below_step (by repeat (first | (with_reducible first | exact HB.out | apply below_alloc | apply pw_below_drewN | apply below_drew1 | refine below_set ?_ GE251.out) | exact HB.out)) hb); have n3_ := Aside0.mk (hbox); have n4_ := Aside0.mk ((by rw [hg]; exact (below_size (by repeat (first | (with_reducible first | exact HB.out | apply below_alloc | apply pw_below_drewN | apply below_drew1 | refine below_set ?_ GE251.out) | exact HB.out))) : w.heap.size ≤ gb256)); have n5_ := Aside0.mk ((by rw [hg]; exact (below_size (by repeat (first | (with_reducible first | exact HB.out | apply below_alloc | apply pw_below_drewN | apply below_drew1 | refine below_set ?_ GE251.out) | exact HB.out))) : w.heap.size ≤ gb256)); have n6_ := Aside0.mk ((by rw [hg]; exact Nat.ne_of_lt (blk_lt (g := gb251) (o := .cells #[.slice none 0 0] 24 (0, 0)) (by (with_reducible repeat first | apply blk_drewN | apply blk_drew | apply blk_alloc); exact BK251.out)) : gb251 ≠ gb256)); have n7_ := Aside0.mk ((by rw [hg]; exact Nat.ne_of_gt (blk_lt (g := gb251) (o := .cells #[.slice none 0 0] 24 (0, 0)) (by (with_reducible repeat first | apply blk_drewN | apply blk_drew | apply blk_alloc); exact BK251.out)) : gb256 ≠ gb251)); clear HO254; clear BK251; clear HB; have HO254 := n0_; have BK251 := n1_; have HB := n2_; have BK256 := n3_; have GW256 := n4_; have GE256 := n5_; have NB251_256 := n6_; have NB256_251 := n7_; clear n0_ n1_ n2_ n3_ n4_ n5_ n6_ n7_; clear hb hbox hg; obtain ⟨Ao9, co9, eo9⟩ := Kd.R_slice HO254.out; subst eo9; have hnb10 := NB256_251.out; have hnc10 := NB251_256.out; have hcz11_0 : w8.cell? ⟨gb256, 0, none⟩ = some (.slice none 0 0) := (blk_cell BK256.out 0).trans rfl; have hfz11_0 := blk_frozen BK256.out 0))
   go_loopg [8] k (fun kq v8 w' => ∃ (x8_1 : Int) (x257000_1 : List (S34)) (u257000 : Value), v8 = .int .i64 x8_1 ∧ Aside0 (atticref14_From.l0 kq a0 l1 x8_1 x257000_1 = some (r1, r2)) ∧ Aside0 (kq ≤ k) ∧ Aside0 (Kd.R k34 34 w' w.heap.size (fun _ => True) u257000 x257000_1) ∧ Aside0 (w'.heap[gb251]? = some (.cells #[(.slice none 0 0)] 24 (0, 0))) ∧ Aside0 (w'.heap[gb256]? = some (.cells #[u257000] 24 (0, 0))) ∧ Aside0 (Below w.heap.size w w'))
   case atStart => exact ⟨(0), (t252), (.slice Ao9 t252.length co9), (by first | rfl | (simp; done) | (simp [*]; done) | (simp [Int.tdiv_eq_ediv_of_nonneg]; done)), H', ⟨Nat.le_refl _⟩, ⟨by (with_reducible repeat (first | apply Kd.R_alloc | apply Kd.R_drewN | apply Kd.R_drew)); exact Kd.R_mono (Kd.R_far (p := ⟨gb256, 0, none⟩) (Kd.R_types HO254.out BK256.out (by decide)) (fun _ hk => hk.2) (.slice Ao9 t252.length co9)) (fun _ hk => trivial)⟩, ⟨by (with_reducible repeat first | apply blk_drewN | apply blk_drew | apply blk_alloc); refine blk_far ?_ NB251_256.out _; (with_reducible repeat first | apply blk_drewN | apply blk_drew | apply blk_alloc); exact BK251.out⟩, ⟨by (with_reducible repeat first | apply blk_drewN | apply blk_drew | apply blk_alloc); refine blk_put (cs := #[.slice none 0 0]) ?_ 0 _ rfl; (with_reducible repeat first | apply blk_drewN | apply blk_drew | apply blk_alloc); exact BK256.out⟩, ⟨by repeat (first | (with_reducible first | exact HB.out | apply below_alloc | apply pw_below_drewN | apply below_drew1 | refine below_set ?_ GE251.out | refine below_set ?_ GE256.out) | exact HB.out)⟩⟩
   case round =>
    clear H'
    try clear c1
    try clear c2
    try clear p2
    try clear c4
    try clear c4b0
    try clear c4b1
    try clear c5
    try clear c5b0
    try clear c5b1
    try clear p6
    try clear c10
    try clear hcz11_0
    try clear hfz11_0
    obtain ⟨x8_1, x257000_1, u257000, rfl, HA, HK1, HO_257000, BK251, BK256, HB⟩ := hrel
    cases gk with
    | zero => exact absurd HA.out (by simp [atticref14_From.l0])
    | succ k1 =>
     have H := HA.out
     clear HA
     simp only [atticref14_From.l0] at H
     by_cases c12 : x8_1 < (l1.length : Int)
     ·rw [if_pos c12] at H
      have c12b0 : decide (x8_1 < (l1.length : Int)) = true := decide_eq_true c12
      clear c12
      by_cases c13 : 0 ≤ x8_1
      ·rw [if_pos c13] at H
       have c13b0 : decide (0 ≤ x8_1) = true := decide_eq_true c13
       clear c13
       by_cases c14 : ((rd_L7 l1 x8_1).length : Int) = 256
       ·rw [if_pos c14] at H
        have c14b0 : (((rd_L7 l1 x8_1).length : Int) == 256) = true := beq_iff_eq.mpr c14
        have c14b1 : (((rd_L7 l1 x8_1).length : Int) != 256) = false := bne_eq_false_iff_eq.mpr c14
        clear c14
        have H' := Aside0.mk H
        clear H
        have p257 : 0 ≤ (x8_1 : Int) := of_decide_eq_true (by first | (with_reducible assumption) | assumption)
        have q257 : x8_1 < (l1.length : Int) := of_decide_eq_true (by first | (with_reducible assumption) | assumption)
        obtain ⟨ad257, A257_0, c257_0, e257, hx257_0, hl257_0, hi257_0⟩ := at_L7 HR1.out x8_1 p257 q257
        cases e257
        replace hx257_0 := (HB.out.cell (World.block_lt_of_cell? w _ hx257_0)).trans hx257_0
        have HR257_0 := Aside0.mk hi257_0
        have HC257_0 := Aside0.mk hl257_0
        clear hi257_0 hl257_0
        replace p257 := eq_true p257
        replace q257 := eq_true q257
        go_wp2
        go_loopg [9] k1 (fun kq v9 w' => ∃ (x9_2 : Int) (x257000_2 : List (S34)) (u257000 : Value), v9 = .int .i64 x9_2 ∧ Aside0 (atticref14_From.l1 kq a0 l1 x8_1 x9_2 x257000_2 = some (r1, r2)) ∧ Aside0 (kq ≤ k1) ∧ Aside0 (Kd.R k34 34 w' w.heap.size (fun _ => True) u257000 x257000_2) ∧ Aside0 (w'.heap[gb251]? = some (.cells #[(.slice none 0 0)] 24 (0, 0))) ∧ Aside0 (w'.heap[gb256]? = some (.cells #[u257000] 24 (0, 0))) ∧ Aside0 (Below w.heap.size w w'))
        case atStart => exact ⟨(0), (x257000_1), (u257000), (by first | rfl | (simp; done) | (simp [*]; done) | (simp [Int.tdiv_eq_ediv_of_nonneg]; done)), H', ⟨Nat.le_refl _⟩, ⟨by (with_reducible repeat (first | apply Kd.R_alloc | apply Kd.R_drewN | apply Kd.R_drew)); exact HO_257000.out⟩, ⟨by (with_reducible repeat first | apply blk_drewN | apply blk_drew | apply blk_alloc); exact BK251.out⟩, ⟨by (with_reducible repeat first | apply blk_drewN | apply blk_drew | apply blk_alloc); exact BK256.out⟩, ⟨by repeat (first | (with_reducible first | exact HB.out | apply below_alloc | apply pw_below_drewN | apply below_drew1 | refine below_set ?_ GE251.out | refine below_set ?_ GE256.out) | exact HB.out)⟩⟩
        case round =>
         clear H'
         try clear c1
         try clear c2
         try clear p2
         try clear q2
         try clear hx2
         try clear c4
         try clear c4b0
         try clear c4b1
         try clear c5
         try clear c5b0
         try clear c5b1
         try clear p6
         try clear c10
         try clear c12
         try clear c12b0
         try clear c13
         try clear c13b0
         try clear c14
         try clear c14b0
         try clear c14b1
         try clear hcz11_0
         try clear hfz11_0
         try clear hx257_0
         try clear p2
         try clear p257
         try clear p6
         try clear q257
         obtain ⟨x9_2, x257000_2, u257000, rfl, HA, HK2, HO_257000, BK251, BK256, HB⟩ := hrel
         cases gk with
         | zero => exact absurd HA.out (by simp [atticref14_From.l1])
         | succ k2 =>
          have H := HA.out
          clear HA
          simp only [atticref14_From.l1] at H
          by_cases c15 : x9_2 < 32
          ·rw [if_pos c15] at H
           have c15b0 : decide (x9_2 < 32) = true := decide_eq_true c15
           clear c15
           by_cases c16 : 0 ≤ x8_1
           ·rw [if_pos c16] at H
            have c16b0 : decide (0 ≤ x8_1) = true := decide_eq_true c16
            clear c16
            by_cases c17 : x8_1 < (l1.length : Int)
            ·rw [if_pos c17] at H
             have c17b0 : decide (x8_1 < (l1.length : Int)) = true := decide_eq_true c17
             clear c17
             obtain ⟨ji18, hji18⟩ : ∃ j_ : Int, (wrap64 (8 * x9_2)) = j_ := ⟨_, rfl⟩
             replace H : (if 0 ≤ (ji18) then (if (ji18) ≤ (wrap64 ((ji18) + 8)) then (if (wrap64 ((ji18) + 8)) ≤ ((rd_L7 l1 x8_1).length : Int) then (if (wrap64 ((wrap64 (32 * x8_1)) + x9_2)) ≥ a0 then (if 8 ≤ 281474976710656 then (if (strOfNums (((rd_L7 l1 x8_1).take ((wrap64 ((ji18) + 8)) : Int).toNat).drop ((ji18) : Int).toNat)).toList = (strOfNums (List.replicate 8 0)).toList then (atticref14_From.l1 k2 a0 l1 x8_1 (wrap64 (x9_2 + 1)) x257000_2) else (some (([] : List (S34)), 140))) else (none)) else ((atticref14_Parse.f k2 (((rd_L7 l1 x8_1).take ((wrap64 ((ji18) + 8)) : Int).toNat).drop ((ji18) : Int).toNat)).bind fun bt263 => (if bt263.2.2 = 0 then (if 0 ≤ (wrap64 ((wrap64 (32 * x8_1)) + x9_2)) then (if (wrap64 ((wrap64 (32 * x8_1)) + x9_2)) < (x257000_2.length : Int) then (atticref14_From.l1 k2 a0 l1 x8_1 (wrap64 (x9_2 + 1)) (x257000_2.set ((wrap64 ((wrap64 (32 * x8_1)) + x9_2)) : Int).toNat (⟨bt263.1, bt263.2.1⟩ : S34))) else (none)) else (none)) else (some (([] : List (S34)), bt263.2.2))))) else (none)) else (none)) else (none)) = some (r1, r2) := by first | (rw [hji18] at H; exact H) | (simp only [hji18] at H ⊢; exact H)
             have hji18w : (IntKind.i64.wrap (8 * x9_2)) = ji18 := (i64_w _).trans hji18
             by_cases c19 : 0 ≤ (ji18)
             ·rw [if_pos c19] at H
              have c19b0 := eq_true c19
              have c19b1 : decide (0 ≤ (ji18)) = true := decide_eq_true c19
              clear c19
              by_cases c20 : (ji18) ≤ (wrap64 ((ji18) + 8))
              ·rw [if_pos c20] at H
               have c20b0 := eq_true c20
               have c20b1 : decide ((ji18) ≤ (wrap64 ((ji18) + 8))) = true := decide_eq_true c20
               by_cases c21 : (wrap64 ((ji18) + 8)) ≤ ((rd_L7 l1 x8_1).length : Int)
               ·rw [if_pos c21] at H
                have c21b0 := eq_true c21
                have c21b1 : decide ((wrap64 ((ji18) + 8)) ≤ ((rd_L7 l1 x8_1).length : Int)) = true := decide_eq_true c21
                by_cases c22 : (wrap64 ((wrap64 (32 * x8_1)) + x9_2)) ≥ a0
                ·rw [if_pos c22] at H
                 have c22b0 : decide (a0 ≤ (wrap64 ((wrap64 (32 * x8_1)) + x9_2))) = true := decide_eq_true c22
                 clear c22
                 by_cases c23 : 8 ≤ 281474976710656
                 ·rw [if_pos c23] at H
                  have c23b0 := eq_true c23
                  have c23b1 : decide (8 ≤ 281474976710656) = true := decide_eq_true c23
                  clear c23
                  obtain ⟨y260, hy260⟩ : ∃ y_ : List Int, y_ = (List.replicate 8 0) := ⟨_, rfl⟩
                  replace H : (if (strOfNums (((rd_L7 l1 x8_1).take ((wrap64 ((ji18) + 8)) : Int).toNat).drop ((ji18) : Int).toNat)).toList = (strOfNums y260).toList then (atticref14_From.l1 k2 a0 l1 x8_1 (wrap64 (x9_2 + 1)) x257000_2) else (some (([] : List (S34)), 140))) = some (r1, r2) := by first | (rw [hy260]; with_reducible exact H) | (have H2_ := (Option.bind_some _ _).symm.trans H; rw [hy260]; with_reducible exact H2_) | (have H2_ := (Option.bind_some _ _).symm.trans H; with_reducible exact H2_) | with_reducible exact H | (rw [hy260]; exact H) | exact H
                  have Ny260 := Aside0.mk hy260
                  clear hy260
                  by_cases c24 : (strOfNums (((rd_L7 l1 x8_1).take ((wrap64 ((ji18) + 8)) : Int).toNat).drop ((ji18) : Int).toNat)).toList = (strOfNums y260).toList
                  ·rw [if_pos c24] at H
                   have c24b0 : ((strOfNums (((rd_L7 l1 x8_1).take ((wrap64 ((ji18) + 8)) : Int).toNat).drop ((ji18) : Int).toNat)).toList == (strOfNums y260).toList) = true := beq_iff_eq.mpr c24
                   have c24b1 : ((strOfNums (((rd_L7 l1 x8_1).take ((wrap64 ((ji18) + 8)) : Int).toNat).drop ((ji18) : Int).toNat)).toList != (strOfNums y260).toList) = false := bne_eq_false_iff_eq.mpr c24
                   clear c24
                   have H' := Aside0.mk H
                   clear H
                   have p258 : 0 ≤ (x8_1 : Int) := of_decide_eq_true (by first | (with_reducible assumption) | assumption)
                   have q258 : x8_1 < (l1.length : Int) := of_decide_eq_true (by first | (with_reducible assumption) | assumption)
                   obtain ⟨ad258, A258_0, c258_0, e258, hx258_0, hl258_0, hi258_0⟩ := at_L7 HR1.out x8_1 p258 q258
                   obtain rfl : ad257 = ad258 := (by injection e258)
                   replace hx258_0 := (HB.out.cell (World.block_lt_of_cell? w _ hx258_0)).trans hx258_0
                   have HR258_0 := Aside0.mk hi258_0
                   have HC258_0 := Aside0.mk hl258_0
                   clear hi258_0 hl258_0
                   replace p258 := eq_true p258
                   replace q258 := eq_true q258
                   obtain ⟨i025, hi025, _, hsz25, _⟩ := info_parts info5
                   obtain ⟨A25, hcut25, hA25, hC25⟩ := print_mid_of (P := Try.prog) (Value.int .u8) 0 58 5 .i64 .i64 Try.underlying58 hi025 hsz25 A258_0 c258_0 (rd_L7 l1 x8_1) (ji18) (wrap64 ((ji18) + 8)) (of_decide_eq_true (by first | (with_reducible assumption) | assumption)) (by first | omega | exact of_decide_eq_true (by first | (with_reducible assumption) | assumption)) (of_decide_eq_true (by first | (with_reducible assumption) | assumption)) HC258_0.out
                   have HR259 := Aside0.mk (Kd.C_of_reads (h1 := fun _ => rfl) (hA25 _ (Kd.reads_of_C HR258_0.out)))
                   have HC259 := Aside0.mk hC25
                   clear hA25 hC25 hi025 hsz25
                   try go_wp2
                   have n0_ := Aside0.mk (Kd.R_drew HO_257000.out)
                   have n1_ := Aside0.mk (blk_drew BK251.out)
                   have n2_ := Aside0.mk (blk_drew BK256.out)
                   have n3_ := Aside0.mk (below_drew1 HB.out)
                   clear HO_257000
                   clear BK251
                   clear BK256
                   clear HB
                   have HO_257000 := n0_
                   have BK251 := n1_
                   have BK256 := n2_
                   have HB := n3_
                   clear n0_ n1_ n2_ n3_
                   skip
                   refine start_ (n := 5) (S := Sat_ HR259.out) (ds := []) #[false, false, false, false, false] (by kernel_rfl) rfl rfl (Kd.C_below HR259.out HB.out) (fun hHeld => ?_)
                   generalize wr.drew = w26 at HO_257000 BK251 BK256 HB hHeld ⊢
                   refine pure_ (i := 0) (N := some 62) (v := ?_) (a' := ?_) #[true, false, false, false, false] rfl rfl (by kernel_rfl) (fun _ _ _ h => h) (Or.inl ⟨by rfl, ?_⟩) ?_ ?_
                   rotate_left
                   ·intro w'
                    go_simp
                    with_reducible rfl
                   rotate_left
                   ·simp only [Act.put, List.setIfInBounds_toArray, List.set_cons_zero, List.set_cons_succ, i64_w, i32_w]
                    rfl
                   refine take_ (i := 1) (N := some 63) (v := ?_) (a' := ?_) #[true, true, false, false, false] rfl rfl (by kernel_rfl) (fun _ _ _ h => h) (Or.inl ⟨by rfl, ?_⟩) hHeld ?_ ?_
                   rotate_left
                   ·intro w' s0_
                    have hs_ := Kd.C_string (P := Try.prog) (A := A25) (c := (c258_0 - (ji18).toNat)) Try.underlying58 Try.underlying5 Try.underlying9 (Sat_out s0_)
                    rw [List.length_drop, List.length_take, Nat.min_eq_left (show (wrap64 ((ji18) + 8)).toNat ≤ (rd_L7 l1 x8_1).length from Int.toNat_le.mpr (of_decide_eq_true (by first | (with_reducible assumption) | assumption)))] at hs_
                    go_simp
                    with_reducible rfl
                   rotate_left
                   ·simp only [Act.put, List.setIfInBounds_toArray, List.set_cons_zero, List.set_cons_succ, i64_w, i32_w]
                    rfl
                   refine one_ (i := 2) (N := some 64) #[true, true, true, false, false] rfl rfl (by kernel_rfl) (by decide) (fun K hK => ?_)
                   refine Kd.R_make_step (Kd.int .u8) _ 5 (by rfl) (N := 64) rfl 58 _ _ rfl 8 rfl rfl Try.underlying58 (.int .u8 0) 1 info5 rfl (by decide) (by omega) 0 (ok := fun _ => True) (okp := fun _ => True) rfl (fun _ hk => hk) trivial (by omega) (by omega) (Below.refl _ _) (Nat.le_refl _) ?_
                   intro v261 w28 ho29 hb hg_ hnew_
                   clear hg_ hnew_
                   (first | rw [← Ny260.out] at ho29 | (simp only [Int.reduceToNat] at ho29; rw [← Ny260.out] at ho29))
                   have n0_ := Aside0.mk (Kd.R_below (by (with_reducible repeat (first | apply Kd.R_alloc | apply Kd.R_drewN | apply Kd.R_drew)); exact HO_257000.out) hb)
                   have n1_ := Aside0.mk (Kd.R_lower ho29 (below_size (by repeat (first | (with_reducible first | exact HB.out | apply below_alloc | apply pw_below_drewN | apply below_drew1 | refine below_set ?_ GE251.out | refine below_set ?_ GE256.out) | exact HB.out))))
                   have n2_ := Aside0.mk (blk_below (g := gb251) (o := .cells #[.slice none 0 0] 24 (0, 0)) (by (with_reducible repeat first | apply blk_drewN | apply blk_drew | apply blk_alloc); exact BK251.out) hb)
                   have n3_ := Aside0.mk (blk_below (g := gb256) (o := .cells #[u257000] 24 (0, 0)) (by (with_reducible repeat first | apply blk_drewN | apply blk_drew | apply blk_alloc); exact BK256.out) hb)
                   have n4_ := Aside0.mk (below_step (by repeat (first | (with_reducible first | exact HB.out | apply below_alloc | apply pw_below_drewN | apply below_drew1 | refine below_set ?_ GE251.out | refine below_set ?_ GE256.out) | exact HB.out)) hb)
                   clear HO_257000
                   clear BK251
                   clear BK256
                   clear HB
                   have HO_257000 := n0_
                   have HO262 := n1_
                   have BK251 := n2_
                   have BK256 := n3_
                   have HB := n4_
                   clear n0_ n1_ n2_ n3_ n4_
                   have hSQ_ := Kd.C_below (Sat_out hHeld) hb
                   clear hb ho29
                   refine hK.out _ _ hSQ_ (fun hHeld => ?_)
                   clear hK K
                   refine norm_ (a' := ?_) ?_ ?_
                   rotate_left
                   ·show Act.put _ (some 64) _ = _
                    simp only [Act.put, List.setIfInBounds_toArray, List.set_cons_zero, List.set_cons_succ, i64_w, i32_w]
                    rfl
                   refine one_ (i := 3) (N := some 65) #[true, true, true, true, false] rfl rfl (by kernel_rfl) (by decide) (fun K hK => ?_)
                   have hcv30 := own_string (P := Try.prog) Try.underlying58 Try.underlying5 Try.underlying9 (Kd.own_of_R HO262.out)
                   refine value_ (w1 := ?_) (v := ?_) (by rfl) rfl ?_ ?_
                   rotate_left 2
                   ·go_simp
                    constructor
                    ·rfl
                    ·rfl
                   clear hcv30
                   refine hK.out _ _ hHeld (fun hHeld => ?_)
                   clear hK K
                   refine norm_ (a' := ?_) ?_ ?_
                   rotate_left
                   ·show Act.put _ (some 65) _ = _
                    simp only [Act.put, List.setIfInBounds_toArray, List.set_cons_zero, List.set_cons_succ, i64_w, i32_w]
                    rfl
                   refine pure_ (i := 4) (N := some 66) (v := ?_) (a' := ?_) #[true, true, true, true, true] rfl rfl (by kernel_rfl) (fun _ _ _ h => h) (Or.inl ⟨by rfl, ?_⟩) ?_ ?_
                   rotate_left
                   ·intro w'
                    go_simp
                    with_reducible rfl
                   rotate_left
                   ·simp only [Act.put, List.setIfInBounds_toArray, List.set_cons_zero, List.set_cons_succ, i64_w, i32_w]
                    rfl
                   refine done_ (by kernel_rfl) ?_
                   try go_wp2
                   go_roundg k2
                   case measure => have := HK1.out; have := HK2.out; omega
                   case rel => exact ⟨(wrap64 (x9_2 + 1)), (x257000_2), (u257000), (by first | rfl | (simp; done) | (simp [*]; done) | (simp [Int.tdiv_eq_ediv_of_nonneg]; done)), H', ⟨by have := HK1.out; have := HK2.out; omega⟩, ⟨by (with_reducible repeat (first | apply Kd.R_alloc | apply Kd.R_drewN | apply Kd.R_drew)); exact HO_257000.out⟩, ⟨by (with_reducible repeat first | apply blk_drewN | apply blk_drew | apply blk_alloc); exact BK251.out⟩, ⟨by (with_reducible repeat first | apply blk_drewN | apply blk_drew | apply blk_alloc); exact BK256.out⟩, ⟨by repeat (first | (with_reducible first | exact HB.out | apply below_alloc | apply pw_below_drewN | apply below_drew1 | refine below_set ?_ GE251.out | refine below_set ?_ GE256.out) | exact HB.out)⟩⟩
                  ·rw [if_neg c24] at H
                   have c24b0 : ((strOfNums (((rd_L7 l1 x8_1).take ((wrap64 ((ji18) + 8)) : Int).toNat).drop ((ji18) : Int).toNat)).toList == (strOfNums y260).toList) = false := beq_eq_false_iff_ne.mpr c24
                   have c24b1 : ((strOfNums (((rd_L7 l1 x8_1).take ((wrap64 ((ji18) + 8)) : Int).toNat).drop ((ji18) : Int).toNat)).toList != (strOfNums y260).toList) = true := bne_iff_ne.mpr c24
                   simp only [Option.some.injEq, Prod.mk.injEq] at H
                   obtain ⟨rfl, rfl⟩ := H
                   have p258 : 0 ≤ (x8_1 : Int) := of_decide_eq_true (by first | (with_reducible assumption) | assumption)
                   have q258 : x8_1 < (l1.length : Int) := of_decide_eq_true (by first | (with_reducible assumption) | assumption)
                   obtain ⟨ad258, A258_0, c258_0, e258, hx258_0, hl258_0, hi258_0⟩ := at_L7 HR1.out x8_1 p258 q258
                   obtain rfl : ad257 = ad258 := (by injection e258)
                   replace hx258_0 := (HB.out.cell (World.block_lt_of_cell? w _ hx258_0)).trans hx258_0
                   have HR258_0 := Aside0.mk hi258_0
                   have HC258_0 := Aside0.mk hl258_0
                   clear hi258_0 hl258_0
                   replace p258 := eq_true p258
                   replace q258 := eq_true q258
                   obtain ⟨i032, hi032, _, hsz32, _⟩ := info_parts info5
                   obtain ⟨A32, hcut32, hA32, hC32⟩ := print_mid_of (P := Try.prog) (Value.int .u8) 0 58 5 .i64 .i64 Try.underlying58 hi032 hsz32 A258_0 c258_0 (rd_L7 l1 x8_1) (ji18) (wrap64 ((ji18) + 8)) (of_decide_eq_true (by first | (with_reducible assumption) | assumption)) (by first | omega | exact of_decide_eq_true (by first | (with_reducible assumption) | assumption)) (of_decide_eq_true (by first | (with_reducible assumption) | assumption)) HC258_0.out
                   have HR259 := Aside0.mk (Kd.C_of_reads (h1 := fun _ => rfl) (hA32 _ (Kd.reads_of_C HR258_0.out)))
                   have HC259 := Aside0.mk hC32
                   clear hA32 hC32 hi032 hsz32
                   try go_wp2
                   have n0_ := Aside0.mk (Kd.R_drew HO_257000.out)
                   have n1_ := Aside0.mk (blk_drew BK251.out)
                   have n2_ := Aside0.mk (blk_drew BK256.out)
                   have n3_ := Aside0.mk (below_drew1 HB.out)
                   clear HO_257000
                   clear BK251
                   clear BK256
                   clear HB
                   have HO_257000 := n0_
                   have BK251 := n1_
                   have BK256 := n2_
                   have HB := n3_
                   clear n0_ n1_ n2_ n3_
                   skip
                   refine start_ (n := 5) (S := Sat_ HR259.out) (ds := []) #[false, false, false, false, false] (by kernel_rfl) rfl rfl (Kd.C_below HR259.out HB.out) (fun hHeld => ?_)
                   generalize wr.drew = w33 at HO_257000 BK251 BK256 HB hHeld ⊢
                   refine pure_ (i := 0) (N := some 62) (v := ?_) (a' := ?_) #[true, false, false, false, false] rfl rfl (by kernel_rfl) (fun _ _ _ h => h) (Or.inl ⟨by rfl, ?_⟩) ?_ ?_
                   rotate_left
                   ·intro w'
                    go_simp
                    with_reducible rfl
                   rotate_left
                   ·simp only [Act.put, List.setIfInBounds_toArray, List.set_cons_zero, List.set_cons_succ, i64_w, i32_w]
                    rfl
                   refine take_ (i := 1) (N := some 63) (v := ?_) (a' := ?_) #[true, true, false, false, false] rfl rfl (by kernel_rfl) (fun _ _ _ h => h) (Or.inl ⟨by rfl, ?_⟩) hHeld ?_ ?_
                   rotate_left
                   ·intro w' s0_
                    have hs_ := Kd.C_string (P := Try.prog) (A := A32) (c := (c258_0 - (ji18).toNat)) Try.underlying58 Try.underlying5 Try.underlying9 (Sat_out s0_)
                    rw [List.length_drop, List.length_take, Nat.min_eq_left (show (wrap64 ((ji18) + 8)).toNat ≤ (rd_L7 l1 x8_1).length from Int.toNat_le.mpr (of_decide_eq_true (by first | (with_reducible assumption) | assumption)))] at hs_
                    go_simp
                    with_reducible rfl
                   rotate_left
                   ·simp only [Act.put, List.setIfInBounds_toArray, List.set_cons_zero, List.set_cons_succ, i64_w, i32_w]
                    rfl
                   refine one_ (i := 2) (N := some 64) #[true, true, true, false, false] rfl rfl (by kernel_rfl) (by decide) (fun K hK => ?_)
                   refine Kd.R_make_step (Kd.int .u8) _ 5 (by rfl) (N := 64) rfl 58 _ _ rfl 8 rfl rfl Try.underlying58 (.int .u8 0) 1 info5 rfl (by decide) (by omega) 0 (ok := fun _ => True) (okp := fun _ => True) rfl (fun _ hk => hk) trivial (by omega) (by omega) (Below.refl _ _) (Nat.le_refl _) ?_
                   intro v261 w35 ho36 hb hg_ hnew_
                   clear hg_ hnew_
                   (first | rw [← Ny260.out] at ho36 | (simp only [Int.reduceToNat] at ho36; rw [← Ny260.out] at ho36))
                   have n0_ := Aside0.mk (Kd.R_below (by (with_reducible repeat (first | apply Kd.R_alloc | apply Kd.R_drewN | apply Kd.R_drew)); exact HO_257000.out) hb)
                   have n1_ := Aside0.mk (Kd.R_lower ho36 (below_size (by repeat (first | (with_reducible first | exact HB.out | apply below_alloc | apply pw_below_drewN | apply below_drew1 | refine below_set ?_ GE251.out | refine below_set ?_ GE256.out) | exact HB.out))))
                   have n2_ := Aside0.mk (blk_below (g := gb251) (o := .cells #[.slice none 0 0] 24 (0, 0)) (by (with_reducible repeat first | apply blk_drewN | apply blk_drew | apply blk_alloc); exact BK251.out) hb)
                   have n3_ := Aside0.mk (blk_below (g := gb256) (o := .cells #[u257000] 24 (0, 0)) (by (with_reducible repeat first | apply blk_drewN | apply blk_drew | apply blk_alloc); exact BK256.out) hb)
                   have n4_ := Aside0.mk (below_step (by repeat (first | (with_reducible first | exact HB.out | apply below_alloc | apply pw_below_drewN | apply below_drew1 | refine below_set ?_ GE251.out | refine below_set ?_ GE256.out) | exact HB.out)) hb)
                   clear HO_257000
                   clear BK251
                   clear BK256
                   clear HB
                   have HO_257000 := n0_
                   have HO262 := n1_
                   have BK251 := n2_
                   have BK256 := n3_
                   have HB := n4_
                   clear n0_ n1_ n2_ n3_ n4_
                   have hSQ_ := Kd.C_below (Sat_out hHeld) hb
                   clear hb ho36
                   refine hK.out _ _ hSQ_ (fun hHeld => ?_)
                   clear hK K
                   refine norm_ (a' := ?_) ?_ ?_
                   rotate_left
                   ·show Act.put _ (some 64) _ = _
                    simp only [Act.put, List.setIfInBounds_toArray, List.set_cons_zero, List.set_cons_succ, i64_w, i32_w]
                    rfl
                   refine one_ (i := 3) (N := some 65) #[true, true, true, true, false] rfl rfl (by kernel_rfl) (by decide) (fun K hK => ?_)
                   have hcv37 := own_string (P := Try.prog) Try.underlying58 Try.underlying5 Try.underlying9 (Kd.own_of_R HO262.out)
                   refine value_ (w1 := ?_) (v := ?_) (by rfl) rfl ?_ ?_
                   rotate_left 2
                   ·go_simp
                    constructor
                    ·rfl
                    ·rfl
                   clear hcv37
                   refine hK.out _ _ hHeld (fun hHeld => ?_)
                   clear hK K
                   refine norm_ (a' := ?_) ?_ ?_
                   rotate_left
                   ·show Act.put _ (some 65) _ = _
                    simp only [Act.put, List.setIfInBounds_toArray, List.set_cons_zero, List.set_cons_succ, i64_w, i32_w]
                    rfl
                   refine pure_ (i := 4) (N := some 66) (v := ?_) (a' := ?_) #[true, true, true, true, true] rfl rfl (by kernel_rfl) (fun _ _ _ h => h) (Or.inl ⟨by rfl, ?_⟩) ?_ ?_
                   rotate_left
                   ·intro w'
                    go_simp
                    with_reducible rfl
                   rotate_left
                   ·simp only [Act.put, List.setIfInBounds_toArray, List.set_cons_zero, List.set_cons_succ, i64_w, i32_w]
                    rfl
                   refine done_ (by kernel_rfl) ?_
                   have hnb39 := NB251_256.out
                   have hnc39 := NB256_251.out
                   have hcz40_0 : World.cell? _ ⟨gb251, 0, none⟩ = some (.slice none 0 0) := (blk_cell BK251.out 0).trans rfl
                   have hfz40_0 := blk_frozen BK251.out 0
                   try go_wp2
                   refine bodyPost_ret (results_ct rfl _ _ gb251 24 #[.slice none 0 0] (0, 0) _ rfl (by (with_reducible repeat first | apply blk_drewN | apply blk_drew | apply blk_alloc); refine blk_put (cs := #[.slice none 0 0]) ?_ 0 _ rfl; (with_reducible repeat first | apply blk_drewN | apply blk_drew | apply blk_alloc); exact BK251.out) Try.underlying24 rfl (by kernel_rfl)) rfl ?_
                   exact ⟨_, by first | rfl | (simp [errW_none, errW_some] <;> rfl) | (simp only [← hji18]; first | rfl | (simp [errW_none, errW_some] <;> rfl)) | (simp [*, errW_none, errW_some] <;> rfl) | (simp [Int.tdiv_eq_ediv_of_nonneg]; done), by first | exact Kd.R_nil _ _ _ _ _ | exact Kd.N_nil _ _ _ _ _ | exact Kd.V_nil _ _ _ _ _ | exact Kd.Q_nil _ _ _ _ _ | exact Kd.S_nil _ _ _ _ _, by repeat (first | (with_reducible first | exact HB.out | apply below_alloc | apply pw_below_drewN | apply below_drew1 | refine below_set ?_ GE251.out | refine below_set ?_ GE256.out) | exact HB.out)⟩
                 ·rw [if_neg c23] at H
                  exact absurd H (by simp)
                ·rw [if_neg c22] at H
                 have c22b0 : decide (a0 ≤ (wrap64 ((wrap64 (32 * x8_1)) + x9_2))) = false := decide_eq_false c22
                 clear c22
                 replace H := Option.bind_eq_some_iff.mp H
                 obtain ⟨⟨t263, t264, t265⟩, A410, H⟩ := H
                 replace H : (if t265 = 0 then (if 0 ≤ (wrap64 ((wrap64 (32 * x8_1)) + x9_2)) then (if (wrap64 ((wrap64 (32 * x8_1)) + x9_2)) < (x257000_2.length : Int) then (atticref14_From.l1 k2 a0 l1 x8_1 (wrap64 (x9_2 + 1)) (x257000_2.set ((wrap64 ((wrap64 (32 * x8_1)) + x9_2)) : Int).toNat (⟨t263, t264⟩ : S34))) else (none)) else (none)) else (some (([] : List (S34)), t265))) = some (r1, r2) := H
                 have A41 := Aside0.mk A410
                 clear A410
                 by_cases c42 : t265 = 0
                 ·rw [if_pos c42] at H
                  have c42b0 : (t265 == 0) = true := beq_iff_eq.mpr c42
                  have c42b1 : (t265 != 0) = false := bne_eq_false_iff_eq.mpr c42
                  clear c42
                  obtain ⟨ji43, hji43⟩ : ∃ j_ : Int, (wrap64 ((wrap64 (32 * x8_1)) + x9_2)) = j_ := ⟨_, rfl⟩
                  replace H : (if 0 ≤ (ji43) then (if (ji43) < (x257000_2.length : Int) then (atticref14_From.l1 k2 a0 l1 x8_1 (wrap64 (x9_2 + 1)) (x257000_2.set ((ji43) : Int).toNat (⟨t263, t264⟩ : S34))) else (none)) else (none)) = some (r1, r2) := by first | (rw [hji43] at H; exact H) | (simp only [hji43] at H ⊢; exact H)
                  (try rw [hji43] at c22b0)
                  (try rw [hji43] at A41)
                  have hji43w : (IntKind.i64.wrap ((wrap64 (32 * x8_1)) + x9_2)) = ji43 := (i64_w _).trans hji43
                  by_cases c44 : 0 ≤ (ji43)
                  ·rw [if_pos c44] at H
                   have c44b0 : decide (0 ≤ (ji43)) = true := decide_eq_true c44
                   clear c44
                   by_cases c45 : (ji43) < (x257000_2.length : Int)
                   ·rw [if_pos c45] at H
                    have c45b0 : decide ((ji43) < (x257000_2.length : Int)) = true := decide_eq_true c45
                    clear c45
                    obtain ⟨y267, hy267⟩ : ∃ y_ : List (S34), y_ = (x257000_2.set ((ji43) : Int).toNat (⟨t263, t264⟩ : S34)) := ⟨_, rfl⟩
                    replace H : (atticref14_From.l1 k2 a0 l1 x8_1 (wrap64 (x9_2 + 1)) y267) = some (r1, r2) := by first | (rw [hy267]; with_reducible exact H) | (have H2_ := (Option.bind_some _ _).symm.trans H; rw [hy267]; with_reducible exact H2_) | (have H2_ := (Option.bind_some _ _).symm.trans H; with_reducible exact H2_) | with_reducible exact H | (rw [hy267]; exact H) | exact H
                    have Ny267 := Aside0.mk hy267
                    clear hy267
                    have H' := Aside0.mk H
                    clear H
                    have p258 : 0 ≤ (x8_1 : Int) := of_decide_eq_true (by first | (with_reducible assumption) | assumption)
                    have q258 : x8_1 < (l1.length : Int) := of_decide_eq_true (by first | (with_reducible assumption) | assumption)
                    obtain ⟨ad258, A258_0, c258_0, e258, hx258_0, hl258_0, hi258_0⟩ := at_L7 HR1.out x8_1 p258 q258
                    obtain rfl : ad257 = ad258 := (by injection e258)
                    replace hx258_0 := (HB.out.cell (World.block_lt_of_cell? w _ hx258_0)).trans hx258_0
                    have HR258_0 := Aside0.mk hi258_0
                    have HC258_0 := Aside0.mk hl258_0
                    clear hi258_0 hl258_0
                    replace p258 := eq_true p258
                    replace q258 := eq_true q258
                    obtain ⟨i047, hi047, _, hsz47, _⟩ := info_parts info5
                    obtain ⟨A47, hcut47, hA47, hC47⟩ := print_mid_of (P := Try.prog) (Value.int .u8) 0 58 5 .i64 .i64 Try.underlying58 hi047 hsz47 A258_0 c258_0 (rd_L7 l1 x8_1) (ji18) (wrap64 ((ji18) + 8)) (of_decide_eq_true (by first | (with_reducible assumption) | assumption)) (by first | omega | exact of_decide_eq_true (by first | (with_reducible assumption) | assumption)) (of_decide_eq_true (by first | (with_reducible assumption) | assumption)) HC258_0.out
                    have HR259 := Aside0.mk (Kd.C_of_reads (h1 := fun _ => rfl) (hA47 _ (Kd.reads_of_C HR258_0.out)))
                    have HC259 := Aside0.mk hC47
                    clear hA47 hC47 hi047 hsz47
                    go_wp2_with (first | ((with_reducible refine gate_callee (f := 37) rfl ?_); refine goesL_ (some 70) rfl rfl Try.func37 (by kernel_rfl) rfl #[.slice A47 (((rd_L7 l1 x8_1).take ((wrap64 ((ji18) + 8)) : Int).toNat).drop ((ji18) : Int).toNat).length (c258_0 - (ji18).toNat)] rfl (by (try simp only [List.map_toArray, List.map_cons, List.map_nil]); first | done | (rw [show (((rd_L7 l1 x8_1).take ((wrap64 ((ji18) + 8)) : Int).toNat).drop ((ji18) : Int).toNat).length = ((wrap64 ((ji18) + 8)).toNat - (ji18).toNat) from (by rw [List.length_drop, List.length_take]; have h_ : ((wrap64 ((ji18) + 8)) : Int) ≤ ((rd_L7 l1 x8_1).length : Int) := of_decide_eq_true (by first | (with_reducible assumption) | assumption); omega)] <;> rfl) | (simp only [hji18]; rfl) | rfl | (simp only [List.length_drop, List.length_take]; rfl)) ?_; (with_reducible refine (atticref14_Parse.calls k2 _ _ (((rd_L7 l1 x8_1).take ((wrap64 ((ji18) + 8)) : Int).toNat).drop ((ji18) : Int).toNat) t263 t264 t265 _ ?side1 ?side2 A41.out).mono ?_); (case side1 => repeat (first | exact (Kd.C_below HR259.out HB.out) | (with_reducible refine Kd.C_alloc ?_ _) | (with_reducible refine Kd.C_drewN ?_ _) | (with_reducible refine Kd.C_drew ?_))); (case side2 => exact HC259.out); rintro e w48 ⟨rfl, hb⟩; refine ⟨_, rfl, ?_⟩; have n0_ := Aside0.mk (Kd.R_below (by (with_reducible repeat (first | apply Kd.R_alloc | apply Kd.R_drewN | apply Kd.R_drew)); exact HO_257000.out) hb); have n1_ := Aside0.mk (blk_below (g := gb251) (o := .cells #[.slice none 0 0] 24 (0, 0)) (by (with_reducible repeat first | apply blk_drewN | apply blk_drew | apply blk_alloc); exact BK251.out) hb); have n2_ := Aside0.mk (blk_below (g := gb256) (o := .cells #[u257000] 24 (0, 0)) (by (with_reducible repeat first | apply blk_drewN | apply blk_drew | apply blk_alloc); exact BK256.out) hb); have n3_ := Aside0.mk (below_step (by repeat (first | (with_reducible first | exact HB.out | apply below_alloc | apply pw_below_drewN | apply below_drew1 | refine below_set ?_ GE251.out | refine below_set ?_ GE256.out) | exact HB.out)) hb); clear HO_257000; clear BK251; clear BK256; clear HB; have HO_257000 := n0_; have BK251 := n1_; have BK256 := n2_; have HB := n3_; clear n0_ n1_ n2_ n3_; (try clear hb); (try clear hb2); (try clear hk); (try clear hi); (try clear A41)) | ((with_reducible refine gate_dst (N := 11) rfl ?_); refine box_event ?hg (N := 11) ?hd (cs := #[.int .i64 0, .int .u32 0]) (t := 34) ?hr ?_; (case hd => rfl); (case hg => rfl); (case hr => first | (go_simp; done) | (go_simp; rfl)); intro gb266 hg w49 hbox hb; have n0_ := Aside0.mk (Kd.R_below (Kd.R_elderB (by (with_reducible repeat (first | apply Kd.R_alloc | apply Kd.R_drewN | apply Kd.R_drew)); exact HO_257000.out) gb266 (Nat.le_of_eq hg.symm)) hb); have n1_ := Aside0.mk (blk_below (g := gb251) (o := .cells #[.slice none 0 0] 24 (0, 0)) (by (with_reducible repeat first | apply blk_drewN | apply blk_drew | apply blk_alloc); exact BK251.out) hb); have n2_ := Aside0.mk (blk_below (g := gb256) (o := .cells #[u257000] 24 (0, 0)) (by (with_reducible repeat first | apply blk_drewN | apply blk_drew | apply blk_alloc); exact BK256.out) hb); have n3_ := Aside0.mk (below_step (by repeat (first | (with_reducible first | exact HB.out | apply below_alloc | apply pw_below_drewN | apply below_drew1 | refine below_set ?_ GE251.out | refine below_set ?_ GE256.out) | exact HB.out)) hb); have n4_ := Aside0.mk (hbox); have n5_ := Aside0.mk ((by rw [hg]; exact (below_size (by repeat (first | (with_reducible first | exact HB.out | apply below_alloc | apply pw_below_drewN | apply below_drew1 | refine below_set ?_ GE251.out | refine below_set ?_ GE256.out) | exact HB.out))) : w.heap.size ≤ gb266)); have n6_ := Aside0.mk ((by rw [hg]; exact (below_size (by repeat (first | (with_reducible first | exact HB.out | apply below_alloc | apply pw_below_drewN | apply below_drew1 | refine below_set ?_ GE251.out | refine below_set ?_ GE256.out) | exact HB.out))) : w.heap.size ≤ gb266)); have n7_ := Aside0.mk ((by rw [hg]; exact Nat.ne_of_lt (blk_lt (g := gb251) (o := .cells #[.slice none 0 0] 24 (0, 0)) (by (with_reducible repeat first | apply blk_drewN | apply blk_drew | apply blk_alloc); exact BK251.out)) : gb251 ≠ gb266)); have n8_ := Aside0.mk ((by rw [hg]; exact Nat.ne_of_gt (blk_lt (g := gb251) (o := .cells #[.slice none 0 0] 24 (0, 0)) (by (with_reducible repeat first | apply blk_drewN | apply blk_drew | apply blk_alloc); exact BK251.out)) : gb266 ≠ gb251)); have n9_ := Aside0.mk ((by rw [hg]; exact Nat.ne_of_lt (blk_lt (g := gb256) (o := .cells #[u257000] 24 (0, 0)) (by (with_reducible repeat first | apply blk_drewN | apply blk_drew | apply blk_alloc); exact BK256.out)) : gb256 ≠ gb266)); have n10_ := Aside0.mk ((by rw [hg]; exact Nat.ne_of_gt (blk_lt (g := gb256) (o := .cells #[u257000] 24 (0, 0)) (by (with_reducible repeat first | apply blk_drewN | apply blk_drew | apply blk_alloc); exact BK256.out)) : gb266 ≠ gb256)); clear HO_257000; clear BK251; clear BK256; clear HB; have HO_257000 := n0_; have BK251 := n1_; have BK256 := n2_; have HB := n3_; have BK266 := n4_; have GW266 := n5_; have GE266 := n6_; have NB251_266 := n7_; have NB266_251 := n8_; have NB256_266 := n9_; have NB266_256 := n10_; clear n0_ n1_ n2_ n3_ n4_ n5_ n6_ n7_ n8_ n9_ n10_; clear hb hbox hg; have hnb50 := NB266_251.out; have hnc50 := NB251_266.out; have hnb51 := NB266_256.out; have hnc51 := NB256_266.out; have hcz52_0 : w49.cell? ⟨gb266, 0, none⟩ = some (.int .i64 0) := (blk_cell BK266.out 0).trans rfl; have hcz52_1 : w49.cell? ⟨gb266, 1, none⟩ = some (.int .u32 0) := (blk_cell BK266.out 1).trans rfl; have hfz52_0 := blk_frozen BK266.out 0; have hfz52_1 := blk_frozen BK266.out 1) | ((with_reducible refine gate_store (t := 34) (p := 11) rfl ?_); refine store_event (t := 34) (p := 11) (v := ?vo_w53) (w1 := ((w49.setCell ⟨gb266, 0, none⟩ (.int .i64 t263)).setCell ⟨gb266, 1, none⟩ (.int .u32 t264))) ?hg ?ho ?hn ?hr ?_; (case ho => rfl); (case hg => rfl); (case hn => rfl); (case hr => first | (go_simp; done) | (go_simp; rfl)); intro w53 hw; have n0_ : Aside0 (Kd.R k34 34 w53 w.heap.size (fun k_ => k_ ≠ gb266) u257000 x257000_2) := ⟨(by rw [hw]; exact (by (with_reducible repeat (first | apply Kd.R_alloc | apply Kd.R_drewN | apply Kd.R_drew)); exact Kd.R_mono (Kd.R_far (p := ⟨gb266, 1, none⟩) (Kd.R_far (p := ⟨gb266, 0, none⟩) (Kd.R_mono HO_257000.out (fun k_ hk => (⟨hk, hk.2⟩ : _ ∧ k_ ≠ gb266))) (fun _ hk => hk.2) (.int .i64 t263)) (fun _ hk => hk.2) (.int .u32 t264)) (fun _ hk => hk.1.2)))⟩; have n1_ : Aside0 (w53.heap[gb251]? = some (.cells #[.slice none 0 0] 24 (0, 0))) := ⟨(by rw [hw]; exact (by (with_reducible repeat first | apply blk_drewN | apply blk_drew | apply blk_alloc); refine blk_far ?_ NB251_266.out _; (with_reducible repeat first | apply blk_drewN | apply blk_drew | apply blk_alloc); refine blk_far ?_ NB251_266.out _; (with_reducible repeat first | apply blk_drewN | apply blk_drew | apply blk_alloc); exact BK251.out))⟩; have n2_ : Aside0 (w53.heap[gb256]? = some (.cells #[u257000] 24 (0, 0))) := ⟨(by rw [hw]; exact (by (with_reducible repeat first | apply blk_drewN | apply blk_drew | apply blk_alloc); refine blk_far ?_ NB256_266.out _; (with_reducible repeat first | apply blk_drewN | apply blk_drew | apply blk_alloc); refine blk_far ?_ NB256_266.out _; (with_reducible repeat first | apply blk_drewN | apply blk_drew | apply blk_alloc); exact BK256.out))⟩; have n3_ : Aside0 (w53.heap[gb266]? = some (.cells #[.int .i64 t263, .int .u32 t264] 34 (0, 0))) := ⟨(by rw [hw]; exact (by (with_reducible repeat first | apply blk_drewN | apply blk_drew | apply blk_alloc); refine blk_put (cs := #[.int .i64 t263, .int .u32 0]) ?_ 1 _ rfl; (with_reducible repeat first | apply blk_drewN | apply blk_drew | apply blk_alloc); refine blk_put (cs := #[.int .i64 0, .int .u32 0]) ?_ 0 _ rfl; (with_reducible repeat first | apply blk_drewN | apply blk_drew | apply blk_alloc); exact BK266.out))⟩; have n4_ : Aside0 (Below w.heap.size w w53) := ⟨(by rw [hw]; exact (by repeat (first | (with_reducible first | exact HB.out | apply below_alloc | apply pw_below_drewN | apply below_drew1 | refine below_set ?_ GE251.out | refine below_set ?_ GE256.out | refine below_set ?_ GE266.out) | exact HB.out)))⟩; clear hw; clear HO_257000; clear BK251; clear BK256; clear BK266; clear HB; have HO_257000 := n0_; have BK251 := n1_; have BK256 := n2_; have BK266 := n3_; have HB := n4_; clear n0_ n1_ n2_ n3_ n4_; have hnb54 := NB256_251.out; have hnc54 := NB251_256.out; have hcz55_0 : w53.cell? ⟨gb256, 0, none⟩ = some (u257000) := (blk_cell BK256.out 0).trans rfl; have hfz55_0 := blk_frozen BK256.out 0; have hcz56_0 : w53.cell? ⟨gb266, 0, none⟩ = some (.int .i64 t263) := (blk_cell BK266.out 0).trans rfl; have hcz56_1 : w53.cell? ⟨gb266, 1, none⟩ = some (.int .u32 t264) := (blk_cell BK266.out 1).trans rfl; have hfz56_0 := blk_frozen BK266.out 0; have hfz56_1 := blk_frozen BK266.out 1; have p46 : 0 ≤ ((ji43) : Int) := of_decide_eq_true (by first | (with_reducible assumption) | assumption); have q46 : ((ji43) : Int) < ((x257000_2.length : Int) : Int) := of_decide_eq_true (by first | (with_reducible assumption) | assumption); obtain ⟨go46, co46, eo46, gb46, gl46, cl46, HG46⟩ := Kd.R_form HO_257000.out (by omega); (first | cases eo46 | (injection eo46 with ea_ en_ ec_; (first | subst ea_ | (injection ea_ with ea_; subst ea_)); subst ec_; clear en_)); have GB46 := Aside0.mk gb46; have GG46 := Aside0.mk HG46; clear gb46 gl46 HG46; obtain ⟨ce46, hcl46, hM46, hcc46, hfr46⟩ := Kd.R_elem HO_257000.out z34 ((ji43) : Int) p46 q46; obtain rfl := k34_openM hM46; have hx46_0 : w53.cell? ⟨go46, ((ji43) : Int).toNat * 2, none⟩ = some (.int .i64 ((rd_T34 x257000_2 (ji43)).f0)) := hcc46 0 _ rfl; have hx46_1 : w53.cell? ⟨go46, ((ji43) : Int).toNat * 2 + 1, none⟩ = some (.int .u32 ((rd_T34 x257000_2 (ji43)).f1)) := hcc46 1 _ rfl; have hf46_0 : w53.frozen? ⟨go46, ((ji43) : Int).toNat * 2, none⟩ = false := hfr46 0; have hf46_1 : w53.frozen? ⟨go46, ((ji43) : Int).toNat * 2 + 1, none⟩ = false := hfr46 1; clear hcl46 hcc46 hfr46 hM46; replace p46 := eq_true p46; replace q46 := eq_true q46; have HX57 := Aside0.mk (show Kd.R k34 34 w53 w.heap.size (fun k_ => k_ ≠ gb266) (.slice (some ⟨go46, 0, none⟩) x257000_2.length co46) x257000_2 from (by (with_reducible repeat (first | apply Kd.R_alloc | apply Kd.R_drewN | apply Kd.R_drew)); exact HO_257000.out)); obtain ⟨ce57, hcl57, hM57, hcc57, hfr57⟩ := Kd.R_elem HX57.out z34 ((ji43) : Int) (of_decide_eq_true (by first | (with_reducible assumption) | assumption)) (by have h_ : ((ji43) : Int) < ((x257000_2.length : Int) : Int) := of_decide_eq_true (by first | (with_reducible assumption) | assumption); first | exact h_ | (have e_ := (Kd.R_reads' HO_257000.out).1; omega) | simpa using h_); obtain rfl := k34_openM hM57; have HP57 := Kd.R_seg HX57.out ((ji43) : Int) (of_decide_eq_true (by first | (with_reducible assumption) | assumption)) (by have h_ : ((ji43) : Int) < ((x257000_2.length : Int) : Int) := of_decide_eq_true (by first | (with_reducible assumption) | assumption); first | exact h_ | (have e_ := (Kd.R_reads' HO_257000.out).1; omega) | simpa using h_) (seg := [.int .i64 t263, .int .u32 t264]) (j := 0) hcl57 hcc57 (show 2 ≤ 2 from by decide) (x' := (⟨t263, t264⟩ : S34)) (k34_mkM _ _ _ (⟨t263, t264⟩ : S34) ) (fun _ hk => hk); have hx57_0 := hcc57 0 _ rfl; (try simp only [show (k34).sz = 2 from rfl, Nat.mul_one, Nat.add_zero] at hx57_0); have hf57_0 := hfr57 0; (try simp only [show (k34).sz = 2 from rfl, Nat.mul_one, Nat.add_zero] at hf57_0); have hx57_1 := hcc57 1 _ rfl; (try simp only [show (k34).sz = 2 from rfl, Nat.mul_one, Nat.add_zero] at hx57_1); have hf57_1 := hfr57 1; (try simp only [show (k34).sz = 2 from rfl, Nat.mul_one, Nat.add_zero] at hf57_1); clear hcl57 hcc57 hfr57 hM57) | ((with_reducible refine gate_store (t := 34) (p := 84) rfl ?_); refine store_event (t := 34) (p := 84) (v := ?vo_w58) (w1 := ((w53.setCell ⟨go46, ((ji43) : Int).toNat * 2, none⟩ (.int .i64 t263)).setCell ⟨go46, ((ji43) : Int).toNat * 2 + 1, none⟩ (.int .u32 t264))) ?hg ?ho ?hn ?hr ?_; (case ho => rfl); (case hg => rfl); (case hn => rfl); (case hr => first | (go_simp; done) | (go_simp; rfl)); intro w58 hw; have hg : w53.grownBy w58 (some go46) := (by rw [hw]; exact HP57.2); have hp_ : Kd.R k34 34 w58 w.heap.size (fun k_ => k_ ≠ gb266) (.slice (some ⟨go46, 0, none⟩) x257000_2.length co46) y267 := (by rw [hw, Ny267.out]; exact HP57.1); clear HP57; have n0_ := Aside0.mk (hp_); have n1_ := Aside0.mk (blk_grown (g := gb251) (o := .cells #[.slice none 0 0] 24 (0, 0)) (by (with_reducible repeat first | apply blk_drewN | apply blk_drew | apply blk_alloc); exact BK251.out) hg (Kd.R_ne HO_257000.out BK251.out (by decide))); have n2_ := Aside0.mk (blk_grown (g := gb256) (o := .cells #[.slice (some ⟨go46, 0, none⟩) x257000_2.length co46] 24 (0, 0)) (by (with_reducible repeat first | apply blk_drewN | apply blk_drew | apply blk_alloc); exact BK256.out) hg (Kd.R_ne HO_257000.out BK256.out (by decide))); have n3_ := Aside0.mk (blk_grown (g := gb266) (o := .cells #[.int .i64 t263, .int .u32 t264] 34 (0, 0)) (by (with_reducible repeat first | apply blk_drewN | apply blk_drew | apply blk_alloc); exact BK266.out) hg (Kd.R_away HO_257000.out (fun _ hk => hk))); have n4_ := Aside0.mk ((by rw [hw]; exact below_set (below_set (HB.out) GB46.out) GB46.out : Below w.heap.size w w58)); clear HO_257000; clear BK251; clear BK256; clear BK266; clear HB; have HO_257000 := n0_; have BK251 := n1_; have BK256 := n2_; have BK266 := n3_; have HB := n4_; clear n0_ n1_ n2_ n3_ n4_; clear hg hw hp_))
                    go_roundg k2
                    case measure => have := HK1.out; have := HK2.out; omega
                    case rel => exact ⟨(wrap64 (x9_2 + 1)), (y267), (.slice (some ⟨go46, 0, none⟩) x257000_2.length co46), (by first | rfl | (simp; done) | (simp [*]; done) | (simp [Int.tdiv_eq_ediv_of_nonneg]; done)), H', ⟨by have := HK1.out; have := HK2.out; omega⟩, ⟨by (with_reducible repeat (first | apply Kd.R_alloc | apply Kd.R_drewN | apply Kd.R_drew)); exact Kd.R_mono HO_257000.out (fun _ hk => trivial)⟩, ⟨by (with_reducible repeat first | apply blk_drewN | apply blk_drew | apply blk_alloc); exact BK251.out⟩, ⟨by (with_reducible repeat first | apply blk_drewN | apply blk_drew | apply blk_alloc); exact BK256.out⟩, ⟨by repeat (first | (with_reducible first | exact HB.out | apply below_alloc | apply pw_below_drewN | apply below_drew1 | refine below_set ?_ GE251.out | refine below_set ?_ GE256.out | refine below_set ?_ GE266.out) | exact HB.out)⟩⟩
                   ·rw [if_neg c45] at H
                    exact absurd H (by simp)
                  ·rw [if_neg c44] at H
                   exact absurd H (by simp)
                 ·rw [if_neg c42] at H
                  have c42b0 : (t265 == 0) = false := beq_eq_false_iff_ne.mpr c42
                  have c42b1 : (t265 != 0) = true := bne_iff_ne.mpr c42
                  simp only [Option.some.injEq, Prod.mk.injEq] at H
                  obtain ⟨rfl, rfl⟩ := H
                  have p258 : 0 ≤ (x8_1 : Int) := of_decide_eq_true (by first | (with_reducible assumption) | assumption)
                  have q258 : x8_1 < (l1.length : Int) := of_decide_eq_true (by first | (with_reducible assumption) | assumption)
                  obtain ⟨ad258, A258_0, c258_0, e258, hx258_0, hl258_0, hi258_0⟩ := at_L7 HR1.out x8_1 p258 q258
                  obtain rfl : ad257 = ad258 := (by injection e258)
                  replace hx258_0 := (HB.out.cell (World.block_lt_of_cell? w _ hx258_0)).trans hx258_0
                  have HR258_0 := Aside0.mk hi258_0
                  have HC258_0 := Aside0.mk hl258_0
                  clear hi258_0 hl258_0
                  replace p258 := eq_true p258
                  replace q258 := eq_true q258
                  obtain ⟨i059, hi059, _, hsz59, _⟩ := info_parts info5
                  obtain ⟨A59, hcut59, hA59, hC59⟩ := print_mid_of (P := Try.prog) (Value.int .u8) 0 58 5 .i64 .i64 Try.underlying58 hi059 hsz59 A258_0 c258_0 (rd_L7 l1 x8_1) (ji18) (wrap64 ((ji18) + 8)) (of_decide_eq_true (by first | (with_reducible assumption) | assumption)) (by first | omega | exact of_decide_eq_true (by first | (with_reducible assumption) | assumption)) (of_decide_eq_true (by first | (with_reducible assumption) | assumption)) HC258_0.out
                  have HR259 := Aside0.mk (Kd.C_of_reads (h1 := fun _ => rfl) (hA59 _ (Kd.reads_of_C HR258_0.out)))
                  have HC259 := Aside0.mk hC59
                  clear hA59 hC59 hi059 hsz59
                  go_wp2_with (first | ((with_reducible refine gate_callee (f := 37) rfl ?_); refine goesL_ (some 70) rfl rfl Try.func37 (by kernel_rfl) rfl #[.slice A59 (((rd_L7 l1 x8_1).take ((wrap64 ((ji18) + 8)) : Int).toNat).drop ((ji18) : Int).toNat).length (c258_0 - (ji18).toNat)] rfl (by (try simp only [List.map_toArray, List.map_cons, List.map_nil]); first | done | (rw [show (((rd_L7 l1 x8_1).take ((wrap64 ((ji18) + 8)) : Int).toNat).drop ((ji18) : Int).toNat).length = ((wrap64 ((ji18) + 8)).toNat - (ji18).toNat) from (by rw [List.length_drop, List.length_take]; have h_ : ((wrap64 ((ji18) + 8)) : Int) ≤ ((rd_L7 l1 x8_1).length : Int) := of_decide_eq_true (by first | (with_reducible assumption) | assumption); omega)] <;> rfl) | (simp only [hji18]; rfl) | rfl | (simp only [List.length_drop, List.length_take]; rfl)) ?_; (with_reducible refine (atticref14_Parse.calls k2 _ _ (((rd_L7 l1 x8_1).take ((wrap64 ((ji18) + 8)) : Int).toNat).drop ((ji18) : Int).toNat) t263 t264 t265 _ ?side1 ?side2 A41.out).mono ?_); (case side1 => repeat (first | exact (Kd.C_below HR259.out HB.out) | (with_reducible refine Kd.C_alloc ?_ _) | (with_reducible refine Kd.C_drewN ?_ _) | (with_reducible refine Kd.C_drew ?_))); (case side2 => exact HC259.out); rintro e w60 ⟨rfl, hb⟩; refine ⟨_, rfl, ?_⟩; have n0_ := Aside0.mk (Kd.R_below (by (with_reducible repeat (first | apply Kd.R_alloc | apply Kd.R_drewN | apply Kd.R_drew)); exact HO_257000.out) hb); have n1_ := Aside0.mk (blk_below (g := gb251) (o := .cells #[.slice none 0 0] 24 (0, 0)) (by (with_reducible repeat first | apply blk_drewN | apply blk_drew | apply blk_alloc); exact BK251.out) hb); have n2_ := Aside0.mk (blk_below (g := gb256) (o := .cells #[u257000] 24 (0, 0)) (by (with_reducible repeat first | apply blk_drewN | apply blk_drew | apply blk_alloc); exact BK256.out) hb); have n3_ := Aside0.mk (below_step (by repeat (first | (with_reducible first | exact HB.out | apply below_alloc | apply pw_below_drewN | apply below_drew1 | refine below_set ?_ GE251.out | refine below_set ?_ GE256.out) | exact HB.out)) hb); clear HO_257000; clear BK251; clear BK256; clear HB; have HO_257000 := n0_; have BK251 := n1_; have BK256 := n2_; have HB := n3_; clear n0_ n1_ n2_ n3_; (try clear hb); (try clear hb2); (try clear hk); (try clear hi); (try clear A41)) | ((with_reducible refine gate_dst (N := 11) rfl ?_); refine box_event ?hg (N := 11) ?hd (cs := #[.int .i64 0, .int .u32 0]) (t := 34) ?hr ?_; (case hd => rfl); (case hg => rfl); (case hr => first | (go_simp; done) | (go_simp; rfl)); intro gb266 hg w61 hbox hb; have n0_ := Aside0.mk (Kd.R_below (Kd.R_elderB (by (with_reducible repeat (first | apply Kd.R_alloc | apply Kd.R_drewN | apply Kd.R_drew)); exact HO_257000.out) gb266 (Nat.le_of_eq hg.symm)) hb); have n1_ := Aside0.mk (blk_below (g := gb251) (o := .cells #[.slice none 0 0] 24 (0, 0)) (by (with_reducible repeat first | apply blk_drewN | apply blk_drew | apply blk_alloc); exact BK251.out) hb); have n2_ := Aside0.mk (blk_below (g := gb256) (o := .cells #[u257000] 24 (0, 0)) (by (with_reducible repeat first | apply blk_drewN | apply blk_drew | apply blk_alloc); exact BK256.out) hb); have n3_ := Aside0.mk (below_step (by repeat (first | (with_reducible first | exact HB.out | apply below_alloc | apply pw_below_drewN | apply below_drew1 | refine below_set ?_ GE251.out | refine below_set ?_ GE256.out) | exact HB.out)) hb); have n4_ := Aside0.mk (hbox); have n5_ := Aside0.mk ((by rw [hg]; exact (below_size (by repeat (first | (with_reducible first | exact HB.out | apply below_alloc | apply pw_below_drewN | apply below_drew1 | refine below_set ?_ GE251.out | refine below_set ?_ GE256.out) | exact HB.out))) : w.heap.size ≤ gb266)); have n6_ := Aside0.mk ((by rw [hg]; exact (below_size (by repeat (first | (with_reducible first | exact HB.out | apply below_alloc | apply pw_below_drewN | apply below_drew1 | refine below_set ?_ GE251.out | refine below_set ?_ GE256.out) | exact HB.out))) : w.heap.size ≤ gb266)); have n7_ := Aside0.mk ((by rw [hg]; exact Nat.ne_of_lt (blk_lt (g := gb251) (o := .cells #[.slice none 0 0] 24 (0, 0)) (by (with_reducible repeat first | apply blk_drewN | apply blk_drew | apply blk_alloc); exact BK251.out)) : gb251 ≠ gb266)); have n8_ := Aside0.mk ((by rw [hg]; exact Nat.ne_of_gt (blk_lt (g := gb251) (o := .cells #[.slice none 0 0] 24 (0, 0)) (by (with_reducible repeat first | apply blk_drewN | apply blk_drew | apply blk_alloc); exact BK251.out)) : gb266 ≠ gb251)); have n9_ := Aside0.mk ((by rw [hg]; exact Nat.ne_of_lt (blk_lt (g := gb256) (o := .cells #[u257000] 24 (0, 0)) (by (with_reducible repeat first | apply blk_drewN | apply blk_drew | apply blk_alloc); exact BK256.out)) : gb256 ≠ gb266)); have n10_ := Aside0.mk ((by rw [hg]; exact Nat.ne_of_gt (blk_lt (g := gb256) (o := .cells #[u257000] 24 (0, 0)) (by (with_reducible repeat first | apply blk_drewN | apply blk_drew | apply blk_alloc); exact BK256.out)) : gb266 ≠ gb256)); clear HO_257000; clear BK251; clear BK256; clear HB; have HO_257000 := n0_; have BK251 := n1_; have BK256 := n2_; have HB := n3_; have BK266 := n4_; have GW266 := n5_; have GE266 := n6_; have NB251_266 := n7_; have NB266_251 := n8_; have NB256_266 := n9_; have NB266_256 := n10_; clear n0_ n1_ n2_ n3_ n4_ n5_ n6_ n7_ n8_ n9_ n10_; clear hb hbox hg; have hnb62 := NB266_251.out; have hnc62 := NB251_266.out; have hnb63 := NB266_256.out; have hnc63 := NB256_266.out; have hcz64_0 : w61.cell? ⟨gb266, 0, none⟩ = some (.int .i64 0) := (blk_cell BK266.out 0).trans rfl; have hcz64_1 : w61.cell? ⟨gb266, 1, none⟩ = some (.int .u32 0) := (blk_cell BK266.out 1).trans rfl; have hfz64_0 := blk_frozen BK266.out 0; have hfz64_1 := blk_frozen BK266.out 1; have hnb65 := NB251_256.out; have hnc65 := NB256_251.out; have hcz66_0 : w61.cell? ⟨gb251, 0, none⟩ = some (.slice none 0 0) := (blk_cell BK251.out 0).trans rfl; have hfz66_0 := blk_frozen BK251.out 0))
                  refine bodyPost_ret (results_ct rfl _ _ gb251 24 #[.slice none 0 0] (0, 0) _ rfl (by (with_reducible repeat first | apply blk_drewN | apply blk_drew | apply blk_alloc); refine blk_put (cs := #[.slice none 0 0]) ?_ 0 _ rfl; (with_reducible repeat first | apply blk_drewN | apply blk_drew | apply blk_alloc); refine blk_far ?_ NB251_266.out _; (with_reducible repeat first | apply blk_drewN | apply blk_drew | apply blk_alloc); refine blk_far ?_ NB251_266.out _; (with_reducible repeat first | apply blk_drewN | apply blk_drew | apply blk_alloc); exact BK251.out) Try.underlying24 rfl (by kernel_rfl)) rfl ?_
                  exact ⟨_, by first | rfl | (simp [errW_none, errW_some] <;> rfl) | (simp only [← hji18]; first | rfl | (simp [errW_none, errW_some] <;> rfl)) | (simp [*, errW_none, errW_some] <;> rfl) | (simp [Int.tdiv_eq_ediv_of_nonneg]; done), by first | exact Kd.R_nil _ _ _ _ _ | exact Kd.N_nil _ _ _ _ _ | exact Kd.V_nil _ _ _ _ _ | exact Kd.Q_nil _ _ _ _ _ | exact Kd.S_nil _ _ _ _ _, by repeat (first | (with_reducible first | exact HB.out | apply below_alloc | apply pw_below_drewN | apply below_drew1 | refine below_set ?_ GE251.out | refine below_set ?_ GE256.out | refine below_set ?_ GE266.out) | exact HB.out)⟩
               ·rw [if_neg c21] at H
                exact absurd H (by simp)
              ·rw [if_neg c20] at H
               exact absurd H (by simp)
             ·rw [if_neg c19] at H
              exact absurd H (by simp)
            ·rw [if_neg c17] at H
             exact absurd H (by simp)
           ·rw [if_neg c16] at H
            exact absurd H (by simp)
          ·rw [if_neg c15] at H
           have c15b0 : decide (x9_2 < 32) = false := decide_eq_false c15
           clear c15
           have H' := Aside0.mk H
           clear H
           go_wp2
           go_roundg k2
           case measure => have := HK1.out; have := HK2.out; omega
           case rel => exact ⟨(wrap64 (x8_1 + 1)), (x257000_2), (u257000), (by first | rfl | (simp; done) | (simp [*]; done) | (simp [Int.tdiv_eq_ediv_of_nonneg]; done)), H', ⟨by have := HK1.out; have := HK2.out; omega⟩, ⟨by (with_reducible repeat (first | apply Kd.R_alloc | apply Kd.R_drewN | apply Kd.R_drew)); exact HO_257000.out⟩, ⟨by (with_reducible repeat first | apply blk_drewN | apply blk_drew | apply blk_alloc); exact BK251.out⟩, ⟨by (with_reducible repeat first | apply blk_drewN | apply blk_drew | apply blk_alloc); exact BK256.out⟩, ⟨by repeat (first | (with_reducible first | exact HB.out | apply below_alloc | apply pw_below_drewN | apply below_drew1 | refine below_set ?_ GE251.out | refine below_set ?_ GE256.out) | exact HB.out)⟩⟩
       ·rw [if_neg c14] at H
        have c14b0 : (((rd_L7 l1 x8_1).length : Int) == 256) = false := beq_eq_false_iff_ne.mpr c14
        have c14b1 : (((rd_L7 l1 x8_1).length : Int) != 256) = true := bne_iff_ne.mpr c14
        simp only [Option.some.injEq, Prod.mk.injEq] at H
        obtain ⟨rfl, rfl⟩ := H
        have p257 : 0 ≤ (x8_1 : Int) := of_decide_eq_true (by first | (with_reducible assumption) | assumption)
        have q257 : x8_1 < (l1.length : Int) := of_decide_eq_true (by first | (with_reducible assumption) | assumption)
        obtain ⟨ad257, A257_0, c257_0, e257, hx257_0, hl257_0, hi257_0⟩ := at_L7 HR1.out x8_1 p257 q257
        cases e257
        replace hx257_0 := (HB.out.cell (World.block_lt_of_cell? w _ hx257_0)).trans hx257_0
        have HR257_0 := Aside0.mk hi257_0
        have HC257_0 := Aside0.mk hl257_0
        clear hi257_0 hl257_0
        replace p257 := eq_true p257
        replace q257 := eq_true q257
        have hnb67 := NB251_256.out
        have hnc67 := NB256_251.out
        have hcz68_0 : wr.cell? ⟨gb251, 0, none⟩ = some (.slice none 0 0) := (blk_cell BK251.out 0).trans rfl
        have hfz68_0 := blk_frozen BK251.out 0
        go_wp2
        refine bodyPost_ret (results_ct rfl _ _ gb251 24 #[.slice none 0 0] (0, 0) _ rfl (by (with_reducible repeat first | apply blk_drewN | apply blk_drew | apply blk_alloc); refine blk_put (cs := #[.slice none 0 0]) ?_ 0 _ rfl; (with_reducible repeat first | apply blk_drewN | apply blk_drew | apply blk_alloc); exact BK251.out) Try.underlying24 rfl (by kernel_rfl)) rfl ?_
        exact ⟨_, by first | rfl | (simp [errW_none, errW_some] <;> rfl) | (simp [*, errW_none, errW_some] <;> rfl) | (simp [Int.tdiv_eq_ediv_of_nonneg]; done), by first | exact Kd.R_nil _ _ _ _ _ | exact Kd.N_nil _ _ _ _ _ | exact Kd.V_nil _ _ _ _ _ | exact Kd.Q_nil _ _ _ _ _ | exact Kd.S_nil _ _ _ _ _, by repeat (first | (with_reducible first | exact HB.out | apply below_alloc | apply pw_below_drewN | apply below_drew1 | refine below_set ?_ GE251.out | refine below_set ?_ GE256.out) | exact HB.out)⟩
      ·rw [if_neg c13] at H
       exact absurd H (by simp)
     ·rw [if_neg c12] at H
      have c12b0 : decide (x8_1 < (l1.length : Int)) = false := decide_eq_false c12
      clear c12
      simp only [Option.some.injEq, Prod.mk.injEq] at H
      obtain ⟨rfl, rfl⟩ := H
      have hnb69 := NB256_251.out
      have hnc69 := NB251_256.out
      have hcz70_0 : wr.cell? ⟨gb256, 0, none⟩ = some (u257000) := (blk_cell BK256.out 0).trans rfl
      have hfz70_0 := blk_frozen BK256.out 0
      obtain ⟨Ao71, co71, eo71⟩ := Kd.R_slice HO_257000.out
      subst eo71
      have hcz72_0 : wr.cell? ⟨gb251, 0, none⟩ = some (.slice none 0 0) := (blk_cell BK251.out 0).trans rfl
      have hfz72_0 := blk_frozen BK251.out 0
      go_wp2
      refine bodyPost_ret (results_ct rfl _ _ gb251 24 #[.slice Ao71 x257000_1.length co71] (0, 0) _ rfl (by (with_reducible repeat first | apply blk_drewN | apply blk_drew | apply blk_alloc); refine blk_put (cs := #[.slice none 0 0]) ?_ 0 _ rfl; (with_reducible repeat first | apply blk_drewN | apply blk_drew | apply blk_alloc); exact BK251.out) Try.underlying24 rfl (by kernel_rfl)) rfl ?_
      exact ⟨_, by first | rfl | (simp [errW_none, errW_some] <;> rfl) | (simp [*, errW_none, errW_some] <;> rfl) | (simp [Int.tdiv_eq_ediv_of_nonneg]; done), by (with_reducible repeat (first | apply Kd.R_alloc | apply Kd.R_drewN | apply Kd.R_drew)); exact Kd.R_mono (Kd.R_far (p := ⟨gb251, 0, none⟩) (Kd.R_types HO_257000.out BK251.out (by decide)) (fun _ hk => hk.2) (.slice Ao71 x257000_1.length co71)) (fun _ hk => trivial), by repeat (first | (with_reducible first | exact HB.out | apply below_alloc | apply pw_below_drewN | apply below_drew1 | refine below_set ?_ GE251.out | refine below_set ?_ GE256.out) | exact HB.out)⟩
  ·rw [if_neg c5] at H
   have c5b0 : ((l1.length : Int) == (wrap64 (Int.tdiv (wrap64 (a0 + 31)) 32))) = false := beq_eq_false_iff_ne.mpr c5
   have c5b1 : ((l1.length : Int) != (wrap64 (Int.tdiv (wrap64 (a0 + 31)) 32))) = true := bne_iff_ne.mpr c5
   simp only [Option.some.injEq, Prod.mk.injEq] at H
   obtain ⟨rfl, rfl⟩ := H
   go_enter Try.func41, Try.ntmps41
   go_wp2_with (first | ((with_reducible refine gate_dst (N := 4) rfl ?_); refine box_event ?hg (N := 4) ?hd (cs := #[.slice none 0 0]) (t := 24) ?hr ?_; (case hd => rfl); (case hg => rfl); (case hr => first | (go_simp; done) | (go_simp; rfl)); intro gb251 hg w73 hbox hb; have n0_ := Aside0.mk (below_step (by repeat (first | (with_reducible first | exact HB.out | apply below_alloc | apply pw_below_drewN | apply below_drew1) | exact HB.out)) hb); have n1_ := Aside0.mk (hbox); have n2_ := Aside0.mk ((by rw [hg]; exact (below_size (by repeat (first | (with_reducible first | exact HB.out | apply below_alloc | apply pw_below_drewN | apply below_drew1) | exact HB.out))) : w.heap.size ≤ gb251)); have n3_ := Aside0.mk ((by rw [hg]; exact (below_size (by repeat (first | (with_reducible first | exact HB.out | apply below_alloc | apply pw_below_drewN | apply below_drew1) | exact HB.out))) : w.heap.size ≤ gb251)); clear HB; have HB := n0_; have BK251 := n1_; have GW251 := n2_; have GE251 := n3_; clear n0_ n1_ n2_ n3_; clear hb hbox hg) | ((with_reducible refine gate_callee (f := 26) rfl ?_); refine goesL_ (some 15) rfl rfl Try.func26 (by kernel_rfl) rfl #[.int .i64 a0] rfl (by (try simp only [List.map_toArray, List.map_cons, List.map_nil]); first | done | rfl | (simp only [List.length_drop, List.length_take]; rfl)) ?_; (with_reducible refine (atticref14_New.calls k a0 t252 t255 _ A3.out).mono ?_); rintro e w74 ⟨v253, rfl, ho0, hb⟩; refine ⟨_, rfl, ?_⟩; have n0_ := Aside0.mk (Kd.R_lower ho0 (below_size (by repeat (first | (with_reducible first | exact HB.out | apply below_alloc | apply pw_below_drewN | apply below_drew1 | refine below_set ?_ GE251.out) | exact HB.out)))); have n1_ := Aside0.mk (blk_below (g := gb251) (o := .cells #[.slice none 0 0] 24 (0, 0)) (by (with_reducible repeat first | apply blk_drewN | apply blk_drew | apply blk_alloc); exact BK251.out) hb); have n2_ := Aside0.mk (below_step (by repeat (first | (with_reducible first | exact HB.out | apply below_alloc | apply pw_below_drewN | apply below_drew1 | refine below_set ?_ GE251.out) | exact HB.out)) hb); clear BK251; clear HB; have HO254 := n0_; have BK251 := n1_; have HB := n2_; clear n0_ n1_ n2_; (try clear hb); (try clear hb2); (try clear hk); (try clear hi); (try clear ho0); (try clear A3)) | ((with_reducible refine gate_dst (N := 6) rfl ?_); refine box_event ?hg (N := 6) ?hd (cs := #[.slice none 0 0]) (t := 24) ?hr ?_; (case hd => rfl); (case hg => rfl); (case hr => first | (go_simp; done) | (go_simp; rfl)); intro gb256 hg w75 hbox hb; have n0_ := Aside0.mk (Kd.R_below (by (with_reducible repeat (first | apply Kd.R_alloc | apply Kd.R_drewN | apply Kd.R_drew)); exact HO254.out) hb); have n1_ := Aside0.mk (blk_below (g := gb251) (o := .cells #[.slice none 0 0] 24 (0, 0)) (by (with_reducible repeat first | apply blk_drewN | apply blk_drew | apply blk_alloc); exact BK251.out) hb); have n2_ := Aside0.mk (below_step (by repeat (first | (with_reducible first | exact HB.out | apply below_alloc | apply pw_below_drewN | apply below_drew1 | refine below_set ?_ GE251.out) | exact HB.out)) hb); have n3_ := Aside0.mk (hbox); have n4_ := Aside0.mk ((by rw [hg]; exact (below_size (by repeat (first | (with_reducible first | exact HB.out | apply below_alloc | apply pw_below_drewN | apply below_drew1 | refine below_set ?_ GE251.out) | exact HB.out))) : w.heap.size ≤ gb256)); have n5_ := Aside0.mk ((by rw [hg]; exact (below_size (by repeat (first | (with_reducible first | exact HB.out | apply below_alloc | apply pw_below_drewN | apply below_drew1 | refine below_set ?_ GE251.out) | exact HB.out))) : w.heap.size ≤ gb256)); have n6_ := Aside0.mk ((by rw [hg]; exact Nat.ne_of_lt (blk_lt (g := gb251) (o := .cells #[.slice none 0 0] 24 (0, 0)) (by (with_reducible repeat first | apply blk_drewN | apply blk_drew | apply blk_alloc); exact BK251.out)) : gb251 ≠ gb256)); have n7_ := Aside0.mk ((by rw [hg]; exact Nat.ne_of_gt (blk_lt (g := gb251) (o := .cells #[.slice none 0 0] 24 (0, 0)) (by (with_reducible repeat first | apply blk_drewN | apply blk_drew | apply blk_alloc); exact BK251.out)) : gb256 ≠ gb251)); clear HO254; clear BK251; clear HB; have HO254 := n0_; have BK251 := n1_; have HB := n2_; have BK256 := n3_; have GW256 := n4_; have GE256 := n5_; have NB251_256 := n6_; have NB256_251 := n7_; clear n0_ n1_ n2_ n3_ n4_ n5_ n6_ n7_; clear hb hbox hg; obtain ⟨Ao76, co76, eo76⟩ := Kd.R_slice HO254.out; subst eo76; have hnb77 := NB256_251.out; have hnc77 := NB251_256.out; have hcz78_0 : w75.cell? ⟨gb256, 0, none⟩ = some (.slice none 0 0) := (blk_cell BK256.out 0).trans rfl; have hfz78_0 := blk_frozen BK256.out 0; have hcz79_0 : w75.cell? ⟨gb251, 0, none⟩ = some (.slice none 0 0) := (blk_cell BK251.out 0).trans rfl; have hfz79_0 := blk_frozen BK251.out 0))
   refine bodyPost_ret (results_ct rfl _ _ gb251 24 #[.slice none 0 0] (0, 0) _ rfl (by (with_reducible repeat first | apply blk_drewN | apply blk_drew | apply blk_alloc); refine blk_put (cs := #[.slice none 0 0]) ?_ 0 _ rfl; (with_reducible repeat first | apply blk_drewN | apply blk_drew | apply blk_alloc); refine blk_far ?_ NB251_256.out _; (with_reducible repeat first | apply blk_drewN | apply blk_drew | apply blk_alloc); exact BK251.out) Try.underlying24 rfl (by kernel_rfl)) rfl ?_
   exact ⟨_, by first | rfl | (simp [errW_none, errW_some] <;> rfl) | (simp [*, errW_none, errW_some] <;> rfl) | (simp [Int.tdiv_eq_ediv_of_nonneg]; done), by first | exact Kd.R_nil _ _ _ _ _ | exact Kd.N_nil _ _ _ _ _ | exact Kd.V_nil _ _ _ _ _ | exact Kd.Q_nil _ _ _ _ _ | exact Kd.S_nil _ _ _ _ _, by repeat (first | (with_reducible first | exact HB.out | apply below_alloc | apply pw_below_drewN | apply below_drew1 | refine below_set ?_ GE251.out | refine below_set ?_ GE256.out) | exact HB.out)⟩
 ·rw [if_neg c4] at H
  have c4b0 : (t255 == 0) = false := beq_eq_false_iff_ne.mpr c4
  have c4b1 : (t255 != 0) = true := bne_iff_ne.mpr c4
  simp only [Option.some.injEq, Prod.mk.injEq] at H
  obtain ⟨rfl, rfl⟩ := H
  go_enter Try.func41, Try.ntmps41
  go_wp2_with (first | ((with_reducible refine gate_dst (N := 4) rfl ?_); refine box_event ?hg (N := 4) ?hd (cs := #[.slice none 0 0]) (t := 24) ?hr ?_; (case hd => rfl); (case hg => rfl); (case hr => first | (go_simp; done) | (go_simp; rfl)); intro gb251 hg w80 hbox hb; have n0_ := Aside0.mk (below_step (by repeat (first | (with_reducible first | exact HB.out | apply below_alloc | apply pw_below_drewN | apply below_drew1) | exact HB.out)) hb); have n1_ := Aside0.mk (hbox); have n2_ := Aside0.mk ((by rw [hg]; exact (below_size (by repeat (first | (with_reducible first | exact HB.out | apply below_alloc | apply pw_below_drewN | apply below_drew1) | exact HB.out))) : w.heap.size ≤ gb251)); have n3_ := Aside0.mk ((by rw [hg]; exact (below_size (by repeat (first | (with_reducible first | exact HB.out | apply below_alloc | apply pw_below_drewN | apply below_drew1) | exact HB.out))) : w.heap.size ≤ gb251)); clear HB; have HB := n0_; have BK251 := n1_; have GW251 := n2_; have GE251 := n3_; clear n0_ n1_ n2_ n3_; clear hb hbox hg) | ((with_reducible refine gate_callee (f := 26) rfl ?_); refine goesL_ (some 15) rfl rfl Try.func26 (by kernel_rfl) rfl #[.int .i64 a0] rfl (by (try simp only [List.map_toArray, List.map_cons, List.map_nil]); first | done | rfl | (simp only [List.length_drop, List.length_take]; rfl)) ?_; (with_reducible refine (atticref14_New.calls k a0 t252 t255 _ A3.out).mono ?_); rintro e w81 ⟨v253, rfl, ho0, hb⟩; refine ⟨_, rfl, ?_⟩; have n0_ := Aside0.mk (Kd.R_lower ho0 (below_size (by repeat (first | (with_reducible first | exact HB.out | apply below_alloc | apply pw_below_drewN | apply below_drew1 | refine below_set ?_ GE251.out) | exact HB.out)))); have n1_ := Aside0.mk (blk_below (g := gb251) (o := .cells #[.slice none 0 0] 24 (0, 0)) (by (with_reducible repeat first | apply blk_drewN | apply blk_drew | apply blk_alloc); exact BK251.out) hb); have n2_ := Aside0.mk (below_step (by repeat (first | (with_reducible first | exact HB.out | apply below_alloc | apply pw_below_drewN | apply below_drew1 | refine below_set ?_ GE251.out) | exact HB.out)) hb); clear BK251; clear HB; have HO254 := n0_; have BK251 := n1_; have HB := n2_; clear n0_ n1_ n2_; (try clear hb); (try clear hb2); (try clear hk); (try clear hi); (try clear ho0); (try clear A3)) | ((with_reducible refine gate_dst (N := 6) rfl ?_); refine box_event ?hg (N := 6) ?hd (cs := #[.slice none 0 0]) (t := 24) ?hr ?_; (case hd => rfl); (case hg => rfl); (case hr => first | (go_simp; done) | (go_simp; rfl)); intro gb256 hg w82 hbox hb; have n0_ := Aside0.mk (Kd.R_below (by (with_reducible repeat (first | apply Kd.R_alloc | apply Kd.R_drewN | apply Kd.R_drew)); exact HO254.out) hb); have n1_ := Aside0.mk (blk_below (g := gb251) (o := .cells #[.slice none 0 0] 24 (0, 0)) (by (with_reducible repeat first | apply blk_drewN | apply blk_drew | apply blk_alloc); exact BK251.out) hb); have n2_ := Aside0.mk (below_step (by repeat (first | (with_reducible first | exact HB.out | apply below_alloc | apply pw_below_drewN | apply below_drew1 | refine below_set ?_ GE251.out) | exact HB.out)) hb); have n3_ := Aside0.mk (hbox); have n4_ := Aside0.mk ((by rw [hg]; exact (below_size (by repeat (first | (with_reducible first | exact HB.out | apply below_alloc | apply pw_below_drewN | apply below_drew1 | refine below_set ?_ GE251.out) | exact HB.out))) : w.heap.size ≤ gb256)); have n5_ := Aside0.mk ((by rw [hg]; exact (below_size (by repeat (first | (with_reducible first | exact HB.out | apply below_alloc | apply pw_below_drewN | apply below_drew1 | refine below_set ?_ GE251.out) | exact HB.out))) : w.heap.size ≤ gb256)); have n6_ := Aside0.mk ((by rw [hg]; exact Nat.ne_of_lt (blk_lt (g := gb251) (o := .cells #[.slice none 0 0] 24 (0, 0)) (by (with_reducible repeat first | apply blk_drewN | apply blk_drew | apply blk_alloc); exact BK251.out)) : gb251 ≠ gb256)); have n7_ := Aside0.mk ((by rw [hg]; exact Nat.ne_of_gt (blk_lt (g := gb251) (o := .cells #[.slice none 0 0] 24 (0, 0)) (by (with_reducible repeat first | apply blk_drewN | apply blk_drew | apply blk_alloc); exact BK251.out)) : gb256 ≠ gb251)); clear HO254; clear BK251; clear HB; have HO254 := n0_; have BK251 := n1_; have HB := n2_; have BK256 := n3_; have GW256 := n4_; have GE256 := n5_; have NB251_256 := n6_; have NB256_251 := n7_; clear n0_ n1_ n2_ n3_ n4_ n5_ n6_ n7_; clear hb hbox hg; obtain ⟨Ao83, co83, eo83⟩ := Kd.R_slice HO254.out; subst eo83; have hnb84 := NB256_251.out; have hnc84 := NB251_256.out; have hcz85_0 : w82.cell? ⟨gb256, 0, none⟩ = some (.slice none 0 0) := (blk_cell BK256.out 0).trans rfl; have hfz85_0 := blk_frozen BK256.out 0; have hcz86_0 : w82.cell? ⟨gb251, 0, none⟩ = some (.slice none 0 0) := (blk_cell BK251.out 0).trans rfl; have hfz86_0 := blk_frozen BK251.out 0))
  refine bodyPost_ret (results_ct rfl _ _ gb251 24 #[.slice none 0 0] (0, 0) _ rfl (by (with_reducible repeat first | apply blk_drewN | apply blk_drew | apply blk_alloc); refine blk_put (cs := #[.slice none 0 0]) ?_ 0 _ rfl; (with_reducible repeat first | apply blk_drewN | apply blk_drew | apply blk_alloc); refine blk_far ?_ NB251_256.out _; (with_reducible repeat first | apply blk_drewN | apply blk_drew | apply blk_alloc); exact BK251.out) Try.underlying24 rfl (by kernel_rfl)) rfl ?_
  exact ⟨_, by first | rfl | (simp [errW_none, errW_some] <;> rfl) | (simp [*, errW_none, errW_some] <;> rfl) | (simp [Int.tdiv_eq_ediv_of_nonneg]; done), by first | exact Kd.R_nil _ _ _ _ _ | exact Kd.N_nil _ _ _ _ _ | exact Kd.V_nil _ _ _ _ _ | exact Kd.Q_nil _ _ _ _ _ | exact Kd.S_nil _ _ _ _ _, by repeat (first | (with_reducible first | exact HB.out | apply below_alloc | apply pw_below_drewN | apply below_drew1 | refine below_set ?_ GE251.out | refine below_set ?_ GE256.out) | exact HB.out)⟩

end Go.Proofs.Ytdjajecgojndfaa.Print
