-- Written by a program of this session (wip/xprint.py, by way of the print): Lean functions and proofs that the Go functions come to them.
import Derived.Test.YtdjajecgojndfaaPrint0
import Derived.Test.YtdjajecgojndfaaPrint1
import Derived.Test.YtdjajecgojndfaaPrint2
namespace Go.Proofs.Ytdjajecgojndfaa.Print
open Go.RowKit Go.Proofs.YtdjajecgojndfaaW.PrintWords Go.Proofs.YtdjajecgojndfaaW.PrintLast Go.Proofs.YtdjajecgojndfaaW.PrintMore
attribute [local go_sem] max2_int min2_int max_two min_two max_three min_three max_four min_four   -- for this text's walks alone
set_option linter.unusedVariables false
set_option linter.unusedSimpArgs false

attribute [local go_sem high] eqA34 eqA41
/-! ### table_row: function 45 -/
def table_row.f (a0_0 : Int) (a0_1 : Int) : Option (List Int) := some (([(a0_1) % 256, (a0_1 / 256) % 256, (a0_1 / 65536) % 256, (a0_1 / 16777216) % 256] : List Int))
set_option maxHeartbeats 8000000 in
set_option maxRecDepth 100000 in
theorem table_row.calls (a0_0 : Int) (a0_1 : Int) (r : List Int) (w : World) (h : table_row.f a0_0 a0_1 = some r) :
  Calls Try.prog 45 #[.agg #[.int .i64 a0_0, .int .u32 a0_1]] w fun e w' => ∃ v0_ : Value, e = .returned (v0_) ∧ Kd.R (Kd.int .u8) 5 w' w.heap.size (fun _ => True) v0_ r ∧ Below w.heap.size w w' := by
 have hu34 := Try.underlying34
 have HB := Aside0.mk (Below.refl w.heap.size w)
 have H : (some (([(a0_1) % 256, (a0_1 / 256) % 256, (a0_1 / 65536) % 256, (a0_1 / 16777216) % 256] : List Int))) = some r := h
 clear h
 obtain ⟨y102, hy102⟩ : ∃ y_ : List Int, y_ = (([(a0_1) % 256, (a0_1 / 256) % 256, (a0_1 / 65536) % 256, (a0_1 / 16777216) % 256] : List Int)) := ⟨_, rfl⟩
 replace H : (some y102) = some r := by first | (rw [hy102]; with_reducible exact H) | (have H2_ := (Option.bind_some _ _).symm.trans H; rw [hy102]; with_reducible exact H2_) | (have H2_ := (Option.bind_some _ _).symm.trans H; with_reducible exact H2_) | with_reducible exact H | (rw [hy102]; exact H) | exact H
 have Ny102 := Aside0.mk hy102
 clear hy102
 obtain rfl := Option.some.inj H
 go_enter Try.func45, Try.ntmps45
 go_wp2_with (first | ((with_reducible refine gate_dst (N := 1) rfl ?_); refine box_event ?hg (N := 1) ?hd (cs := #[.int .i64 a0_0, .int .u32 a0_1]) (t := 34) ?hr ?_; (case hd => rfl); (case hg => rfl); (case hr => first | (go_simp; done) | (go_simp; rfl)); intro gb101 hg w2 hbox hb; have n0_ := Aside0.mk (below_step (by repeat (first | (with_reducible first | exact HB.out | apply below_alloc | apply pw_below_drewN | apply below_drew1) | exact HB.out)) hb); have n1_ := Aside0.mk (hbox); have n2_ := Aside0.mk ((by rw [hg]; exact (below_size (by repeat (first | (with_reducible first | exact HB.out | apply below_alloc | apply pw_below_drewN | apply below_drew1) | exact HB.out))) : w.heap.size ≤ gb101)); have n3_ := Aside0.mk ((by rw [hg]; exact (below_size (by repeat (first | (with_reducible first | exact HB.out | apply below_alloc | apply pw_below_drewN | apply below_drew1) | exact HB.out))) : w.heap.size ≤ gb101)); clear HB; have HB := n0_; have BK101 := n1_; have GW101 := n2_; have GE101 := n3_; clear n0_ n1_ n2_ n3_; clear hb hbox hg; have hcz3_0 : w2.cell? ⟨gb101, 0, none⟩ = some (.int .i64 a0_0) := (blk_cell BK101.out 0).trans rfl; have hcz3_1 : w2.cell? ⟨gb101, 1, none⟩ = some (.int .u32 a0_1) := (blk_cell BK101.out 1).trans rfl; have hfz3_0 := blk_frozen BK101.out 0; have hfz3_1 := blk_frozen BK101.out 1) | ((with_reducible refine gate_dst (N := 18) rfl ?_); refine Kd.R_lit (Kd.int .u8) _ 5 ?hg (N := 18) ?hd (xs := ([(a0_1) % 256, (a0_1 / 256) % 256, (a0_1 / 65536) % 256, (a0_1 / 16777216) % 256] : List Int)) (inner := [.int .u8 ((a0_1) % 256), .int .u8 ((a0_1 / 256) % 256), .int .u8 ((a0_1 / 65536) % 256), .int .u8 ((a0_1 / 16777216) % 256)]) (ok := fun _ => True) (okp := fun _ => True) ?hr ?hp (fun _ hk => hk) trivial (Below.refl _ _) (Nat.le_refl _) (by simp) ?_; (case hd => rfl); (case hg => rfl); (case hr => first | (go_simp; done) | (go_simp; rfl)); (case hp => exact (Reps.one (show Kd.M (Kd.int .u8) _ _ _ ((a0_1) % 256) [.int .u8 ((a0_1) % 256)] from rfl) (Reps.one (show Kd.M (Kd.int .u8) _ _ _ ((a0_1 / 256) % 256) [.int .u8 ((a0_1 / 256) % 256)] from rfl) (Reps.one (show Kd.M (Kd.int .u8) _ _ _ ((a0_1 / 65536) % 256) [.int .u8 ((a0_1 / 65536) % 256)] from rfl) (Reps.one (show Kd.M (Kd.int .u8) _ _ _ ((a0_1 / 16777216) % 256) [.int .u8 ((a0_1 / 16777216) % 256)] from rfl) (Reps.none _ _)))))); intro v103 w4 ho5 hb hg_ hnew_; clear hg_ hnew_; (first | rw [← Ny102.out] at ho5 | (simp only [Int.reduceToNat] at ho5; rw [← Ny102.out] at ho5)); have n0_ := Aside0.mk (Kd.R_lower ho5 (below_size (by repeat (first | (with_reducible first | exact HB.out | apply below_alloc | apply pw_below_drewN | apply below_drew1 | refine below_set ?_ GE101.out) | exact HB.out)))); have n1_ := Aside0.mk (blk_below (g := gb101) (o := .cells #[.int .i64 a0_0, .int .u32 a0_1] 34 (0, 0)) (by (with_reducible repeat first | apply blk_drewN | apply blk_drew | apply blk_alloc); exact BK101.out) hb); have n2_ := Aside0.mk (below_step (by repeat (first | (with_reducible first | exact HB.out | apply below_alloc | apply pw_below_drewN | apply below_drew1 | refine below_set ?_ GE101.out) | exact HB.out)) hb); clear BK101; clear HB; have HO104 := n0_; have BK101 := n1_; have HB := n2_; clear n0_ n1_ n2_; clear hb ho5))
 go_ret
 exact ⟨_, by first | rfl | (simp [errW_none, errW_some] <;> rfl) | (simp [*, errW_none, errW_some] <;> rfl) | (simp [Int.tdiv_eq_ediv_of_nonneg]; done), by (with_reducible repeat (first | apply Kd.R_alloc | apply Kd.R_drewN | apply Kd.R_drew)); exact HO104.out, by repeat (first | (with_reducible first | exact HB.out | apply below_alloc | apply pw_below_drewN | apply below_drew1 | refine below_set ?_ GE101.out) | exact HB.out)⟩

/-! ### geom_within: function 66 -/
def geom_within.f (a0 : Int) (a1 : Int) (a2 : Int) : Option (Bool) := if a0 ≥ a1 then (some (decide (a0 ≤ a2))) else (some false)
set_option maxHeartbeats 8000000 in
set_option maxRecDepth 100000 in
theorem geom_within.calls (a0 : Int) (a1 : Int) (a2 : Int) (r : Bool) (w : World) (h : geom_within.f a0 a1 a2 = some r) :
  Calls Try.prog 66 #[.int .i64 a0, .int .i64 a1, .int .i64 a2] w fun e w' => e = .returned (.bool r) ∧ Drawn0 w w' := by
 have H : (if a0 ≥ a1 then (some (decide (a0 ≤ a2))) else (some false)) = some r := h
 clear h
 by_cases c4 : a0 ≥ a1
 ·rw [if_pos c4] at H
  have c4b0 : decide (a1 ≤ a0) = true := decide_eq_true c4
  clear c4
  obtain rfl := Option.some.inj H
  go_enter Try.func66, Try.ntmps66
  go_wp2
  go_ret
  exact ⟨by first | rfl | (simp; done) | (simp [*]; done) | (simp [Int.tdiv_eq_ediv_of_nonneg]; done), by repeat (first | exact Drawn0.refl _ | apply Drawn0.step)⟩
 ·rw [if_neg c4] at H
  have c4b0 : decide (a1 ≤ a0) = false := decide_eq_false c4
  clear c4
  obtain rfl := Option.some.inj H
  go_enter Try.func66, Try.ntmps66
  go_wp2
  go_ret
  exact ⟨by first | rfl | (simp; done) | (simp [*]; done) | (simp [Int.tdiv_eq_ediv_of_nonneg]; done), by repeat (first | exact Drawn0.refl _ | apply Drawn0.step)⟩

/-! ### geom_SlotBytes: function 61 -/
def geom_SlotBytes.f (a0 : Int) : Option (Int) := (geom_within.f a0 0 5).bind fun t105 => (if t105 = true then (if 0 ≤ a0 then (some (shl .i64 32 a0)) else (none)) else (some 0))
set_option maxHeartbeats 8000000 in
set_option maxRecDepth 100000 in
theorem geom_SlotBytes.calls (a0 : Int) (r : Int) (w : World) (h : geom_SlotBytes.f a0 = some r) :
  Calls Try.prog 61 #[.int .i64 a0] w fun e w' => e = .returned (.int .i64 r) ∧ Drawn0 w w' := by
 have H : ((geom_within.f a0 0 5).bind fun t105 => (if t105 = true then (if 0 ≤ a0 then (some (shl .i64 32 a0)) else (none)) else (some 0))) = some r := h
 clear h
 replace H := Option.bind_eq_some_iff.mp H
 obtain ⟨t105, A20, H⟩ := H
 replace H : (if t105 = true then (if 0 ≤ a0 then (some (shl .i64 32 a0)) else (none)) else (some 0)) = some r := H
 have A2 := Aside0.mk A20
 clear A20
 by_cases c3 : t105 = true
 ·subst c3
  have H1 : (if 0 ≤ a0 then (some (shl .i64 32 a0)) else (none)) = some r := by rw [if_pos rfl] at H; exact H
  clear H
  have H := H1
  clear H1
  by_cases c4 : 0 ≤ a0
  ·rw [if_pos c4] at H
   have c4b0 := eq_true c4
   have c4b1 : decide (0 ≤ a0) = true := decide_eq_true c4
   clear c4
   obtain ⟨ji5, hji5⟩ : ∃ j_ : Int, (shl .i64 32 a0) = j_ := ⟨_, rfl⟩
   replace H : (some ji5) = some r := by first | (rw [hji5] at H; exact H) | (simp only [hji5] at H ⊢; exact H)
   (try rw [hji5] at A2)
   have hji5_ : (IntKind.i64.wrap (32 * 2 ^ min a0.toNat 64)) = ji5 := hji5
   have hji5z : a0 ≤ 64 → (IntKind.i64.wrap (32 * 2 ^ a0.toNat)) = ji5 := shl_small hji5
   have hji5y : (wrap64 (32 * 2 ^ min a0.toNat 64)) = ji5 := (i64_w _).symm.trans hji5_
   have hji5x : a0 ≤ 64 → (wrap64 (32 * 2 ^ a0.toNat)) = ji5 := fun h_ => (i64_w _).symm.trans (hji5z h_)
   obtain rfl := Option.some.inj H
   go_enter Try.func61, Try.ntmps61
   go_wp2_with (first | ((with_reducible refine gate_callee (f := 66) rfl ?_); refine goesL_ (some 4) rfl rfl Try.func66 (by kernel_rfl) rfl #[.int .i64 a0, .int .i64 0, .int .i64 5] rfl (by (try simp only [List.map_toArray, List.map_cons, List.map_nil]); first | done | rfl | (simp only [List.length_drop, List.length_take]; rfl)) ?_; (with_reducible refine (geom_within.calls a0 0 5 true _ A2.out).mono ?_); rintro e w' ⟨rfl, ⟨nd, rfl⟩⟩; refine ⟨_, rfl, ?_⟩))
   go_ret
   exact ⟨by first | rfl | (simp; done) | (simp only [← hji5] <;> (first | rfl | simp)) | (simp [*]; done) | (simp [Int.tdiv_eq_ediv_of_nonneg]; done), by repeat (first | exact Drawn0.refl _ | apply Drawn0.step)⟩
  ·rw [if_neg c4] at H
   exact absurd H (by simp)
 ·replace c3 := Bool.eq_false_iff.mpr c3
  subst c3
  have H1 : (some 0) = some r := by rw [if_neg (show ¬ (false = true) by decide)] at H; exact H
  clear H
  have H := H1
  clear H1
  obtain rfl := Option.some.inj H
  go_enter Try.func61, Try.ntmps61
  go_wp2_with (first | ((with_reducible refine gate_callee (f := 66) rfl ?_); refine goesL_ (some 4) rfl rfl Try.func66 (by kernel_rfl) rfl #[.int .i64 a0, .int .i64 0, .int .i64 5] rfl (by (try simp only [List.map_toArray, List.map_cons, List.map_nil]); first | done | rfl | (simp only [List.length_drop, List.length_take]; rfl)) ?_; (with_reducible refine (geom_within.calls a0 0 5 false _ A2.out).mono ?_); rintro e w' ⟨rfl, ⟨nd, rfl⟩⟩; refine ⟨_, rfl, ?_⟩))
  go_ret
  exact ⟨by first | rfl | (simp; done) | (simp [*]; done) | (simp [Int.tdiv_eq_ediv_of_nonneg]; done), by repeat (first | exact Drawn0.refl _ | apply Drawn0.step)⟩

/-! ### geom_Slots: function 46 -/
def geom_Slots.f (a0 : Int) : Option (Int) := (geom_SlotBytes.f a0).bind fun t106 => (if t106 > 0 then (if t106 = 0 then (none) else (some (wrap64 ((1024 : Int) / t106)))) else (some 0))
set_option maxHeartbeats 8000000 in
set_option maxRecDepth 100000 in
theorem geom_Slots.calls (a0 : Int) (r : Int) (w : World) (h : geom_Slots.f a0 = some r) :
  Calls Try.prog 46 #[.int .i64 a0] w fun e w' => e = .returned (.int .i64 r) ∧ Drawn0 w w' := by
 have H : ((geom_SlotBytes.f a0).bind fun t106 => (if t106 > 0 then (if t106 = 0 then (none) else (some (wrap64 ((1024 : Int) / t106)))) else (some 0))) = some r := h
 clear h
 replace H := Option.bind_eq_some_iff.mp H
 obtain ⟨t106, A20, H⟩ := H
 replace H : (if t106 > 0 then (if t106 = 0 then (none) else (some (wrap64 ((1024 : Int) / t106)))) else (some 0)) = some r := H
 have A2 := Aside0.mk A20
 clear A20
 by_cases c3 : t106 > 0
 ·rw [if_pos c3] at H
  have c3b0 : decide (0 < t106) = true := decide_eq_true c3
  clear c3
  by_cases c4 : t106 = 0
  ·rw [if_pos c4] at H
   exact absurd H (by simp)
  ·rw [if_neg c4] at H
   have c4b0 : (t106 == 0) = false := beq_eq_false_iff_ne.mpr c4
   have c4b1 : (t106 != 0) = true := bne_iff_ne.mpr c4
   obtain rfl := Option.some.inj H
   go_enter Try.func46, Try.ntmps46
   go_wp2_with (first | ((with_reducible refine gate_callee (f := 61) rfl ?_); refine goesL_ (some 5) rfl rfl Try.func61 (by kernel_rfl) rfl #[.int .i64 a0] rfl (by (try simp only [List.map_toArray, List.map_cons, List.map_nil]); first | done | rfl | (simp only [List.length_drop, List.length_take]; rfl)) ?_; (with_reducible refine (geom_SlotBytes.calls a0 t106 _ A2.out).mono ?_); rintro e w' ⟨rfl, ⟨nd, rfl⟩⟩; refine ⟨_, rfl, ?_⟩))
   go_ret
   exact ⟨by first | rfl | (simp; done) | (simp [*]; done) | (simp [Int.tdiv_eq_ediv_of_nonneg]; done), by repeat (first | exact Drawn0.refl _ | apply Drawn0.step)⟩
 ·rw [if_neg c3] at H
  have c3b0 : decide (0 < t106) = false := decide_eq_false c3
  clear c3
  obtain rfl := Option.some.inj H
  go_enter Try.func46, Try.ntmps46
  go_wp2_with (first | ((with_reducible refine gate_callee (f := 61) rfl ?_); refine goesL_ (some 5) rfl rfl Try.func61 (by kernel_rfl) rfl #[.int .i64 a0] rfl (by (try simp only [List.map_toArray, List.map_cons, List.map_nil]); first | done | rfl | (simp only [List.length_drop, List.length_take]; rfl)) ?_; (with_reducible refine (geom_SlotBytes.calls a0 t106 _ A2.out).mono ?_); rintro e w' ⟨rfl, ⟨nd, rfl⟩⟩; refine ⟨_, rfl, ?_⟩))
  go_ret
  exact ⟨by first | rfl | (simp; done) | (simp [*]; done) | (simp [Int.tdiv_eq_ediv_of_nonneg]; done), by repeat (first | exact Drawn0.refl _ | apply Drawn0.step)⟩

/-! ### bits_there: function 60 -/
def bits_there.f (l0 : List Int) (a1 : Int) : Option (Bool) := if a1 ≥ 0 then (some (decide ((wrap64 (Int.tdiv a1 8)) < (l0.length : Int)))) else (some false)
set_option maxHeartbeats 8000000 in
set_option maxRecDepth 100000 in
theorem bits_there.calls (A0 : Option Addr) (c0 : Nat) (l0 : List Int) (a1 : Int) (r : Bool) (w : World) (hr0 : Kd.C (Kd.int .u8) w A0 l0.length l0) (hc0 : l0.length ≤ c0) (h : bits_there.f l0 a1 = some r) :
  Calls Try.prog 60 #[.slice A0 l0.length c0, .int .i64 a1] w fun e w' => e = .returned (.bool r) ∧ Drawn0 w w' := by
 have HR0 := Aside0.mk hr0
 have HC0 := Aside0.mk hc0
 clear hr0 hc0
 have H : (if a1 ≥ 0 then (some (decide ((wrap64 (Int.tdiv a1 8)) < (l0.length : Int)))) else (some false)) = some r := h
 clear h
 by_cases c3 : a1 ≥ 0
 ·rw [if_pos c3] at H
  have c3b0 : decide (0 ≤ a1) = true := decide_eq_true c3
  clear c3
  obtain rfl := Option.some.inj H
  go_enter Try.func60, Try.ntmps60
  go_wp2
  go_ret
  exact ⟨by first | rfl | (simp; done) | (simp [*]; done) | (simp [Int.tdiv_eq_ediv_of_nonneg]; done), by repeat (first | exact Drawn0.refl _ | apply Drawn0.step)⟩
 ·rw [if_neg c3] at H
  have c3b0 : decide (0 ≤ a1) = false := decide_eq_false c3
  clear c3
  obtain rfl := Option.some.inj H
  go_enter Try.func60, Try.ntmps60
  go_wp2
  go_ret
  exact ⟨by first | rfl | (simp; done) | (simp [*]; done) | (simp [Int.tdiv_eq_ediv_of_nonneg]; done), by repeat (first | exact Drawn0.refl _ | apply Drawn0.step)⟩

/-! ### bits_Get: function 44 -/
def bits_Get.f (l0 : List Int) (a1 : Int) : Option (Bool) := (bits_there.f l0 a1).bind fun t107 => (if t107 = true then (if 0 ≤ (wrap64 (Int.tdiv a1 8)) then (if (wrap64 (Int.tdiv a1 8)) < (l0.length : Int) then (if 0 ≤ (Int.tmod a1 8) then (some ((Go.bits .and .u8 (shr .u8 (rd l0 (wrap64 (Int.tdiv a1 8))) (Int.tmod a1 8)) 1) == 1)) else (none)) else (none)) else (none)) else (some false))
set_option maxHeartbeats 8000000 in
set_option maxRecDepth 100000 in
theorem bits_Get.calls (A0 : Option Addr) (c0 : Nat) (l0 : List Int) (a1 : Int) (r : Bool) (w : World) (hr0 : Kd.C (Kd.int .u8) w A0 l0.length l0) (hc0 : l0.length ≤ c0) (h : bits_Get.f l0 a1 = some r) :
  Calls Try.prog 44 #[.slice A0 l0.length c0, .int .i64 a1] w fun e w' => e = .returned (.bool r) ∧ Drawn0 w w' := by
 have HR0 := Aside0.mk hr0
 have HC0 := Aside0.mk hc0
 clear hr0 hc0
 have H : ((bits_there.f l0 a1).bind fun t107 => (if t107 = true then (if 0 ≤ (wrap64 (Int.tdiv a1 8)) then (if (wrap64 (Int.tdiv a1 8)) < (l0.length : Int) then (if 0 ≤ (Int.tmod a1 8) then (some ((Go.bits .and .u8 (shr .u8 (rd l0 (wrap64 (Int.tdiv a1 8))) (Int.tmod a1 8)) 1) == 1)) else (none)) else (none)) else (none)) else (some false))) = some r := h
 clear h
 replace H := Option.bind_eq_some_iff.mp H
 obtain ⟨t107, A30, H⟩ := H
 replace H : (if t107 = true then (if 0 ≤ (wrap64 (Int.tdiv a1 8)) then (if (wrap64 (Int.tdiv a1 8)) < (l0.length : Int) then (if 0 ≤ (Int.tmod a1 8) then (some ((Go.bits .and .u8 (shr .u8 (rd l0 (wrap64 (Int.tdiv a1 8))) (Int.tmod a1 8)) 1) == 1)) else (none)) else (none)) else (none)) else (some false)) = some r := H
 have A3 := Aside0.mk A30
 clear A30
 by_cases c4 : t107 = true
 ·subst c4
  have H1 : (if 0 ≤ (wrap64 (Int.tdiv a1 8)) then (if (wrap64 (Int.tdiv a1 8)) < (l0.length : Int) then (if 0 ≤ (Int.tmod a1 8) then (some ((Go.bits .and .u8 (shr .u8 (rd l0 (wrap64 (Int.tdiv a1 8))) (Int.tmod a1 8)) 1) == 1)) else (none)) else (none)) else (none)) = some r := by rw [if_pos rfl] at H; exact H
  clear H
  have H := H1
  clear H1
  obtain ⟨ji5, hji5⟩ : ∃ j_ : Int, (wrap64 (Int.tdiv a1 8)) = j_ := ⟨_, rfl⟩
  replace H : (if 0 ≤ (ji5) then (if (ji5) < (l0.length : Int) then (if 0 ≤ (Int.tmod a1 8) then (some ((Go.bits .and .u8 (shr .u8 (rd l0 (ji5)) (Int.tmod a1 8)) 1) == 1)) else (none)) else (none)) else (none)) = some r := by first | (rw [hji5] at H; exact H) | (simp only [hji5] at H ⊢; exact H)
  (try rw [hji5] at A3)
  have hji5w : (IntKind.i64.wrap (Int.tdiv a1 8)) = ji5 := (i64_w _).trans hji5
  by_cases c6 : 0 ≤ (ji5)
  ·rw [if_pos c6] at H
   have c6b0 : decide (0 ≤ (ji5)) = true := decide_eq_true c6
   clear c6
   by_cases c7 : (ji5) < (l0.length : Int)
   ·rw [if_pos c7] at H
    have c7b0 : decide ((ji5) < (l0.length : Int)) = true := decide_eq_true c7
    clear c7
    obtain ⟨ji8, hji8⟩ : ∃ j_ : Int, (Int.tmod a1 8) = j_ := ⟨_, rfl⟩
    replace H : (if 0 ≤ (ji8) then (some ((Go.bits .and .u8 (shr .u8 (rd l0 (ji5)) (ji8)) 1) == 1)) else (none)) = some r := by first | (rw [hji8] at H; exact H) | (simp only [hji8] at H ⊢; exact H)
    (try rw [hji8] at A3)
    by_cases c9 : 0 ≤ (ji8)
    ·rw [if_pos c9] at H
     have c9b0 := eq_true c9
     have c9b1 : decide (0 ≤ (ji8)) = true := decide_eq_true c9
     clear c9
     obtain ⟨ji10, hji10⟩ : ∃ j_ : Int, (shr .u8 (rd l0 (ji5)) (ji8)) = j_ := ⟨_, rfl⟩
     replace H : (some ((Go.bits .and .u8 (ji10) 1) == 1)) = some r := by first | (rw [hji10] at H; exact H) | (simp only [hji10] at H ⊢; exact H)
     (try rw [hji10] at A3)
     have hji10_ : ((rd l0 (ji5)) / 2 ^ min (ji8).toNat 8) = ji10 := hji10
     have hji10z : (ji8) ≤ 8 → ((rd l0 (ji5)) / 2 ^ (ji8).toNat) = ji10 := shr_small hji10
     obtain rfl := Option.some.inj H
     go_enter Try.func44, Try.ntmps44
     go_wp2_with (first | ((with_reducible refine gate_callee (f := 60) rfl ?_); refine goesL_ (some 7) rfl rfl Try.func60 (by kernel_rfl) rfl #[.slice A0 l0.length c0, .int .i64 a1] rfl (by (try simp only [List.map_toArray, List.map_cons, List.map_nil]); first | done | rfl | (simp only [List.length_drop, List.length_take]; rfl)) ?_; (with_reducible refine (bits_there.calls _ _ l0 a1 true _ ?side1 ?side2 A3.out).mono ?_); (case side1 => repeat (first | exact HR0.out | (with_reducible refine Kd.C_alloc ?_ _) | (with_reducible refine Kd.C_drewN ?_ _) | (with_reducible refine Kd.C_drew ?_))); (case side2 => exact HC0.out); rintro e w' ⟨rfl, ⟨nd, rfl⟩⟩; refine ⟨_, rfl, ?_⟩; have p108 : 0 ≤ ((ji5) : Int) := of_decide_eq_true (by first | (with_reducible assumption) | assumption); have q108 : (ji5) < (l0.length : Int) := of_decide_eq_true (by first | (with_reducible assumption) | assumption); obtain ⟨ad108, e108, hx108_0⟩ := Kd.at_int HR0.out (ji5) p108 q108; cases e108; replace p108 := eq_true p108; replace q108 := eq_true q108))
     go_ret
     exact ⟨by first | rfl | (simp; done) | (simp only [← hji5, ← hji8, ← hji10] <;> (first | rfl | simp)) | (simp [*]; done) | (simp [Int.tdiv_eq_ediv_of_nonneg]; done), by repeat (first | exact Drawn0.refl _ | apply Drawn0.step)⟩
    ·rw [if_neg c9] at H
     exact absurd H (by simp)
   ·rw [if_neg c7] at H
    exact absurd H (by simp)
  ·rw [if_neg c6] at H
   exact absurd H (by simp)
 ·replace c4 := Bool.eq_false_iff.mpr c4
  subst c4
  have H1 : (some false) = some r := by rw [if_neg (show ¬ (false = true) by decide)] at H; exact H
  clear H
  have H := H1
  clear H1
  obtain rfl := Option.some.inj H
  go_enter Try.func44, Try.ntmps44
  go_wp2_with (first | ((with_reducible refine gate_callee (f := 60) rfl ?_); refine goesL_ (some 7) rfl rfl Try.func60 (by kernel_rfl) rfl #[.slice A0 l0.length c0, .int .i64 a1] rfl (by (try simp only [List.map_toArray, List.map_cons, List.map_nil]); first | done | rfl | (simp only [List.length_drop, List.length_take]; rfl)) ?_; (with_reducible refine (bits_there.calls _ _ l0 a1 false _ ?side1 ?side2 A3.out).mono ?_); (case side1 => repeat (first | exact HR0.out | (with_reducible refine Kd.C_alloc ?_ _) | (with_reducible refine Kd.C_drewN ?_ _) | (with_reducible refine Kd.C_drew ?_))); (case side2 => exact HC0.out); rintro e w' ⟨rfl, ⟨nd, rfl⟩⟩; refine ⟨_, rfl, ?_⟩))
  go_ret
  exact ⟨by first | rfl | (simp; done) | (simp [*]; done) | (simp [Int.tdiv_eq_ediv_of_nonneg]; done), by repeat (first | exact Drawn0.refl _ | apply Drawn0.step)⟩

/-! ### bits_Next: function 64 -/
mutual
def bits_Next.l0 : Nat → List Int → Int → Bool → Int → Option (Int)
 | 0, _, _, _, _ => none
 | k + 1, x0, x1, x3, x9 => if x9 < x1 then ((bits_there.f x0 x9).bind fun t109 => (if t109 = true then (bits_Next.j1 k x0 x1 x3 x9 false) else (bits_Next.j1 k x0 x1 x3 x9 x3))) else (some x1)
def bits_Next.j1 : Nat → List Int → Int → Bool → Int → Bool → Option (Int)
 | 0, _, _, _, _, _ => none
 | k + 1, x0, x1, x3, x9, x23 => if x23 = true then (some x1) else ((bits_Get.f x0 x9).bind fun t110 => (if (t110 == x3) = true then (some x9) else (bits_Next.l0 k x0 x1 x3 (wrap64 (x9 + 1)))))
end
def bits_Next.f (k : Nat) (l0 : List Int) (a1 : Int) (a2 : Int) (a3 : Bool) : Option (Int) := bits_Next.l0 k l0 a1 a3 (mx a2 0)
theorem bits_Next.mono_l : ∀ k, (∀ y0 y1 y2 y3, LeO (bits_Next.l0 k y0 y1 y2 y3) (bits_Next.l0 (k + 1) y0 y1 y2 y3)) ∧ (∀ y0 y1 y2 y3 y4, LeO (bits_Next.j1 k y0 y1 y2 y3 y4) (bits_Next.j1 (k + 1) y0 y1 y2 y3 y4))
 | 0 => ⟨fun _ _ _ _ r h => by simp [bits_Next.l0] at h, fun _ _ _ _ _ r h => by simp [bits_Next.j1] at h⟩
 | k + 1 => by
  obtain ⟨ih0, ih1⟩ := bits_Next.mono_l k
  refine ⟨?_, ?_⟩
  ·intro y0 y1 y2 y3
   unfold bits_Next.l0
   repeat' first
   | (with_reducible exact ih0 _ _ _ _)
   | (with_reducible exact ih1 _ _ _ _ _)
   | (with_reducible exact LeO.refl _)
   | (with_reducible exact LeO.none _)
   | (with_reducible refine LeO.ite ?_ ?_)
   | (with_reducible refine LeO.bind ?_ (fun _ => ?_))
   | exact ih0 _ _ _ _
   | exact ih1 _ _ _ _ _
   | exact LeO.none _
   | refine LeO.ite ?_ ?_
   | refine LeO.bind ?_ (fun _ => ?_)
  ·intro y0 y1 y2 y3 y4
   unfold bits_Next.j1
   repeat' first
   | (with_reducible exact ih0 _ _ _ _)
   | (with_reducible exact ih1 _ _ _ _ _)
   | (with_reducible exact LeO.refl _)
   | (with_reducible exact LeO.none _)
   | (with_reducible refine LeO.ite ?_ ?_)
   | (with_reducible refine LeO.bind ?_ (fun _ => ?_))
   | exact ih0 _ _ _ _
   | exact ih1 _ _ _ _ _
   | exact LeO.none _
   | refine LeO.ite ?_ ?_
   | refine LeO.bind ?_ (fun _ => ?_)
theorem bits_Next.mono : ∀ a0 a1 a2 a3 k, LeO (bits_Next.f k a0 a1 a2 a3) (bits_Next.f (k + 1) a0 a1 a2 a3) := by
 intro a0 a1 a2 a3 k
 obtain ⟨ih0, ih1⟩ := bits_Next.mono_l k
 unfold bits_Next.f
 repeat' first
   | (with_reducible exact ih0 _ _ _ _)
   | (with_reducible exact ih1 _ _ _ _ _)
   | (with_reducible exact LeO.refl _)
   | (with_reducible exact LeO.none _)
   | (with_reducible refine LeO.ite ?_ ?_)
   | (with_reducible refine LeO.bind ?_ (fun _ => ?_))
   | exact ih0 _ _ _ _
   | exact ih1 _ _ _ _ _
   | exact LeO.none _
   | refine LeO.ite ?_ ?_
   | refine LeO.bind ?_ (fun _ => ?_)
set_option maxHeartbeats 8000000 in
set_option maxRecDepth 100000 in
theorem bits_Next.calls (k : Nat) (A0 : Option Addr) (c0 : Nat) (l0 : List Int) (a1 : Int) (a2 : Int) (a3 : Bool) (r : Int) (w : World) (hr0 : Kd.C (Kd.int .u8) w A0 l0.length l0) (hc0 : l0.length ≤ c0) (h : bits_Next.f k l0 a1 a2 a3 = some r) :
  Calls Try.prog 64 #[.slice A0 l0.length c0, .int .i64 a1, .int .i64 a2, .bool a3] w fun e w' => e = .returned (.int .i64 r) ∧ Below w.heap.size w w' := by
 have HR0 := Aside0.mk hr0
 have HC0 := Aside0.mk hc0
 clear hr0 hc0
 have HB := Aside0.mk (Below.refl w.heap.size w)
 have H : (bits_Next.l0 k l0 a1 a3 (mx a2 0)) = some r := h
 clear h
 obtain ⟨ji5, hji5⟩ : ∃ j_ : Int, (mx a2 0) = j_ := ⟨_, rfl⟩
 replace H : (bits_Next.l0 k l0 a1 a3 ji5) = some r := by first | (rw [hji5] at H; exact H) | (simp only [hji5] at H ⊢; exact H)
 (try (have hji5l : 0 ≤ ji5 := by (rw [← hji5]; unfold mx; (repeat' split) <;> omega)))
 (try (have hji5m : 0 ≤ ji5 := by omega))
 have hji5_ : (if a2 < 0 then 0 else a2) = ji5 := hji5
 have H' := Aside0.mk H
 clear H
 go_enter Try.func64, Try.ntmps64
 go_wp2
 go_loopg [9] k (fun kq v9 w' => ∃ (x9_1 : Int), v9 = .int .i64 x9_1 ∧ Aside0 (bits_Next.l0 kq l0 a1 a3 x9_1 = some r) ∧ Aside0 (kq ≤ k) ∧ Aside0 (Below w.heap.size w w'))
 case atStart => exact ⟨(ji5), (by first | rfl | (simp; done) | (simp only [← hji5] <;> (first | rfl | simp)) | (simp [*]; done) | (simp [Int.tdiv_eq_ediv_of_nonneg]; done)), H', ⟨Nat.le_refl _⟩, ⟨by repeat (first | (with_reducible first | exact HB.out | apply below_alloc | apply pw_below_drewN | apply below_drew1) | exact HB.out)⟩⟩
 case round =>
  clear H'
  try clear p2
  obtain ⟨x9_1, rfl, HA, HK1, HB⟩ := hrel
  cases gk with
  | zero => exact absurd HA.out (by simp [bits_Next.l0])
  | succ k1 =>
   have H := HA.out
   clear HA
   simp only [bits_Next.l0] at H
   by_cases c6 : x9_1 < a1
   ·rw [if_pos c6] at H
    have c6b0 : decide (x9_1 < a1) = true := decide_eq_true c6
    clear c6
    have HC7 := Aside0.mk H
    clear H
    go_upto_region 4 with (fail)
    go_cut [23] (fun v23 wc => ∃ (kq : Nat) (x23_6 : Bool), v23 = .bool x23_6 ∧ Aside0 (bits_Next.j1 kq l0 a1 a3 x9_1 x23_6 = some r) ∧ Aside0 (kq ≤ k1) ∧ Aside0 (Below w.heap.size w wc))
    case first =>
     have H := HC7.out
     clear HC7
     replace H := Option.bind_eq_some_iff.mp H
     obtain ⟨t109, A80, H⟩ := H
     replace H : (if t109 = true then (bits_Next.j1 k1 l0 a1 a3 x9_1 false) else (bits_Next.j1 k1 l0 a1 a3 x9_1 a3)) = some r := H
     have A8 := Aside0.mk A80
     clear A80
     by_cases c9 : t109 = true
     ·subst c9
      have H1 : (bits_Next.j1 k1 l0 a1 a3 x9_1 false) = some r := by rw [if_pos rfl] at H; exact H
      clear H
      have H := H1
      clear H1
      have H' := Aside0.mk H
      clear H
      go_wp2_with (first | ((with_reducible refine gate_callee (f := 60) rfl ?_); refine goesL_ (some 19) rfl rfl Try.func60 (by kernel_rfl) rfl #[.slice A0 l0.length c0, .int .i64 x9_1] rfl (by (try simp only [List.map_toArray, List.map_cons, List.map_nil]); first | done | rfl | (simp only [List.length_drop, List.length_take]; rfl)) ?_; (with_reducible refine (bits_there.calls _ _ l0 x9_1 true _ ?side1 ?side2 A8.out).mono ?_); (case side1 => repeat (first | exact (Kd.C_below HR0.out HB.out) | (with_reducible refine Kd.C_alloc ?_ _) | (with_reducible refine Kd.C_drewN ?_ _) | (with_reducible refine Kd.C_drew ?_))); (case side2 => exact HC0.out); rintro e w' ⟨rfl, ⟨nd, rfl⟩⟩; refine ⟨_, rfl, ?_⟩))
      go_meet
      case rel => exact ⟨_, (false), (by first | rfl | (simp; done) | (simp [*]; done) | (simp [Int.tdiv_eq_ediv_of_nonneg]; done)), H', ⟨by have := HK1.out; first | omega | exact Nat.le_refl _⟩, ⟨by repeat (first | (with_reducible first | exact HB.out | apply below_alloc | apply pw_below_drewN | apply below_drew1) | exact HB.out)⟩⟩
     ·replace c9 := Bool.eq_false_iff.mpr c9
      subst c9
      have H1 : (bits_Next.j1 k1 l0 a1 a3 x9_1 a3) = some r := by rw [if_neg (show ¬ (false = true) by decide)] at H; exact H
      clear H
      have H := H1
      clear H1
      have H' := Aside0.mk H
      clear H
      go_wp2_with (first | ((with_reducible refine gate_callee (f := 60) rfl ?_); refine goesL_ (some 19) rfl rfl Try.func60 (by kernel_rfl) rfl #[.slice A0 l0.length c0, .int .i64 x9_1] rfl (by (try simp only [List.map_toArray, List.map_cons, List.map_nil]); first | done | rfl | (simp only [List.length_drop, List.length_take]; rfl)) ?_; (with_reducible refine (bits_there.calls _ _ l0 x9_1 false _ ?side1 ?side2 A8.out).mono ?_); (case side1 => repeat (first | exact (Kd.C_below HR0.out HB.out) | (with_reducible refine Kd.C_alloc ?_ _) | (with_reducible refine Kd.C_drewN ?_ _) | (with_reducible refine Kd.C_drew ?_))); (case side2 => exact HC0.out); rintro e w' ⟨rfl, ⟨nd, rfl⟩⟩; refine ⟨_, rfl, ?_⟩))
      go_meet
      case rel => exact ⟨_, (a3), (by first | rfl | (simp; done) | (simp [*]; done) | (simp [Int.tdiv_eq_ediv_of_nonneg]; done)), H', ⟨by have := HK1.out; first | omega | exact Nat.le_refl _⟩, ⟨by repeat (first | (with_reducible first | exact HB.out | apply below_alloc | apply pw_below_drewN | apply below_drew1) | exact HB.out)⟩⟩
    case rest =>
     clear HC7
     try clear p2
     try clear c6
     try clear c6b0
     try clear c9
     try clear p2
     obtain ⟨kq, x23_6, rfl, HA, HJ6, HB⟩ := hcut
     cases kq with
     | zero => exact absurd HA.out (by simp [bits_Next.j1])
     | succ kj6 =>
      have H := HA.out
      clear HA
      simp only [bits_Next.j1] at H
      by_cases c10 : x23_6 = true
      ·subst c10
       have H1 : (some a1) = some r := by rw [if_pos rfl] at H; exact H
       clear H
       have H := H1
       clear H1
       obtain rfl := Option.some.inj H
       go_wp2
       go_ret
       exact ⟨by first | rfl | (simp [errW_none, errW_some] <;> rfl) | (simp only [← hji5]; first | rfl | (simp [errW_none, errW_some] <;> rfl)) | (simp [*, errW_none, errW_some] <;> rfl) | (simp [Int.tdiv_eq_ediv_of_nonneg]; done), by repeat (first | (with_reducible first | exact HB.out | apply below_alloc | apply pw_below_drewN | apply below_drew1) | exact HB.out)⟩
      ·replace c10 := Bool.eq_false_iff.mpr c10
       subst c10
       have H1 : ((bits_Get.f l0 x9_1).bind fun t110 => (if (t110 == a3) = true then (some x9_1) else (bits_Next.l0 kj6 l0 a1 a3 (wrap64 (x9_1 + 1))))) = some r := by rw [if_neg (show ¬ (false = true) by decide)] at H; exact H
       clear H
       have H := H1
       clear H1
       replace H := Option.bind_eq_some_iff.mp H
       obtain ⟨t110, A110, H⟩ := H
       replace H : (if (t110 == a3) = true then (some x9_1) else (bits_Next.l0 kj6 l0 a1 a3 (wrap64 (x9_1 + 1)))) = some r := H
       have A11 := Aside0.mk A110
       clear A110
       by_cases c12 : (t110 == a3) = true
       ·rw [if_pos c12] at H
        have c12b0 : (t110 == a3) = true := c12
        (try (have c12b1 : decide (t110 = a3) = true := by simpa using c12))
        (try (have c12b2 : (t110 == a3) = true := by simpa using c12))
        clear c12
        obtain rfl := Option.some.inj H
        go_wp2_with (first | ((with_reducible refine gate_callee (f := 44) rfl ?_); refine goesL_ (some 26) rfl rfl Try.func44 (by kernel_rfl) rfl #[.slice A0 l0.length c0, .int .i64 x9_1] rfl (by (try simp only [List.map_toArray, List.map_cons, List.map_nil]); first | done | rfl | (simp only [List.length_drop, List.length_take]; rfl)) ?_; (with_reducible refine (bits_Get.calls _ _ l0 x9_1 t110 _ ?side1 ?side2 A11.out).mono ?_); (case side1 => repeat (first | exact (Kd.C_below HR0.out HB.out) | (with_reducible refine Kd.C_alloc ?_ _) | (with_reducible refine Kd.C_drewN ?_ _) | (with_reducible refine Kd.C_drew ?_))); (case side2 => exact HC0.out); rintro e w' ⟨rfl, ⟨nd, rfl⟩⟩; refine ⟨_, rfl, ?_⟩))
        go_ret
        exact ⟨by first | rfl | (simp [errW_none, errW_some] <;> rfl) | (simp only [← hji5]; first | rfl | (simp [errW_none, errW_some] <;> rfl)) | (simp [*, errW_none, errW_some] <;> rfl) | (simp [Int.tdiv_eq_ediv_of_nonneg]; done), by repeat (first | (with_reducible first | exact HB.out | apply below_alloc | apply pw_below_drewN | apply below_drew1) | exact HB.out)⟩
       ·rw [if_neg c12] at H
        have c12b0 : (t110 == a3) = false := by simpa using c12
        (try (have c12b1 : decide (t110 = a3) = false := by simpa using c12))
        (try (have c12b2 : (t110 == a3) = false := by simpa using c12))
        (try (have c12b3 : ¬ (t110 = a3) := by simpa using c12))
        clear c12
        have H' := Aside0.mk H
        clear H
        go_wp2_with (first | ((with_reducible refine gate_callee (f := 44) rfl ?_); refine goesL_ (some 26) rfl rfl Try.func44 (by kernel_rfl) rfl #[.slice A0 l0.length c0, .int .i64 x9_1] rfl (by (try simp only [List.map_toArray, List.map_cons, List.map_nil]); first | done | rfl | (simp only [List.length_drop, List.length_take]; rfl)) ?_; (with_reducible refine (bits_Get.calls _ _ l0 x9_1 t110 _ ?side1 ?side2 A11.out).mono ?_); (case side1 => repeat (first | exact (Kd.C_below HR0.out HB.out) | (with_reducible refine Kd.C_alloc ?_ _) | (with_reducible refine Kd.C_drewN ?_ _) | (with_reducible refine Kd.C_drew ?_))); (case side2 => exact HC0.out); rintro e w' ⟨rfl, ⟨nd, rfl⟩⟩; refine ⟨_, rfl, ?_⟩))
        go_roundg kj6
        case measure => have := HK1.out; have := HJ6.out; omega
        case rel => exact ⟨(wrap64 (x9_1 + 1)), (by first | rfl | (simp; done) | (simp [*]; done) | (simp [Int.tdiv_eq_ediv_of_nonneg]; done)), H', ⟨by have := HK1.out; have := HJ6.out; omega⟩, ⟨by repeat (first | (with_reducible first | exact HB.out | apply below_alloc | apply pw_below_drewN | apply below_drew1) | exact HB.out)⟩⟩
   ·rw [if_neg c6] at H
    have c6b0 : decide (x9_1 < a1) = false := decide_eq_false c6
    clear c6
    obtain rfl := Option.some.inj H
    go_wp2
    go_ret
    exact ⟨by first | rfl | (simp [errW_none, errW_some] <;> rfl) | (simp only [← hji5]; first | rfl | (simp [errW_none, errW_some] <;> rfl)) | (simp [*, errW_none, errW_some] <;> rfl) | (simp [Int.tdiv_eq_ediv_of_nonneg]; done), by repeat (first | (with_reducible first | exact HB.out | apply below_alloc | apply pw_below_drewN | apply below_drew1) | exact HB.out)⟩

/-! ### table_may: function 52 -/
def table_may.j0 : Nat → Bool → Int → Int → Option (Bool)
 | 0, _, _, _ => none
 | k + 1, x11, x112000, x112001 => if x11 = true then (some false) else ((geom_Slots.f x112000).bind fun t112 => ((table_row.f x112000 x112001).bind fun t113 => ((bits_Next.f k t113 32 t112 true).bind fun t116 => (some (t116 == 32)))))
def table_may.f (k : Nat) (a0_0 : Int) (a0_1 : Int) : Option (Bool) := if a0_0 < (-1) then (table_may.j0 k true a0_0 a0_1) else (table_may.j0 k (decide (a0_0 ≥ 6)) a0_0 a0_1)
theorem table_may.mono_l : ∀ k, (∀ y0 y1 y2, LeO (table_may.j0 k y0 y1 y2) (table_may.j0 (k + 1) y0 y1 y2))
 | 0 => fun _ _ _ r h => by simp [table_may.j0] at h
 | k + 1 => by
  have ih0 := table_may.mono_l k
  ·intro y0 y1 y2
   unfold table_may.j0
   repeat' first
   | (with_reducible exact ih0 _ _ _)
   | (with_reducible exact bits_Next.mono _ _ _ _ _)
   | (with_reducible exact LeO.refl _)
   | (with_reducible exact LeO.none _)
   | (with_reducible refine LeO.ite ?_ ?_)
   | (with_reducible refine LeO.bind ?_ (fun _ => ?_))
   | exact ih0 _ _ _
   | exact bits_Next.mono _ _ _ _ _
   | exact LeO.none _
   | refine LeO.ite ?_ ?_
   | refine LeO.bind ?_ (fun _ => ?_)
theorem table_may.mono : ∀ a0 a1 k, LeO (table_may.f k a0 a1) (table_may.f (k + 1) a0 a1) := by
 intro a0 a1 k
 have ih0 := table_may.mono_l k
 unfold table_may.f
 repeat' first
   | (with_reducible exact ih0 _ _ _)
   | (with_reducible exact bits_Next.mono _ _ _ _ _)
   | (with_reducible exact LeO.refl _)
   | (with_reducible exact LeO.none _)
   | (with_reducible refine LeO.ite ?_ ?_)
   | (with_reducible refine LeO.bind ?_ (fun _ => ?_))
   | exact ih0 _ _ _
   | exact bits_Next.mono _ _ _ _ _
   | exact LeO.none _
   | refine LeO.ite ?_ ?_
   | refine LeO.bind ?_ (fun _ => ?_)
set_option maxHeartbeats 8000000 in
set_option maxRecDepth 100000 in
theorem table_may.calls (k : Nat) (a0_0 : Int) (a0_1 : Int) (r : Bool) (w : World) (h : table_may.f k a0_0 a0_1 = some r) :
  Calls Try.prog 52 #[.agg #[.int .i64 a0_0, .int .u32 a0_1]] w fun e w' => e = .returned (.bool r) ∧ Below w.heap.size w w' := by
 have hu34 := Try.underlying34
 have HB := Aside0.mk (Below.refl w.heap.size w)
 have H : (if a0_0 < (-1) then (table_may.j0 k true a0_0 a0_1) else (table_may.j0 k (decide (a0_0 ≥ 6)) a0_0 a0_1)) = some r := h
 clear h
 have HC2 := Aside0.mk H
 clear H
 go_enter Try.func52, Try.ntmps52
 go_upto_region 1 with (first | ((with_reducible refine gate_dst (N := 1) rfl ?_); refine box_event ?hg (N := 1) ?hd (cs := #[.int .i64 a0_0, .int .u32 a0_1]) (t := 34) ?hr ?_; (case hd => rfl); (case hg => rfl); (case hr => first | (go_simp; done) | (go_simp; rfl)); intro gb111 hg w3 hbox hb; have n0_ := Aside0.mk (below_step (by repeat (first | (with_reducible first | exact HB.out | apply below_alloc | apply pw_below_drewN | apply below_drew1) | exact HB.out)) hb); have n1_ := Aside0.mk (hbox); have n2_ := Aside0.mk ((by rw [hg]; exact (below_size (by repeat (first | (with_reducible first | exact HB.out | apply below_alloc | apply pw_below_drewN | apply below_drew1) | exact HB.out))) : w.heap.size ≤ gb111)); have n3_ := Aside0.mk ((by rw [hg]; exact (below_size (by repeat (first | (with_reducible first | exact HB.out | apply below_alloc | apply pw_below_drewN | apply below_drew1) | exact HB.out))) : w.heap.size ≤ gb111)); clear HB; have HB := n0_; have BK111 := n1_; have GW111 := n2_; have GE111 := n3_; clear n0_ n1_ n2_ n3_; clear hb hbox hg))
 (try simp only [Act.put, List.setIfInBounds_toArray, List.set_cons_zero, List.set_cons_succ])
 go_cut [11] (fun v11 wc => ∃ (kq : Nat) (x11_1 : Bool), v11 = .bool x11_1 ∧ Aside0 (table_may.j0 kq x11_1 a0_0 a0_1 = some r) ∧ Aside0 (kq ≤ k) ∧ Aside0 (wc.heap[gb111]? = some (.cells #[.int .i64 a0_0, .int .u32 a0_1] 34 (0, 0))) ∧ Aside0 (Below w.heap.size w wc))
 case first =>
  have H := HC2.out
  clear HC2
  by_cases c4 : a0_0 < (-1)
  ·rw [if_pos c4] at H
   have c4b0 : decide (a0_0 < (-1)) = true := decide_eq_true c4
   clear c4
   (first | rw [c4b0] | (simp only [i64_w, i32_w]; rw [c4b0]) | skip)
   have H' := Aside0.mk H
   clear H
   have hcz5_0 : w3.cell? ⟨gb111, 0, none⟩ = some (.int .i64 a0_0) := (blk_cell BK111.out 0).trans rfl
   have hcz5_1 : w3.cell? ⟨gb111, 1, none⟩ = some (.int .u32 a0_1) := (blk_cell BK111.out 1).trans rfl
   have hfz5_0 := blk_frozen BK111.out 0
   have hfz5_1 := blk_frozen BK111.out 1
   go_wp2
   go_meet
   case rel => exact ⟨_, (true), (by first | rfl | (simp; done) | (simp [*]; done) | (simp [Int.tdiv_eq_ediv_of_nonneg]; done)), H', ⟨by first | omega | exact Nat.le_refl _⟩, ⟨by (with_reducible repeat first | apply blk_drewN | apply blk_drew | apply blk_alloc); exact BK111.out⟩, ⟨by repeat (first | (with_reducible first | exact HB.out | apply below_alloc | apply pw_below_drewN | apply below_drew1 | refine below_set ?_ GE111.out) | exact HB.out)⟩⟩
  ·rw [if_neg c4] at H
   have c4b0 : decide (a0_0 < (-1)) = false := decide_eq_false c4
   clear c4
   (first | rw [c4b0] | (simp only [i64_w, i32_w]; rw [c4b0]) | skip)
   have H' := Aside0.mk H
   clear H
   have hcz6_0 : w3.cell? ⟨gb111, 0, none⟩ = some (.int .i64 a0_0) := (blk_cell BK111.out 0).trans rfl
   have hcz6_1 : w3.cell? ⟨gb111, 1, none⟩ = some (.int .u32 a0_1) := (blk_cell BK111.out 1).trans rfl
   have hfz6_0 := blk_frozen BK111.out 0
   have hfz6_1 := blk_frozen BK111.out 1
   go_wp2
   go_meet
   case rel => exact ⟨_, (decide (a0_0 ≥ 6)), (by first | rfl | (simp; done) | (simp [*]; done) | (simp [Int.tdiv_eq_ediv_of_nonneg]; done)), H', ⟨by first | omega | exact Nat.le_refl _⟩, ⟨by (with_reducible repeat first | apply blk_drewN | apply blk_drew | apply blk_alloc); exact BK111.out⟩, ⟨by repeat (first | (with_reducible first | exact HB.out | apply below_alloc | apply pw_below_drewN | apply below_drew1 | refine below_set ?_ GE111.out) | exact HB.out)⟩⟩
 case rest =>
  clear HC2
  try clear p2
  try clear c4
  try clear c4b0
  try clear c5
  try clear hcz5_0
  try clear hcz5_1
  try clear hcz6_0
  try clear hcz6_1
  try clear hfz5_0
  try clear hfz5_1
  try clear hfz6_0
  try clear hfz6_1
  obtain ⟨kq, x11_1, rfl, HA, HJ1, BK111, HB⟩ := hcut
  cases kq with
  | zero => exact absurd HA.out (by simp [table_may.j0])
  | succ kj1 =>
   have H := HA.out
   clear HA
   simp only [table_may.j0] at H
   by_cases c7 : x11_1 = true
   ·subst c7
    have H1 : (some false) = some r := by rw [if_pos rfl] at H; exact H
    clear H
    have H := H1
    clear H1
    obtain rfl := Option.some.inj H
    go_wp2
    go_ret
    exact ⟨by first | rfl | (simp [errW_none, errW_some] <;> rfl) | (simp [*, errW_none, errW_some] <;> rfl) | (simp [Int.tdiv_eq_ediv_of_nonneg]; done), by repeat (first | (with_reducible first | exact HB.out | apply below_alloc | apply pw_below_drewN | apply below_drew1 | refine below_set ?_ GE111.out) | exact HB.out)⟩
   ·replace c7 := Bool.eq_false_iff.mpr c7
    subst c7
    have H1 : ((geom_Slots.f a0_0).bind fun t112 => ((table_row.f a0_0 a0_1).bind fun t113 => ((bits_Next.f kj1 t113 32 t112 true).bind fun t116 => (some (t116 == 32))))) = some r := by rw [if_neg (show ¬ (false = true) by decide)] at H; exact H
    clear H
    have H := H1
    clear H1
    replace H := Option.bind_eq_some_iff.mp H
    obtain ⟨t112, A80, H⟩ := H
    replace H : ((table_row.f a0_0 a0_1).bind fun t113 => ((bits_Next.f kj1 t113 32 t112 true).bind fun t116 => (some (t116 == 32)))) = some r := H
    have A8 := Aside0.mk A80
    clear A80
    replace H := Option.bind_eq_some_iff.mp H
    obtain ⟨t113, A90, H⟩ := H
    replace H : ((bits_Next.f kj1 t113 32 t112 true).bind fun t116 => (some (t116 == 32))) = some r := H
    have A9 := Aside0.mk A90
    clear A90
    replace H := Option.bind_eq_some_iff.mp H
    obtain ⟨t116, A100, H⟩ := H
    replace H : (some (t116 == 32)) = some r := H
    have A10 := Aside0.mk A100
    clear A100
    obtain rfl := Option.some.inj H
    have hcz11_0 : wc.cell? ⟨gb111, 0, none⟩ = some (.int .i64 a0_0) := (blk_cell BK111.out 0).trans rfl
    have hcz11_1 : wc.cell? ⟨gb111, 1, none⟩ = some (.int .u32 a0_1) := (blk_cell BK111.out 1).trans rfl
    have hfz11_0 := blk_frozen BK111.out 0
    have hfz11_1 := blk_frozen BK111.out 1
    go_wp2_with (first | ((with_reducible refine gate_callee (f := 46) rfl ?_); refine goesL_ (some 14) rfl rfl Try.func46 (by kernel_rfl) rfl #[.int .i64 a0_0] rfl (by (try simp only [List.map_toArray, List.map_cons, List.map_nil]); first | done | rfl | (simp only [List.length_drop, List.length_take]; rfl)) ?_; (with_reducible refine (geom_Slots.calls a0_0 t112 _ A8.out).mono ?_); rintro e w' ⟨rfl, ⟨nd, rfl⟩⟩; refine ⟨_, rfl, ?_⟩) | ((with_reducible refine gate_callee (f := 45) rfl ?_); refine goesL_ (some 16) rfl rfl Try.func45 (by kernel_rfl) rfl #[.agg #[.int .i64 a0_0, .int .u32 a0_1]] rfl (by (try simp only [List.map_toArray, List.map_cons, List.map_nil]); first | done | rfl | (simp only [List.length_drop, List.length_take]; rfl)) ?_; (with_reducible refine (table_row.calls a0_0 a0_1 t113 _ A9.out).mono ?_); rintro e w12 ⟨v114, rfl, ho0, hb⟩; refine ⟨_, rfl, ?_⟩; have n0_ := Aside0.mk (Kd.R_lower ho0 (below_size (by repeat (first | (with_reducible first | exact HB.out | apply below_alloc | apply pw_below_drewN | apply below_drew1 | refine below_set ?_ GE111.out) | exact HB.out)))); have n1_ := Aside0.mk (blk_below (g := gb111) (o := .cells #[.int .i64 a0_0, .int .u32 a0_1] 34 (0, 0)) (by (with_reducible repeat first | apply blk_drewN | apply blk_drew | apply blk_alloc); exact BK111.out) hb); have n2_ := Aside0.mk (below_step (by repeat (first | (with_reducible first | exact HB.out | apply below_alloc | apply pw_below_drewN | apply below_drew1 | refine below_set ?_ GE111.out) | exact HB.out)) hb); clear BK111; clear HB; have HO115 := n0_; have BK111 := n1_; have HB := n2_; clear n0_ n1_ n2_; (try clear hb); (try clear hb2); (try clear hk); (try clear hi); (try clear ho0); (try clear A9); obtain ⟨Ao13, co13, eo13⟩ := Kd.R_slice HO115.out; subst eo13) | ((with_reducible refine gate_callee (f := 64) rfl ?_); refine goesL_ (some 18) rfl rfl Try.func64 (by kernel_rfl) rfl #[.slice Ao13 t113.length co13, .int .i64 32, .int .i64 t112, .bool true] rfl (by (try simp only [List.map_toArray, List.map_cons, List.map_nil]); first | done | rfl | (simp only [List.length_drop, List.length_take]; rfl)) ?_; (with_reducible refine (bits_Next.calls kj1 _ _ t113 32 t112 true t116 _ ?side1 ?side2 A10.out).mono ?_); (case side1 => repeat (first | exact (Kd.R_reads' HO115.out).2.2 | (with_reducible refine Kd.C_alloc ?_ _) | (with_reducible refine Kd.C_drewN ?_ _) | (with_reducible refine Kd.C_drew ?_))); (case side2 => exact (Kd.R_reads' HO115.out).2.1); rintro e w14 ⟨rfl, hb⟩; refine ⟨_, rfl, ?_⟩; have n0_ := Aside0.mk (Kd.R_below (by (with_reducible repeat (first | apply Kd.R_alloc | apply Kd.R_drewN | apply Kd.R_drew)); exact HO115.out) hb); have n1_ := Aside0.mk (blk_below (g := gb111) (o := .cells #[.int .i64 a0_0, .int .u32 a0_1] 34 (0, 0)) (by (with_reducible repeat first | apply blk_drewN | apply blk_drew | apply blk_alloc); exact BK111.out) hb); have n2_ := Aside0.mk (below_step (by repeat (first | (with_reducible first | exact HB.out | apply below_alloc | apply pw_below_drewN | apply below_drew1 | refine below_set ?_ GE111.out) | exact HB.out)) hb); clear HO115; clear BK111; clear HB; have HO115 := n0_; have BK111 := n1_; have HB := n2_; clear n0_ n1_ n2_; (try clear hb); (try clear hb2); (try clear hk); (try clear hi); (try clear A10)))
    go_ret
    exact ⟨by first | rfl | (simp [errW_none, errW_some] <;> rfl) | (simp [*, errW_none, errW_some] <;> rfl) | (simp [Int.tdiv_eq_ediv_of_nonneg]; done), by repeat (first | (with_reducible first | exact HB.out | apply below_alloc | apply pw_below_drewN | apply below_drew1 | refine below_set ?_ GE111.out) | exact HB.out)⟩

/-! ### table_Check_1: function 51 -/
def table_Check_1.f (k : Nat) (a0_0 : Int) (a0_1 : Int) : Option (Bool) := (table_may.f k a0_0 a0_1).bind fun t118 => (some (!t118))
theorem table_Check_1.mono : ∀ a0 a1 k, LeO (table_Check_1.f k a0 a1) (table_Check_1.f (k + 1) a0 a1) := by
 intro a0 a1 k
 unfold table_Check_1.f
 repeat' first
   | (with_reducible exact table_may.mono _ _ _)
   | (with_reducible exact LeO.refl _)
   | (with_reducible exact LeO.none _)
   | (with_reducible refine LeO.ite ?_ ?_)
   | (with_reducible refine LeO.bind ?_ (fun _ => ?_))
   | exact table_may.mono _ _ _
   | exact LeO.none _
   | refine LeO.ite ?_ ?_
   | refine LeO.bind ?_ (fun _ => ?_)
set_option maxHeartbeats 8000000 in
set_option maxRecDepth 100000 in
theorem table_Check_1.calls (k : Nat) (a0_0 : Int) (a0_1 : Int) (r : Bool) (w : World) (h : table_Check_1.f k a0_0 a0_1 = some r) :
  Calls Try.prog 51 #[.agg #[.int .i64 a0_0, .int .u32 a0_1]] w fun e w' => e = .returned (.bool r) ∧ Below w.heap.size w w' := by
 have hu34 := Try.underlying34
 have HB := Aside0.mk (Below.refl w.heap.size w)
 have H : ((table_may.f k a0_0 a0_1).bind fun t118 => (some (!t118))) = some r := h
 clear h
 replace H := Option.bind_eq_some_iff.mp H
 obtain ⟨t118, A20, H⟩ := H
 replace H : (some (!t118)) = some r := H
 have A2 := Aside0.mk A20
 clear A20
 obtain rfl := Option.some.inj H
 go_enter Try.func51, Try.ntmps51
 go_wp2_with (first | ((with_reducible refine gate_dst (N := 1) rfl ?_); refine box_event ?hg (N := 1) ?hd (cs := #[.int .i64 a0_0, .int .u32 a0_1]) (t := 34) ?hr ?_; (case hd => rfl); (case hg => rfl); (case hr => first | (go_simp; done) | (go_simp; rfl)); intro gb117 hg w3 hbox hb; have n0_ := Aside0.mk (below_step (by repeat (first | (with_reducible first | exact HB.out | apply below_alloc | apply pw_below_drewN | apply below_drew1) | exact HB.out)) hb); have n1_ := Aside0.mk (hbox); have n2_ := Aside0.mk ((by rw [hg]; exact (below_size (by repeat (first | (with_reducible first | exact HB.out | apply below_alloc | apply pw_below_drewN | apply below_drew1) | exact HB.out))) : w.heap.size ≤ gb117)); have n3_ := Aside0.mk ((by rw [hg]; exact (below_size (by repeat (first | (with_reducible first | exact HB.out | apply below_alloc | apply pw_below_drewN | apply below_drew1) | exact HB.out))) : w.heap.size ≤ gb117)); clear HB; have HB := n0_; have BK117 := n1_; have GW117 := n2_; have GE117 := n3_; clear n0_ n1_ n2_ n3_; clear hb hbox hg; have hcz4_0 : w3.cell? ⟨gb117, 0, none⟩ = some (.int .i64 a0_0) := (blk_cell BK117.out 0).trans rfl; have hcz4_1 : w3.cell? ⟨gb117, 1, none⟩ = some (.int .u32 a0_1) := (blk_cell BK117.out 1).trans rfl; have hfz4_0 := blk_frozen BK117.out 0; have hfz4_1 := blk_frozen BK117.out 1) | ((with_reducible refine gate_callee (f := 52) rfl ?_); refine goesL_ (some 4) rfl rfl Try.func52 (by kernel_rfl) rfl #[.agg #[.int .i64 a0_0, .int .u32 a0_1]] rfl (by (try simp only [List.map_toArray, List.map_cons, List.map_nil]); first | done | rfl | (simp only [List.length_drop, List.length_take]; rfl)) ?_; (with_reducible refine (table_may.calls k a0_0 a0_1 t118 _ A2.out).mono ?_); rintro e w5 ⟨rfl, hb⟩; refine ⟨_, rfl, ?_⟩; have n0_ := Aside0.mk (blk_below (g := gb117) (o := .cells #[.int .i64 a0_0, .int .u32 a0_1] 34 (0, 0)) (by (with_reducible repeat first | apply blk_drewN | apply blk_drew | apply blk_alloc); exact BK117.out) hb); have n1_ := Aside0.mk (below_step (by repeat (first | (with_reducible first | exact HB.out | apply below_alloc | apply pw_below_drewN | apply below_drew1 | refine below_set ?_ GE117.out) | exact HB.out)) hb); clear BK117; clear HB; have BK117 := n0_; have HB := n1_; clear n0_ n1_; (try clear hb); (try clear hb2); (try clear hk); (try clear hi); (try clear A2)))
 go_ret
 exact ⟨by first | rfl | (simp [errW_none, errW_some] <;> rfl) | (simp [*, errW_none, errW_some] <;> rfl) | (simp [Int.tdiv_eq_ediv_of_nonneg]; done), by repeat (first | (with_reducible first | exact HB.out | apply below_alloc | apply pw_below_drewN | apply below_drew1 | refine below_set ?_ GE117.out) | exact HB.out)⟩

-- NOT PRINTED: function 63 (api_Entry_63)

/-! ### any_table_Check_1: slices.ContainsFunc[[]attic/api.Entry,attic/api.Entry]@attic/table.Check$1 -/

/-- Is the function true of any of them. -/
def any_table_Check_1.f (k : Nat) : List S34 → Option Bool
 | [] => some false
 | x :: l => (table_Check_1.f k x.f0 x.f1).bind fun b => if b = true then some true else any_table_Check_1.f k l
theorem any_table_Check_1.mono : ∀ a0 k, LeO (any_table_Check_1.f k a0) (any_table_Check_1.f (k + 1) a0) := by
 intro l k
 induction l with
 | nil => exact LeO.refl _
 | cons x l ih => exact LeO.bind (table_Check_1.mono _ _ _) (fun b => LeO.ite (LeO.refl _) ih)
theorem any_table_Check_1.at_ (k : Nat) (l0 : List S34) (i : Int) (r : Bool) (h0 : 0 ≤ i) (h1 : i < (l0.length : Int)) (h : any_table_Check_1.f k (l0.drop i.toNat) = some r) :
  ∃ b, table_Check_1.f k (rd_T34 l0 i).f0 (rd_T34 l0 i).f1 = some b ∧ ((b = true ∧ r = true) ∨ (b = false ∧ any_table_Check_1.f k (l0.drop (i.toNat + 1)) = some r)) := by
 have hl : i.toNat < l0.length := by omega
 rw [List.drop_eq_getElem_cons hl] at h
 obtain ⟨b, hb, h⟩ := Option.bind_eq_some_iff.1 h
 refine ⟨b, ?_, ?_⟩
 ·have e : rd_T34 l0 i = l0[i.toNat] := by unfold rd_T34; rw [List.getD_eq_getElem?_getD, List.getElem?_eq_getElem hl]; rfl
  rw [e]; exact hb
 ·cases b with
  | true => exact .inl ⟨rfl, (Option.some.inj h).symm⟩
  | false => exact .inr ⟨rfl, h⟩
set_option maxHeartbeats 1000000 in
theorem any_table_Check_1.index (k : Nat) (A0 : Option Addr) (c0 : Nat) (l0 : List S34) (r : Bool) (w : World) (hr0 : Kd.C k34 w A0 l0.length l0) (hc0 : l0.length ≤ c0) (h : any_table_Check_1.f k l0 = some r) :
  Calls Try.prog 63 #[.slice A0 l0.length c0, .func (.func 51) #[] #[]] w fun e w' => ∃ j : Int, e = .returned (.int .i64 j) ∧ -1 ≤ j ∧ decide (0 ≤ j) = r ∧ Below w.heap.size w w' := by
 have HR := Aside0.mk hr0
 have HH := Aside0.mk h
 have hm : l0.length ≤ 9223372036854775807 := hr0.2.1
 clear hr0 h
 go_enter Try.func63, Try.ntmps63
 go_wp2
 go_loopw [8] (fun v8 wr => ∃ i : Int, v8 = .int .i64 i ∧ 0 ≤ i ∧ i ≤ (l0.length : Int) ∧ Aside0 (any_table_Check_1.f k (l0.drop i.toNat) = some r) ∧ Aside0 (Below w.heap.size w wr)) (fun v8 _ => l0.length - (intOf v8).toNat)
 case atStart => exact ⟨0, rfl, Int.le_refl _, by omega, HH, ⟨Below.refl _ _⟩⟩
 case round =>
  obtain ⟨i, rfl, h0, h1, HA, HB⟩ := hrel
  by_cases hlt : i < (l0.length : Int)
  ·have hb0 : decide (i < (l0.length : Int)) = true := decide_eq_true hlt
   obtain ⟨b, hg, hcase⟩ := any_table_Check_1.at_ k l0 i r h0 hlt HA.out
   have HG := Aside0.mk hg
   clear hg
   obtain ⟨ad, eA, hx0, hx1⟩ := at_T34 HR.out i h0 hlt
   subst eA
   replace hx0 := pw_cell_below HB.out hx0; replace hx1 := pw_cell_below HB.out hx1
   have q0 := eq_true h0
   have q1 := eq_true hlt
   rcases hcase with ⟨rfl, rfl⟩ | ⟨rfl, hnext⟩
   ·go_wp2_with (first | (go_at_call 51; (with_reducible refine (table_Check_1.calls k _ _ true _ HG.out).mono ?_); rintro e w3 ⟨rfl, hb3⟩; have HB3 := Aside0.mk hb3; clear hb3))
    go_ret
    exact ⟨i, rfl, by omega, decide_eq_true h0, below_step HB.out HB3.out⟩
   ·have HN := Aside0.mk hnext
    clear hnext
    go_wp2_with (first | (go_at_call 51; (with_reducible refine (table_Check_1.calls k _ _ false _ HG.out).mono ?_); rintro e w3 ⟨rfl, hb3⟩; have HB3 := Aside0.mk hb3; clear hb3))
    go_roundw
    case rel => exact ⟨i + 1, by first | rfl | (simp; done) | (congr 1; done), by omega, by omega, ⟨by rw [show (i + 1).toNat = i.toNat + 1 from by omega]; exact HN.out⟩, ⟨below_step HB.out HB3.out⟩⟩
    case measure => simp [intOf]; omega
  ·have hi : i = (l0.length : Int) := by omega
   have hb0 : decide (i < (l0.length : Int)) = false := decide_eq_false hlt
   have hr : r = false := by
    have := HA.out
    rw [hi, Int.toNat_natCast, List.drop_length] at this
    exact (Option.some.inj this).symm
   have HI := Aside0.mk hi
   have HRF := Aside0.mk hr
   clear hi hr
   go_wp2
   go_ret
   exact ⟨-1, rfl, by omega, by rw [HRF.out]; rfl, HB.out⟩
theorem any_table_Check_1.calls (k : Nat) (A0 : Option Addr) (c0 : Nat) (l0 : List S34) (r : Bool) (w : World) (hr0 : Kd.C k34 w A0 l0.length l0) (hc0 : l0.length ≤ c0) (h : any_table_Check_1.f k l0 = some r) :
  Calls Try.prog 50 #[.slice A0 l0.length c0, .func (.func 51) #[] #[]] w fun e w' => e = .returned (.bool r) ∧ Below w.heap.size w w' := by
 have HK := Aside0.mk (any_table_Check_1.index k A0 c0 l0 r w hr0 hc0 h)
 clear hr0 hc0 h
 go_enter Try.func50, Try.ntmps50
 go_wp2_with (first | (go_at_call 63; (refine HK.out.mono ?_); rintro e w3 ⟨j, rfl, hj1, hj, hb3⟩; have HB3 := Aside0.mk hb3; have HJ := Aside0.mk hj; clear hb3 hj))
 go_ret
 exact ⟨by first | (rw [← HJ.out]; done) | (rw [← HJ.out]; rfl) | (simp [← HJ.out]; done), HB3.out⟩

-- NOT PRINTED: function 50 (api_Entry_50)

/-! ### table_Check: function 19 -/
def table_Check.f (k : Nat) (l0_0 : List (S34)) : Option (Int) := if (l0_0.length : Int) < 1 then (some 140) else (if (l0_0.length : Int) > 256 then (some 140) else ((any_table_Check_1.f k l0_0).bind fun t120 => (if t120 = true then (some 140) else (some 0))))
theorem table_Check.mono : ∀ a0 k, LeO (table_Check.f k a0) (table_Check.f (k + 1) a0) := by
 intro a0 k
 unfold table_Check.f
 repeat' first
   | (with_reducible exact any_table_Check_1.mono _ _)
   | (with_reducible exact LeO.refl _)
   | (with_reducible exact LeO.none _)
   | (with_reducible refine LeO.ite ?_ ?_)
   | (with_reducible refine LeO.bind ?_ (fun _ => ?_))
   | exact any_table_Check_1.mono _ _
   | exact LeO.none _
   | refine LeO.ite ?_ ?_
   | refine LeO.bind ?_ (fun _ => ?_)
set_option maxHeartbeats 8000000 in
set_option maxRecDepth 100000 in
theorem table_Check.calls (k : Nat) (A0_0 : Option Addr) (c0_0 : Nat) (l0_0 : List (S34)) (r : Int) (w : World) (hr0_0 : Kd.C k34 w A0_0 l0_0.length l0_0) (hc0_0 : l0_0.length ≤ c0_0) (h : table_Check.f k l0_0 = some r) :
  Calls Try.prog 19 #[.agg #[.slice A0_0 l0_0.length c0_0]] w fun e w' => e = .returned (.int .i64 r) ∧ Below w.heap.size w w' := by
 have hu24 := Try.underlying24
 have HR0_0 := Aside0.mk hr0_0
 have HC0_0 := Aside0.mk hc0_0
 clear hr0_0 hc0_0
 have HB := Aside0.mk (Below.refl w.heap.size w)
 have H : (if (l0_0.length : Int) < 1 then (some 140) else (if (l0_0.length : Int) > 256 then (some 140) else ((any_table_Check_1.f k l0_0).bind fun t120 => (if t120 = true then (some 140) else (some 0))))) = some r := h
 clear h
 by_cases c2 : (l0_0.length : Int) < 1
 ·rw [if_pos c2] at H
  have c2b0 : decide ((l0_0.length : Int) < 1) = true := decide_eq_true c2
  have c2b1 : decide (l0_0.length < 1) = true := decide_eq_true (by omega)
  clear c2
  obtain rfl := Option.some.inj H
  go_enter Try.func19, Try.ntmps19
  go_wp2_with (first | ((with_reducible refine gate_dst (N := 1) rfl ?_); (try (refine gate_guard (by rfl) ?_; dsimp only)); refine box_event ?hg (N := 1) ?hd (cs := #[.slice A0_0 l0_0.length c0_0]) (t := 24) ?hr ?_; (case hd => rfl); (case hg => rfl); (case hr => first | (go_simp; done) | (go_simp; rfl)); intro gb119 hg w3 hbox hb; have n0_ := Aside0.mk (below_step (by repeat (first | (with_reducible first | exact HB.out | apply below_alloc | apply pw_below_drewN | apply below_drew1) | exact HB.out)) hb); have n1_ := Aside0.mk (hbox); have n2_ := Aside0.mk ((by rw [hg]; exact (below_size (by repeat (first | (with_reducible first | exact HB.out | apply below_alloc | apply pw_below_drewN | apply below_drew1) | exact HB.out))) : w.heap.size ≤ gb119)); have n3_ := Aside0.mk ((by rw [hg]; exact (below_size (by repeat (first | (with_reducible first | exact HB.out | apply below_alloc | apply pw_below_drewN | apply below_drew1) | exact HB.out))) : w.heap.size ≤ gb119)); clear HB; have HB := n0_; have BK119 := n1_; have GW119 := n2_; have GE119 := n3_; clear n0_ n1_ n2_ n3_; clear hb hbox hg; have hcz4_0 : w3.cell? ⟨gb119, 0, none⟩ = some (.slice A0_0 l0_0.length c0_0) := (blk_cell BK119.out 0).trans rfl; have hfz4_0 := blk_frozen BK119.out 0))
  go_ret
  exact ⟨by first | rfl | (simp [errW_none, errW_some] <;> rfl) | (simp [*, errW_none, errW_some] <;> rfl) | (simp [Int.tdiv_eq_ediv_of_nonneg]; done), by repeat (first | (with_reducible first | exact HB.out | apply below_alloc | apply pw_below_drewN | apply below_drew1 | refine below_set ?_ GE119.out) | exact HB.out)⟩
 ·rw [if_neg c2] at H
  have c2b0 : decide ((l0_0.length : Int) < 1) = false := decide_eq_false c2
  have c2b1 : decide (l0_0.length < 1) = false := decide_eq_false (by omega)
  clear c2
  by_cases c5 : (l0_0.length : Int) > 256
  ·rw [if_pos c5] at H
   have c5b0 : decide (256 < (l0_0.length : Int)) = true := decide_eq_true c5
   have c5b1 : decide (256 < l0_0.length) = true := decide_eq_true (by omega)
   clear c5
   obtain rfl := Option.some.inj H
   go_enter Try.func19, Try.ntmps19
   go_wp2_with (first | ((with_reducible refine gate_dst (N := 1) rfl ?_); (try (refine gate_guard (by rfl) ?_; dsimp only)); refine box_event ?hg (N := 1) ?hd (cs := #[.slice A0_0 l0_0.length c0_0]) (t := 24) ?hr ?_; (case hd => rfl); (case hg => rfl); (case hr => first | (go_simp; done) | (go_simp; rfl)); intro gb119 hg w6 hbox hb; have n0_ := Aside0.mk (below_step (by repeat (first | (with_reducible first | exact HB.out | apply below_alloc | apply pw_below_drewN | apply below_drew1) | exact HB.out)) hb); have n1_ := Aside0.mk (hbox); have n2_ := Aside0.mk ((by rw [hg]; exact (below_size (by repeat (first | (with_reducible first | exact HB.out | apply below_alloc | apply pw_below_drewN | apply below_drew1) | exact HB.out))) : w.heap.size ≤ gb119)); have n3_ := Aside0.mk ((by rw [hg]; exact (below_size (by repeat (first | (with_reducible first | exact HB.out | apply below_alloc | apply pw_below_drewN | apply below_drew1) | exact HB.out))) : w.heap.size ≤ gb119)); clear HB; have HB := n0_; have BK119 := n1_; have GW119 := n2_; have GE119 := n3_; clear n0_ n1_ n2_ n3_; clear hb hbox hg; have hcz7_0 : w6.cell? ⟨gb119, 0, none⟩ = some (.slice A0_0 l0_0.length c0_0) := (blk_cell BK119.out 0).trans rfl; have hfz7_0 := blk_frozen BK119.out 0))
   go_ret
   exact ⟨by first | rfl | (simp [errW_none, errW_some] <;> rfl) | (simp [*, errW_none, errW_some] <;> rfl) | (simp [Int.tdiv_eq_ediv_of_nonneg]; done), by repeat (first | (with_reducible first | exact HB.out | apply below_alloc | apply pw_below_drewN | apply below_drew1 | refine below_set ?_ GE119.out) | exact HB.out)⟩
  ·rw [if_neg c5] at H
   have c5b0 : decide (256 < (l0_0.length : Int)) = false := decide_eq_false c5
   have c5b1 : decide (256 < l0_0.length) = false := decide_eq_false (by omega)
   clear c5
   replace H := Option.bind_eq_some_iff.mp H
   obtain ⟨t120, A80, H⟩ := H
   replace H : (if t120 = true then (some 140) else (some 0)) = some r := H
   have A8 := Aside0.mk A80
   clear A80
   by_cases c9 : t120 = true
   ·subst c9
    have H1 : (some 140) = some r := by rw [if_pos rfl] at H; exact H
    clear H
    have H := H1
    clear H1
    obtain rfl := Option.some.inj H
    go_enter Try.func19, Try.ntmps19
    go_wp2_with (first | ((with_reducible refine gate_dst (N := 1) rfl ?_); (try (refine gate_guard (by rfl) ?_; dsimp only)); refine box_event ?hg (N := 1) ?hd (cs := #[.slice A0_0 l0_0.length c0_0]) (t := 24) ?hr ?_; (case hd => rfl); (case hg => rfl); (case hr => first | (go_simp; done) | (go_simp; rfl)); intro gb119 hg w10 hbox hb; have n0_ := Aside0.mk (below_step (by repeat (first | (with_reducible first | exact HB.out | apply below_alloc | apply pw_below_drewN | apply below_drew1) | exact HB.out)) hb); have n1_ := Aside0.mk (hbox); have n2_ := Aside0.mk ((by rw [hg]; exact (below_size (by repeat (first | (with_reducible first | exact HB.out | apply below_alloc | apply pw_below_drewN | apply below_drew1) | exact HB.out))) : w.heap.size ≤ gb119)); have n3_ := Aside0.mk ((by rw [hg]; exact (below_size (by repeat (first | (with_reducible first | exact HB.out | apply below_alloc | apply pw_below_drewN | apply below_drew1) | exact HB.out))) : w.heap.size ≤ gb119)); clear HB; have HB := n0_; have BK119 := n1_; have GW119 := n2_; have GE119 := n3_; clear n0_ n1_ n2_ n3_; clear hb hbox hg; have hcz11_0 : w10.cell? ⟨gb119, 0, none⟩ = some (.slice A0_0 l0_0.length c0_0) := (blk_cell BK119.out 0).trans rfl; have hfz11_0 := blk_frozen BK119.out 0) | (go_at_call 50; (with_reducible refine (any_table_Check_1.calls k _ _ l0_0 true _ ?side1 ?side2 A8.out).mono ?_); (case side1 => repeat (first | exact (Kd.C_below HR0_0.out HB.out) | (with_reducible refine Kd.C_alloc ?_ _) | (with_reducible refine Kd.C_drewN ?_ _) | (with_reducible refine Kd.C_drew ?_))); (case side2 => exact HC0_0.out); rintro e w12 ⟨rfl, hb⟩; have n0_ := Aside0.mk (blk_below (g := gb119) (o := .cells #[.slice A0_0 l0_0.length c0_0] 24 (0, 0)) (by (with_reducible repeat first | apply blk_drewN | apply blk_drew | apply blk_alloc); exact BK119.out) hb); have n1_ := Aside0.mk (below_step (by repeat (first | (with_reducible first | exact HB.out | apply below_alloc | apply pw_below_drewN | apply below_drew1 | refine below_set ?_ GE119.out) | exact HB.out)) hb); clear BK119; clear HB; have BK119 := n0_; have HB := n1_; clear n0_ n1_; (try clear hb); (try clear hb2); (try clear hk); (try clear hi); (try clear A8)))
    go_ret
    exact ⟨by first | rfl | (simp [errW_none, errW_some] <;> rfl) | (simp [*, errW_none, errW_some] <;> rfl) | (simp [Int.tdiv_eq_ediv_of_nonneg]; done), by repeat (first | (with_reducible first | exact HB.out | apply below_alloc | apply pw_below_drewN | apply below_drew1 | refine below_set ?_ GE119.out) | exact HB.out)⟩
   ·replace c9 := Bool.eq_false_iff.mpr c9
    subst c9
    have H1 : (some 0) = some r := by rw [if_neg (show ¬ (false = true) by decide)] at H; exact H
    clear H
    have H := H1
    clear H1
    obtain rfl := Option.some.inj H
    go_enter Try.func19, Try.ntmps19
    go_wp2_with (first | ((with_reducible refine gate_dst (N := 1) rfl ?_); (try (refine gate_guard (by rfl) ?_; dsimp only)); refine box_event ?hg (N := 1) ?hd (cs := #[.slice A0_0 l0_0.length c0_0]) (t := 24) ?hr ?_; (case hd => rfl); (case hg => rfl); (case hr => first | (go_simp; done) | (go_simp; rfl)); intro gb119 hg w13 hbox hb; have n0_ := Aside0.mk (below_step (by repeat (first | (with_reducible first | exact HB.out | apply below_alloc | apply pw_below_drewN | apply below_drew1) | exact HB.out)) hb); have n1_ := Aside0.mk (hbox); have n2_ := Aside0.mk ((by rw [hg]; exact (below_size (by repeat (first | (with_reducible first | exact HB.out | apply below_alloc | apply pw_below_drewN | apply below_drew1) | exact HB.out))) : w.heap.size ≤ gb119)); have n3_ := Aside0.mk ((by rw [hg]; exact (below_size (by repeat (first | (with_reducible first | exact HB.out | apply below_alloc | apply pw_below_drewN | apply below_drew1) | exact HB.out))) : w.heap.size ≤ gb119)); clear HB; have HB := n0_; have BK119 := n1_; have GW119 := n2_; have GE119 := n3_; clear n0_ n1_ n2_ n3_; clear hb hbox hg; have hcz14_0 : w13.cell? ⟨gb119, 0, none⟩ = some (.slice A0_0 l0_0.length c0_0) := (blk_cell BK119.out 0).trans rfl; have hfz14_0 := blk_frozen BK119.out 0) | (go_at_call 50; (with_reducible refine (any_table_Check_1.calls k _ _ l0_0 false _ ?side1 ?side2 A8.out).mono ?_); (case side1 => repeat (first | exact (Kd.C_below HR0_0.out HB.out) | (with_reducible refine Kd.C_alloc ?_ _) | (with_reducible refine Kd.C_drewN ?_ _) | (with_reducible refine Kd.C_drew ?_))); (case side2 => exact HC0_0.out); rintro e w15 ⟨rfl, hb⟩; have n0_ := Aside0.mk (blk_below (g := gb119) (o := .cells #[.slice A0_0 l0_0.length c0_0] 24 (0, 0)) (by (with_reducible repeat first | apply blk_drewN | apply blk_drew | apply blk_alloc); exact BK119.out) hb); have n1_ := Aside0.mk (below_step (by repeat (first | (with_reducible first | exact HB.out | apply below_alloc | apply pw_below_drewN | apply below_drew1 | refine below_set ?_ GE119.out) | exact HB.out)) hb); clear BK119; clear HB; have BK119 := n0_; have HB := n1_; clear n0_ n1_; (try clear hb); (try clear hb2); (try clear hk); (try clear hi); (try clear A8)))
    go_ret
    exact ⟨by first | rfl | (simp [errW_none, errW_some] <;> rfl) | (simp [*, errW_none, errW_some] <;> rfl) | (simp [Int.tdiv_eq_ediv_of_nonneg]; done), by repeat (first | (with_reducible first | exact HB.out | apply below_alloc | apply pw_below_drewN | apply below_drew1 | refine below_set ?_ GE119.out) | exact HB.out)⟩

/-! ### clone_api_Entry: function 49 -/

theorem clone_api_Entry.info : (Try.prog.info? 34).map (fun i => (i.zero, i.size, i.bytes)) = some (some (.agg #[.int .i64 0, .int .u32 0]), k34.sz, 16) := by kernel_rfl
/-- A slice in memory of its own. -/
def clone_api_Entry.f (l0 : List S34) : Option (List S34) := if l0.length * 16 ≤ 140737488355328 then some l0 else none
set_option maxRecDepth 100000 in
set_option maxHeartbeats 1000000 in
theorem clone_api_Entry.calls (A0 : Option Addr) (c0 : Nat) (l0 : List S34) (r : List S34) (w : World) (hr0 : Kd.C k34 w A0 l0.length l0) (hc0 : l0.length ≤ c0) (h : clone_api_Entry.f l0 = some r) :
  Calls Try.prog 49 #[.slice A0 l0.length c0] w fun e w' => ∃ v0_ : Value, e = .returned (v0_) ∧ Kd.R k34 34 w' w.heap.size (fun _ => True) v0_ r ∧ Below w.heap.size w w' := by
 unfold clone_api_Entry.f at h
 split at h
 ·rename_i hb
  obtain rfl := Option.some.inj h
  have hlt : l0.length < 140737488355329 := by omega
  cases A0 with
  | none =>
   have hn : l0 = [] := by
    rcases Nat.eq_zero_or_pos l0.length with h0 | h0
    ·exact List.length_eq_zero_iff.1 h0
    ·obtain ⟨ad, e, _⟩ := hr0.2.2 h0
     cases e
   subst hn
   clear hr0 hc0 h hb hlt
   have hq := Lib.run_eql_slice_nil (P := Try.prog) w 22 _ none 0 c0 0 0 Try.underlying22
   go_enter Try.func49, Try.ntmps49
   go_wp2
   go_ret
   exact ⟨.slice none 0 0, rfl, Kd.R_nil _ _ _ _ _, Below.refl _ _⟩
  | some ad =>
   have HR := Aside0.mk hr0
   have HC := Aside0.mk hc0
   have HL := Aside0.mk hb
   clear hr0 hc0 h hb
   have hq := Lib.run_eql_slice_nil (P := Try.prog) w 22 _ (some ad) l0.length c0 0 0 Try.underlying22
   go_enter Try.func49, Try.ntmps49
   go_wp2_with (first | ((with_reducible refine gate_dst (N := 5) rfl ?_); refine Kd.R_lit k34 w.heap.size 34 ?hg (N := 5) ?hd (xs := ([] : List S34)) (inner := []) (ok := fun _ => True) (okp := fun _ => True) ?hr ?hp (fun _ hk => hk) trivial (Below.refl _ _) (Nat.le_refl _) (by simp) ?_; (case hd => rfl); (case hg => rfl); (case hr => first | (go_simp; done) | (go_simp; rfl)); (case hp => exact Reps.none _ _); intro v5 w5 ho5 hb5 hg5 hnew5; have HO := Aside0.mk ho5; have HB := Aside0.mk hb5; clear ho5 hb5 hg5 hnew5) | (at_builtin; refine Kd.R_append_rows k34 (w0 := w) w.heap.size rfl (.tmp 5) (.tmp 6) 22 34 (.agg #[.int .i64 0, .int .u32 0]) 16 rfl Try.underlying22 clone_api_Entry.info rfl (by decide) (by omega) v5 [] l0 _ _ _ (fun _ => True) (fun _ => False) rfl rfl ?aO ?aR (fun _ _ h => h) (fun _ h => h.elim) ?aF ?aB ?aS ?aL ?_; (case aO => exact HO.out); (case aR => exact Kd.C_below HR.out HB.out); (case aF => exact fun _ _ => trivial); (case aB => exact HB.out); (case aS => exact HB.out.size); (case aL => have := HL.out; simp only [List.length_nil, Nat.zero_add]; exact this); intro v7 w7 ho7 hb7 hg7 hn7; have HO7 := Aside0.mk ho7; have HB7 := Aside0.mk hb7; clear ho7 hb7 hg7 hn7))
   go_ret
   exact ⟨v7, rfl, HO7.out, HB7.out⟩
 ·exact absurd h (by simp)


-- NOT PRINTED: function 23 (table_All)

-- NOT PRINTED: function 53 (table_sum)

/-! ### table_Count: function 21 -/

section
open Go.Shelf
attribute [local go_sem] Oper.semAt_some
def all14.row (x : S34) : List Int := [(x.f1) % 256, (x.f1 / 256) % 256, (x.f1 / 65536) % 256, (x.f1 / 16777216) % 256]
def all14.bit (x : S34) (k : Nat) : Bool := Go.bits .and .u8 (shr .u8 (rd (all14.row x) ((k / 8 : Nat) : Int)) ((k % 8 : Nat) : Int)) 1 == 1
theorem all14.get (x : S34) (k : Nat) (hk : k < 32) : bits_Get.f (all14.row x) k = some (all14.bit x k) := by
 have h1 : Int.tdiv (k : Int) 8 = ((k / 8 : Nat) : Int) := rfl
 have h2 : Int.tmod (k : Int) 8 = ((k % 8 : Nat) : Int) := rfl
 have h3 : wrap64 ((k / 8 : Nat) : Int) = ((k / 8 : Nat) : Int) := by unfold wrap64; omega
 have h4 : ((k / 8 : Nat) : Int) < ((all14.row x).length : Int) := by simp only [all14.row, List.length_cons, List.length_nil]; omega
 have h5 : (k : Int) ≥ 0 := by omega
 have h6 : (0 : Int) ≤ ((k / 8 : Nat) : Int) := by omega
 have h7 : (0 : Int) ≤ ((k % 8 : Nat) : Int) := by omega
 simp only [bits_Get.f, bits_there.f, h1, h2, h3, if_pos h5, if_pos h4, if_pos h6, if_pos h7, Option.bind_some, decide_eq_true h4, if_true, all14.bit]
def all14.ones (i : Nat) (x : S34) (k : Nat) : List (Int × Int) := ((List.range k).filter (fun j => all14.bit x j)).map fun j : Nat => ((i : Int), (j : Int))
def all14.upto (l : List S34) (i : Nat) : List (Int × Int) := (List.range i).flatMap fun j => all14.ones j (rd_T34 l (j : Int)) 32
def all14.L (ok : Bool) (l : List S34) (i k : Nat) : List (Int × Int) := if ok then all14.upto l i ++ all14.ones i (rd_T34 l (i : Int)) k else []
theorem all14.L_zero (ok l) : all14.L ok l 0 0 = [] := by cases ok <;> simp [all14.L, all14.upto, all14.ones]
theorem all14.L_row (ok l i) : all14.L ok l (i + 1) 0 = all14.L ok l i 32 := by
 cases ok
 ·rfl
 ·simp only [all14.L, if_true, all14.upto, List.range_succ, List.flatMap_append, List.flatMap_cons, List.flatMap_nil, List.append_nil, all14.ones, List.range_zero, List.filter_nil, List.map_nil]
theorem all14.L_yes (l i k) (h : all14.bit (rd_T34 l ((i : Nat) : Int)) k = true) : all14.L true l i (k + 1) = all14.L true l i k ++ [((i : Int), (k : Int))] := by
 simp [all14.L, all14.ones, List.range_succ, List.filter_append, h]
theorem all14.L_no (ok l i k) (h : (ok && all14.bit (rd_T34 l ((i : Nat) : Int)) k) = false) : all14.L ok l i (k + 1) = all14.L ok l i k := by
 cases ok
 ·rfl
 ·simp at h; simp [all14.L, all14.ones, List.range_succ, List.filter_append, h]
theorem all14.L_k (ok l i) : ∀ k d, all14.L ok l i k <+: all14.L ok l i (k + d)
 | k, 0 => List.prefix_refl _
 | k, d + 1 => (all14.L_k ok l i k d).trans (by
  cases h : (ok && all14.bit (rd_T34 l ((i : Nat) : Int)) (k + d))
  ·rw [← Nat.add_assoc, all14.L_no _ _ _ _ h]; exact List.prefix_refl _
  ·simp at h; rw [← Nat.add_assoc, h.1, all14.L_yes _ _ _ h.2]; exact List.prefix_append _ _)
theorem all14.L_i (ok l i) : ∀ d, all14.L ok l i 0 <+: all14.L ok l (i + d) 0
 | 0 => List.prefix_refl _
 | d + 1 => (all14.L_i ok l i d).trans (by rw [← Nat.add_assoc, all14.L_row]; exact (all14.L_k ok l (i + d) 0 32).trans (by simp))
theorem all14.L_pre (ok) (l : List S34) (i k) (hi : i < l.length) (hk : k ≤ 32) : all14.L ok l i k <+: all14.L ok l l.length 0 := by
 have h1 := all14.L_k ok l i k (32 - k)
 rw [show k + (32 - k) = 32 from by omega, ← all14.L_row] at h1
 have h2 := all14.L_i ok l (i + 1) (l.length - (i + 1))
 rw [show i + 1 + (l.length - (i + 1)) = l.length from by omega] at h2
 exact h1.trans h2
def all14.blk (W : World) (g : Nat) : Option Nat := (W.cell? ⟨g, 0, none⟩).bind Value.ownBlock
def all14.Inv (g : Nat) (W : World) : Prop := g < W.heap.size ∧ ∀ b, all14.blk W g = some b → b < W.heap.size
structure all14.Kp (n0 g : Nat) (W1 W2 : World) : Prop where
 below : Below n0 W1 W2
 rest : all14.Inv g W1 → all14.Inv g W2 ∧ (∀ b, all14.blk W2 g = some b → all14.blk W1 g = some b ∨ W1.heap.size ≤ b) ∧ (∀ (k : Nat) (cs : Array Value) (t : TypeId) (f : Nat × Nat), W1.heap[k]? = some (.cells cs t f) → k ≠ g → all14.blk W1 g ≠ some k → W2.heap[k]? = some (.cells cs t f))
theorem all14.Kp.trans {n0 g : Nat} {A B C : World} (h : all14.Kp n0 g A B) (k : all14.Kp n0 g B C) : all14.Kp n0 g A C :=
 ⟨h.below.trans k.below, fun i => by
  obtain ⟨iB, hb, hc⟩ := h.rest i
  obtain ⟨iC, kb, kc⟩ := k.rest iB
  have hs := h.below.size
  refine ⟨iC, fun b e => ?_, fun j cs t f hj hg hn => kc j cs t f (hc j cs t f hj hg hn) hg fun e => ?_⟩
  ·rcases kb b e with e | e
   ·exact hb b e
   ·right; omega
  ·rcases hb j e with e | e
   ·exact hn e
   ·have := (Array.getElem?_eq_some_iff.1 hj).1; omega⟩
theorem all14.blk_heap {W1 W2 : World} {g : Nat} (h : W2.heap[g]? = W1.heap[g]?) : all14.blk W2 g = all14.blk W1 g := by
 simp only [all14.blk, World.cell?, h]
theorem all14.Kp.put {n0 g : Nat} {w : World} (hn : n0 ≤ w.heap.size) (W : World) (l : Nat) (o o' : Obj) (hl : w.heap.size ≤ l) (h : W.heap[l]? = some o) (hc : o.isCells = false) (hw : o.isWalk = false) (hg : g < w.heap.size) : all14.Kp n0 g W (W.putObj l o') := by
 have hG := grownBy_putObj' W l o'
 have hgg : (W.putObj l o').heap[g]? = W.heap[g]? := hG.block g (by have := (Array.getElem?_eq_some_iff.1 h).1; omega) (by simp; omega)
 refine ⟨belowK_b hn W l o o' hl h hc hw, fun i => ?_⟩
 have hb := all14.blk_heap hgg
 refine ⟨⟨Nat.lt_of_lt_of_le i.1 hG.size, fun b e => ?_⟩, fun b e => .inl (by rwa [hb] at e), fun k cs t f hk _ _ => ?_⟩
 ·rw [hb] at e; exact Nat.lt_of_lt_of_le (i.2 b e) hG.size
 ·refine (hG.block k (Array.getElem?_eq_some_iff.1 hk).1 ?_).trans hk
  intro e; obtain rfl := Option.some.inj e; rw [h] at hk; obtain rfl := Option.some.inj hk; simp [Obj.isCells] at hc
theorem all14.Inv.below {g : Nat} {W W2 : World} (h : all14.Inv g W) (hb : Below W.heap.size W W2) : all14.Inv g W2 := by
 have hk := all14.blk_heap (hb.block g h.1)
 exact ⟨Nat.lt_of_lt_of_le h.1 hb.size, fun b e => by rw [hk] at e; exact Nat.lt_of_lt_of_le (h.2 b e) hb.size⟩
theorem all14.Kp.of_below {g : Nat} {W W2 : World} (h : Below W.heap.size W W2) : all14.Kp 0 g W W2 :=
 ⟨h.mono (Nat.zero_le _), fun i => ⟨i.below h, fun b e => .inl (by rwa [all14.blk_heap (h.block g i.1)] at e), fun k cs t f hk _ _ => (h.block k (Array.getElem?_eq_some_iff.1 hk).1).trans hk⟩⟩
theorem all14.Kp.cell {n0 g : Nat} {W W2 : World} (h : all14.Kp n0 g W W2) (i : all14.Inv g W) {a : Addr} {v : Value} (hc : W.cell? a = some v) (hg : a.block ≠ g) (hb : all14.blk W g ≠ some a.block) : W2.cell? a = some v := by
 have h3 := (h.rest i).2.2
 have key : W2.heap[a.block]? = W.heap[a.block]? := by
  cases hh : W.heap[a.block]? with
  | none => simp [World.cell?, hh] at hc
  | some o => cases o with
   | cells cs t f => exact h3 _ _ _ _ hh hg hb
   | _ => simp [World.cell?, hh] at hc
 rw [World.cell?, key]; exact hc
theorem all14.addb (a : Addr) (k : Nat) : (a.add k).block = a.block := by unfold Addr.add; split <;> rfl
structure all14.P (n0 g eb : Nat) (x : S34) (W : World) : Prop where
 box : W.heap[eb]? = some (.cells #[.int .i64 x.f0, .int .u32 x.f1] 34 (0, 0))
 ne : eb ≠ g
 off : all14.blk W g ≠ some eb
 inv : all14.Inv g W
theorem all14.P.below {n0 g eb : Nat} {x : S34} {W W2 : World} (h : all14.P n0 g eb x W) (hb : Below W.heap.size W W2) : all14.P n0 g eb x W2 := by
 have hk := all14.blk_heap (hb.block g h.inv.1)
 exact ⟨(hb.block eb (Array.getElem?_eq_some_iff.1 h.box).1).trans h.box, h.ne, by rw [hk]; exact h.off, Nat.lt_of_lt_of_le h.inv.1 hb.size, fun b e => by rw [hk] at e; exact Nat.lt_of_lt_of_le (h.inv.2 b e) hb.size⟩
theorem all14.P.kp {n0 g eb : Nat} {x : S34} {W W2 : World} (h : all14.P n0 g eb x W) (hb : all14.Kp n0 g W W2) : all14.P n0 g eb x W2 := by
 obtain ⟨i2, b2, k2⟩ := hb.rest h.inv
 refine ⟨k2 _ _ _ _ h.box h.ne h.off, h.ne, fun e => ?_, i2⟩
 rcases b2 _ e with e | e
 ·exact h.off e
 ·have := (Array.getElem?_eq_some_iff.1 h.box).1; omega
theorem all14.P.new {n0 g : Nat} {x : S34} {W : World} (h : all14.Inv g W) : all14.P n0 g W.heap.size x (W.alloc (.cells #[.int .i64 x.f0, .int .u32 x.f1] 34 (0, 0))) := by
 have hg : (W.alloc (.cells #[.int .i64 x.f0, .int .u32 x.f1] 34 (0, 0))).heap[g]? = W.heap[g]? := Below.heap_alloc _ _ _ h.1
 have hk := all14.blk_heap hg
 refine ⟨World.alloc_heap_new W _, by have := h.1; omega, fun e => ?_, by have := h.1; simp; omega, fun b e => ?_⟩
 ·rw [hk] at e; have := h.2 _ e; omega
 ·rw [hk] at e; have := h.2 _ e; simp; omega
set_option maxRecDepth 100000 in
set_option maxHeartbeats 4000000 in
theorem all14.each (n : Nat) (hn : 1 ≤ n) (y g gl gk : Nat) (A : Option Addr) (c : Nat) (l : List S34) (ok : Bool) (J Jx : List (Int × Int) → World → Prop)
  (w : World) (hI0 : all14.Inv g w) (hgl : gl ≠ g ∧ all14.blk w g ≠ some gl) (hgk : gk ≠ g ∧ all14.blk w g ≠ some gk) (hA : ∀ ad, A = some ad → 0 < l.length → ad.block ≠ g ∧ all14.blk w g ≠ some ad.block) (hbl : w.heap[gl]? = some (.cells #[.slice A l.length c] 22 (0, 0))) (hbk : w.heap[gk]? = some (.cells #[.bool ok] 4 (0, 0))) (hR : Kd.C k34 w A l.length l)
  (W : World) (hW : all14.Kp 0 g w W) (hI : all14.Inv g W) (hJ : AbidesFrom W.heap.size J)
  (hY : ∀ (pre : List (Int × Int)) (x : Int × Int) (W1 : World), J pre W1 → pre.length < (all14.L ok l l.length 0).length → (0 ≤ x.1 ∧ x.1 < (l.length : Int)) → YieldAt Fence.wide (n - 1) Try.prog y #[.int .i64 x.1, .int .i64 x.2] W1 fun e W' =>
   (e = .returned (.bool true) ∧ J (pre ++ [x]) W' ∧ all14.Kp 0 g W1 W') ∨ (e = .returned (.bool false) ∧ Jx (pre ++ [x]) W')) (h0 : J [] W) :
  CallsIn Fence.wide n Try.prog 54 #[.func (.yield y) #[] #[], .pointer (some ⟨gl, 0, none⟩), .pointer (some ⟨gk, 0, none⟩)] W fun e W' => (∃ v, e = .returned v) ∧
   ((∃ ys, ys = all14.L ok l l.length 0 ∧ J ys W') ∨ (∃ pre, pre <+: all14.L ok l l.length 0 ∧ Jx pre W')) := by
 have hc : W.cell? ⟨gl, 0, none⟩ = some (.slice A l.length c) := hW.cell hI0 ((blk_cell hbl 0).trans rfl) hgl.1 hgl.2
 have hu22 := Try.underlying22
 have hu34 := Try.underlying34
 have hR0 := Aside0.mk hR
 have hm : l.length ≤ 9223372036854775807 := hR.2.1
 clear hR
 refine callsIn_of_wp Try.func54 rfl trivial ?_ rfl
 simp only [Try.ntmps54, List.size_toArray, List.length_cons, List.length_nil, Nat.reduceAdd, Nat.reduceSub, Array.replicate_succ, Array.replicate_zero, List.push_toArray, List.append_toArray, List.nil_append, List.cons_append]
 gi_wp2
 gi_loopw [9] (fun i wr => ∃ k : Nat, k ≤ l.length ∧ i = .int .i64 k ∧ J (all14.L ok l k 0) wr ∧ all14.Kp 0 g w wr ∧ W.heap.size ≤ wr.heap.size ∧ all14.Inv g wr)
  (fun i _ => l.length - (intOf i).toNat)
 case atStart => exact ⟨0, Nat.zero_le _, rfl, by simpa [all14.L_zero] using h0, hW, Nat.le_refl _, hI⟩
 case round =>
  obtain ⟨k, hk, rfl, hJs, hnx, hsz, hIr⟩ := hrel
  by_cases hlt : k < l.length
  ·obtain ⟨ad, eA, hx0, hx1⟩ := at_T34 hR0.out (k : Int) (by omega) (by omega)
   subst eA
   have hA' := hA ad rfl (by omega)
   replace hx0 := hnx.cell hI0 hx0 (by rw [all14.addb]; exact hA'.1) (by rw [all14.addb]; exact hA'.2)
   replace hx1 := hnx.cell hI0 hx1 (by show (ad.add _).block ≠ g; rw [all14.addb]; exact hA'.1) (by show all14.blk w g ≠ some (ad.add _).block; rw [all14.addb]; exact hA'.2)
   simp only [Int.toNat_natCast] at hx0 hx1
   generalize hxx : rd_T34 l (k : Int) = x at hx0 hx1
   have hB1 : all14.Kp 0 g w (wr.alloc (.cells #[.int .i64 x.f0, .int .u32 x.f1] 34)) := hnx.trans (.of_below (below_alloc (Below.refl _ wr) _))
   have hJ1 : J (all14.L ok l k 0) (wr.alloc (.cells #[.int .i64 x.f0, .int .u32 x.f1] 34)) := hJ _ _ _ none hJs (World.grownBy_alloc wr _ none) (fun r e => by cases e)
   have hP1 : all14.P 0 g wr.heap.size x (wr.alloc (.cells #[.int .i64 x.f0, .int .u32 x.f1] 34)) := all14.P.new hIr
   have hs1 : W.heap.size ≤ (wr.alloc (.cells #[.int .i64 x.f0, .int .u32 x.f1] 34)).heap.size := by simp; omega
   gi_wp2
   clear hJs hnx hsz hIr hx0 hx1
   generalize wr.heap.size = eb at *
   generalize wr.alloc (.cells #[.int .i64 x.f0, .int .u32 x.f1] 34) = wa at *
   gi_loopw [14] (fun i wr => ∃ j : Nat, j ≤ 32 ∧ i = .int .i64 j ∧ J (all14.L ok l k j) wr ∧ all14.Kp 0 g w wr ∧ W.heap.size ≤ wr.heap.size ∧ all14.P 0 g eb x wr)
    (fun i _ => 32 - (intOf i).toNat)
   case atStart => exact ⟨0, by omega, rfl, hJ1, hB1, hs1, hP1⟩
   case round =>
    obtain ⟨j, hj, rfl, hJs, hnx, hsz, hP⟩ := hrel
    by_cases hj2 : j < 32
    ·have hbk2 : wr.cell? ⟨gk, 0, none⟩ = some (.bool ok) := hnx.cell hI0 ((blk_cell hbk 0).trans rfl) hgk.1 hgk.2
     have he0 : wr.cell? ⟨eb, 0, none⟩ = some (.int .i64 x.f0) := (blk_cell hP.box 0).trans rfl
     have he1 : wr.cell? ⟨eb, 1, none⟩ = some (.int .u32 x.f1) := (blk_cell hP.box 1).trans rfl
     cases ok with
     | false =>
      rw [← all14.L_no false l k j rfl] at hJs
      gi_wp2_with (refine ⟨trivial, ?_⟩)
      refine ⟨fun _ e => (by cases e), ?_⟩
      gi_wp2
      go_roundw
      case rel => exact ⟨j + 1, by omega, by simp, hJs, hnx, hsz, hP⟩
      case measure => simp [intOf]; omega
     | true =>
      have hK := Aside0.mk hP
      have hJ2 := Aside0.mk hJs
      have hget := all14.get x j hj2
      cases hbit : all14.bit x j with
      | false =>
       rw [hbit] at hget
       rw [← all14.L_no true l k j (by rw [hxx, hbit]; rfl)] at hJs
       gi_wp2_with (first
        | (refine ⟨trivial, ?_⟩; gi_at_call 45; refine (callsIn_wide.2 (table_row.calls x.f0 x.f1 _ _ rfl)).mono ?_; rintro e w2 ⟨v0, rfl, hRow, hB2⟩; obtain ⟨Ar, cr, rfl⟩ := own_slice hRow.2.choose_spec.1; have hq := Kd.R_reads' hRow)
        | (refine ⟨trivial, ?_⟩; gi_at_call 44; refine (callsIn_wide.2 (bits_Get.calls _ _ (all14.row x) _ _ _ hq.2.2 hq.2.1 hget)).mono ?_; rintro e w3 ⟨rfl, hd3⟩))
       refine ⟨fun _ e => (by cases e), ?_⟩
       gi_wp2
       have hB3 : Below wr.heap.size wr w3 := below_step hB2 hd3.below
       go_roundw
       case rel => exact ⟨j + 1, by omega, by simp, hJ _ _ _ none hJs (grown_of_below hB3 none) (fun r e => by cases e), hnx.trans (.of_below hB3), Nat.le_trans hsz hB3.size, hP.below hB3⟩
       case measure => simp [intOf]; omega
      | true =>
       rw [hbit] at hget
       have hyes := all14.L_yes l k j (by rw [hxx]; exact hbit)
       have hlen : (all14.L true l k j).length < (all14.L true l l.length 0).length := by
        have h1 := (all14.L_pre true l k (j + 1) hlt (by omega)).length_le
        rw [hyes, List.length_append] at h1; simp only [List.length_cons, List.length_nil] at h1; omega
       gi_wp2_with (first
        | (refine ⟨trivial, ?_⟩; gi_at_call 45; refine (callsIn_wide.2 (table_row.calls x.f0 x.f1 _ _ rfl)).mono ?_; rintro e w2 ⟨v0, rfl, hRow, hB2⟩; obtain ⟨Ar, cr, rfl⟩ := own_slice hRow.2.choose_spec.1; have hq := Kd.R_reads' hRow)
        | (refine ⟨trivial, ?_⟩; gi_at_call 44; refine (callsIn_wide.2 (bits_Get.calls _ _ (all14.row x) _ _ _ hq.2.2 hq.2.1 hget)).mono ?_; rintro e w3 ⟨rfl, hd3⟩; have hB3 : Below wr.heap.size wr w3 := below_step hB2 hd3.below; obtain ⟨fn, tmps, assign, body, hy, hY1⟩ := hY (all14.L true l k j) ((k : Int), (j : Int)) w3 (hJ _ _ _ none hJs (grown_of_below hB3 none) (fun r e => by cases e)) hlen ⟨by simp, by simpa using hlt⟩))
       refine hY1.mono ?_
       rintro e W3 (⟨rfl, hJ3, hk3⟩ | ⟨rfl, hJx3⟩)
       ·have hP3 := (hP.below hB3).kp hk3
        have hs3 := Nat.le_trans hsz (Nat.le_trans hB3.size hk3.below.size)
        gi_wp2
        go_roundw
        case rel => exact ⟨j + 1, by omega, by simp, by rw [hyes]; exact hJ3, (hnx.trans (.of_below hB3)).trans hk3, hs3, hP3⟩
        case measure => simp [intOf]; omega
       ·gi_wp2
        refine bodyPost_ret (results_none rfl _ _ _) rfl ?_
        exact ⟨⟨_, rfl⟩, .inr ⟨_, by rw [← hyes]; exact all14.L_pre true l k (j + 1) hlt (by omega), hJx3⟩⟩
    ·obtain rfl : j = 32 := by omega
     rw [← all14.L_row] at hJs
     gi_wp2
     go_roundw
     case rel => exact ⟨k + 1, by omega, by simp, hJs, hnx, hsz, hP.inv⟩
     case measure => simp [intOf]; omega
  ·obtain rfl : k = l.length := by omega
   gi_wp2
   go_end0
   exact ⟨⟨_, rfl⟩, .inl ⟨_, rfl, hJs⟩⟩
set_option maxRecDepth 100000 in
set_option maxHeartbeats 2000000 in
theorem all14.made (k : Nat) (A : Option Addr) (c : Nat) (l : List S34) (ck : Int) (w : World) (hr : Kd.C k34 w A l.length l) (hcp : l.length ≤ c) (h1 : table_Check.f k l = some ck) (h2 : l.length * 16 ≤ 140737488355328) :
  Calls Try.prog 23 #[.agg #[.slice A l.length c]] w fun e w' => ∃ (gl gk : Nat) (A' : Option Addr) (c' : Nat), e = .returned (.func (.func 54) #[] #[.pointer (some ⟨gl, 0, none⟩), .pointer (some ⟨gk, 0, none⟩)]) ∧
   w'.heap[gl]? = some (.cells #[.slice A' l.length c'] 22 (0, 0)) ∧ w'.heap[gk]? = some (.cells #[.bool (ck == 0)] 4 (0, 0)) ∧ Kd.C k34 w' A' l.length l ∧ Below w.heap.size w w' ∧ w.heap.size ≤ gl ∧ w.heap.size ≤ gk ∧ (∀ ad, A' = some ad → w.heap.size ≤ ad.block) := by
 have hu22 := Try.underlying22
 have hu24 := Try.underlying24
 have hr1 := hr
 have HK := Aside0.mk (fun W (hb : Below w.heap.size w W) => table_Check.calls k A c l ck W (Kd.C_below hr hb) hcp h1)
 have HL := Aside0.mk (fun W (hb : Below w.heap.size w W) => clone_api_Entry.calls A c l l W (Kd.C_below hr hb) hcp (by unfold clone_api_Entry.f; rw [if_pos h2]))
 clear hr h1 h2
 go_enter Try.func23, Try.ntmps23
 go_wp2_with (first
  | (go_at_call 19; refine (HK.out _ (below_alloc (Below.refl _ w) _)).mono ?_; rintro e w1 ⟨rfl, hB1⟩; have hbx := blk_below (blk_new w _) hB1; have hB2 := below_step (below_alloc (Below.refl _ w) _) hB1; have hcx : (w1.alloc (.cells #[.bool (ck == 0)] 4)).cell? ⟨w.heap.size, 0, none⟩ = some (.slice A l.length c) := (blk_cell (by apply blk_alloc; exact hbx) 0).trans rfl)
  | (go_at_call 49; refine (HL.out _ (below_alloc hB2 _)).mono ?_; rintro e w2 ⟨v0, rfl, hRow, hB3⟩; obtain ⟨A', c', rfl⟩ := own_slice hRow.2.choose_spec.1; have hq := Kd.R_reads' hRow))
 go_ret
 exact ⟨w2.heap.size, w1.heap.size, A', c', rfl, blk_new _ _, blk_alloc (blk_below (blk_new w1 _) hB3) _, Kd.C_below hq.2.2 (below_alloc (Below.refl _ _) _), below_alloc (below_step (below_alloc hB2 _) hB3) _, Nat.le_trans hB2.size (Nat.le_trans (by simp) hB3.size), hB2.size, fun ad e => by
  rcases hRow.2.choose_spec.1.2 with ⟨h, _⟩ | ⟨g', cap, cur, h, hb, _⟩
  ·subst e; cases h
  ·subst e; cases h; exact Nat.le_trans (Nat.le_trans hB2.size (by simp)) hb⟩
theorem all14.stops (n : Nat) (hn : 1 ≤ n) (g gl gk : Nat) (A : Option Addr) (c : Nat) (l : List S34) (ok : Bool) (w : World) (hI : all14.Inv g w) (hgl : gl ≠ g ∧ all14.blk w g ≠ some gl) (hgk : gk ≠ g ∧ all14.blk w g ≠ some gk) (hA : ∀ ad, A = some ad → 0 < l.length → ad.block ≠ g ∧ all14.blk w g ≠ some ad.block)
  (hbl : w.heap[gl]? = some (.cells #[.slice A l.length c] 22 (0, 0))) (hbk : w.heap[gk]? = some (.cells #[.bool ok] 4 (0, 0))) (hR : Kd.C k34 w A l.length l) :
  SeqStopsK Fence.wide n Try.prog 54 #[.pointer (some ⟨gl, 0, none⟩), .pointer (some ⟨gk, 0, none⟩)] (fun x : Int × Int => #[.int .i64 x.1, .int .i64 x.2]) (all14.Kp 0 g) (fun ys => ys = all14.L ok l l.length 0) (fun pre => pre <+: all14.L ok l l.length 0) (all14.L ok l l.length 0).length w :=
 fun y J Jx W hW hJ _ hY h0 => all14.each n hn y g gl gk A c l ok J Jx w hI hgl hgk hA hbl hbk hR W (.of_below hW) (hI.below hW) hJ (fun pre x W1 h1 h2 _ => hY pre x W1 h1 h2) h0
theorem all14.stops2 (n : Nat) (hn : 1 ≤ n) (g gl gk : Nat) (A : Option Addr) (c : Nat) (l : List S34) (ok : Bool) (w : World) (hI : all14.Inv g w) (hgl : gl ≠ g ∧ all14.blk w g ≠ some gl) (hgk : gk ≠ g ∧ all14.blk w g ≠ some gk) (hA : ∀ ad, A = some ad → 0 < l.length → ad.block ≠ g ∧ all14.blk w g ≠ some ad.block)
  (hbl : w.heap[gl]? = some (.cells #[.slice A l.length c] 22 (0, 0))) (hbk : w.heap[gk]? = some (.cells #[.bool ok] 4 (0, 0))) (hR : Kd.C k34 w A l.length l) :
  SeqStopsK Fence.wide n Try.prog 54 #[.pointer (some ⟨gl, 0, none⟩), .pointer (some ⟨gk, 0, none⟩)] (fun x : {x : Int × Int // 0 ≤ x.1 ∧ x.1 < l.length} => #[.int .i64 x.1.1, .int .i64 x.1.2]) (all14.Kp 0 g) (fun ys => ys.map Subtype.val = all14.L ok l l.length 0) (fun pre => pre.map Subtype.val <+: all14.L ok l l.length 0) (all14.L ok l l.length 0).length w := by
 intro y J Jx W hW hJ _ hY h0
 refine (all14.each n hn y g gl gk A c l ok (fun zs W => ∃ pre : List {x : Int × Int // 0 ≤ x.1 ∧ x.1 < l.length}, pre.map Subtype.val = zs ∧ J pre W) (fun zs W => ∃ pre : List {x : Int × Int // 0 ≤ x.1 ∧ x.1 < l.length}, pre.map Subtype.val = zs ∧ Jx pre W) w hI hgl hgk hA hbl hbk hR W (.of_below hW) (hI.below hW) ?_ ?_ ⟨[], rfl, h0⟩).mono ?_
 ·rintro zs W1 W2 row ⟨pre, e, h1⟩ hg hr
  exact ⟨pre, e, hJ _ _ _ row h1 hg hr⟩
 ·rintro zs x W1 ⟨pre, rfl, h1⟩ hlt hx
  refine (hY pre ⟨x, hx⟩ W1 h1 (by simpa using hlt)).mono ?_
  rintro e W2 (⟨he, hj, hk⟩ | ⟨he, hj⟩)
  ·exact .inl ⟨he, ⟨_, by simp, hj⟩, hk⟩
  ·exact .inr ⟨he, ⟨_, by simp, hj⟩⟩
 ·rintro e W2 ⟨hv, ⟨ys, rfl, pre, e1, hj⟩ | ⟨zs, hz, pre, rfl, hj⟩⟩
  ·exact ⟨hv, .inl ⟨pre, e1, hj⟩⟩
  ·exact ⟨hv, .inr ⟨pre, hz, hj⟩⟩
theorem all14.src {w : World} {A : Option Addr} {l : List S34} (hR : Kd.C k34 w A l.length l) (ad : Addr) (e : A = some ad) (h : 0 < l.length) : ad.block < w.heap.size := by
 obtain ⟨ad', e', hx0, _⟩ := at_T34 hR 0 (by omega) (by omega)
 obtain rfl : ad' = ad := Option.some.inj (e'.symm.trans e)
 have := World.block_lt_of_cell? w _ hx0
 rwa [all14.addb] at this
theorem all14.Kp.app {W w1 : World} {n0 n1 g : Nat} {t e : TypeId} {size : Nat} {v v' : Value} {k m : Nat} {xs ys : List Value} {tmp : Obj} (hn : n0 ≤ n1) (hv : Boxed W g t v) (hte : t ≠ e) (hrow : W.ownsRow n1 e size v k xs) (hn₀ : n1 ≤ W.heap.size) (hB : n1 ≤ g)
  (hown' : w1.ownsRow n1 e size v' m ys) (hgrow : (W.alloc tmp).grownBy w1 v.ownBlock) (hat : v'.ownBlock = v.ownBlock ∨ v'.ownBlock = some (W.alloc tmp).heap.size) : all14.Kp n0 g W (w1.setCell ⟨g, 0, none⟩ v') := by
 obtain ⟨hv1, hv2, hr2, hk2, hb2⟩ := hv.appended hte hrow hn₀ hB hown' hgrow
 refine ⟨hb2.mono hn, fun i => ?_⟩
 have e1 : all14.blk W g = v.ownBlock := by simp only [all14.blk, hv.cell, Option.bind_some]
 have e2 : all14.blk (w1.setCell ⟨g, 0, none⟩ v') g = v'.ownBlock := by simp only [all14.blk, hv2.cell, Option.bind_some]
 refine ⟨⟨hv2.lt, fun b hb => ?_⟩, fun b hb => ?_, fun j cs t f hj hg hn => ?_⟩
 ·rw [e2] at hb
  rcases hr2.2 with ⟨rfl, _⟩ | ⟨g', cap, cur, rfl, _, hgb, _⟩
  ·cases hb
  ·obtain rfl := Option.some.inj hb
   exact (Array.getElem?_eq_some_iff.1 hgb).1
 ·rw [e2] at hb; rw [e1]
  rcases hat with h | h
  ·left; rw [← h]; exact hb
  ·right; rw [h] at hb; obtain rfl := Option.some.inj hb; simp
 ·have hlt := (Array.getElem?_eq_some_iff.1 hj).1
  rw [Below.heap_setCell _ _ _ _ (by exact hg), hgrow.block j (by simp; omega) (by rw [e1] at hn; exact fun e => hn e.symm), Below.heap_alloc _ _ _ hlt]
  exact hj
end
section
def sum14.add (t x : S41) : S41 := ⟨wrap64 (t.f0 + x.f0), wrap64 (t.f1 + x.f1), wrap64 (t.f2 + x.f2)⟩
def sum14.of (l : List S41) : S41 := l.foldl sum14.add ⟨0, 0, 0⟩
theorem sum14.step (l : List S41) (k : Nat) (h : k < l.length) : sum14.of (l.take (k + 1)) = sum14.add (sum14.of (l.take k)) l[k] := by
 simp only [sum14.of, List.take_add_one, List.getElem?_eq_getElem h, List.foldl_append, Option.toList_some, List.foldl_cons, List.foldl_nil]
set_option maxRecDepth 100000 in
set_option maxHeartbeats 4000000 in
theorem sum14.calls (A : Option Addr) (c : Nat) (l : List S41) (w : World) (hR : Kd.C k41 w A l.length l) :
  Calls Try.prog 53 #[.slice A l.length c] w fun e w' => e = .returned (.agg #[.int .i64 (sum14.of l).f0, .int .i64 (sum14.of l).f1, .int .i64 (sum14.of l).f2]) ∧ Below w.heap.size w w' := by
 have hu41 := Try.underlying41
 have hu83 := Try.underlying83
 have hR0 := Aside0.mk hR
 have hm : l.length ≤ 9223372036854775807 := hR.2.1
 clear hR
 go_enter Try.func53, Try.ntmps53
 go_wp2
 go_loopw [8] (fun i wr => ∃ k : Nat, k ≤ l.length ∧ i = .int .i64 k ∧ Below w.heap.size w wr ∧ wr.heap[w.heap.size]? = some (.cells #[.int .i64 0, .int .i64 0, .int .i64 0] 41 (0, 0)) ∧
   wr.heap[w.heap.size + 1]? = some (.cells #[.int .i64 (sum14.of (l.take k)).f0, .int .i64 (sum14.of (l.take k)).f1, .int .i64 (sum14.of (l.take k)).f2] 41 (0, 0)))
  (fun i _ => l.length - (intOf i).toNat)
 case atStart =>
  have h1 := blk_new w (.cells #[.int .i64 0, .int .i64 0, .int .i64 0] 41)
  have h2 := blk_new (w.alloc (.cells #[.int .i64 0, .int .i64 0, .int .i64 0] 41)) (.cells #[.int .i64 0, .int .i64 0, .int .i64 0] 41)
  exact ⟨0, Nat.zero_le _, rfl, below_alloc (below_alloc (Below.refl _ w) _) _, blk_alloc h1 _, by simpa [sum14.of] using h2⟩
 case round =>
  obtain ⟨k, hk, rfl, hnx, hb0, hb1⟩ := hrel
  by_cases hlt : k < l.length
  ·obtain ⟨ad, eA, hx0, hx1, hx2⟩ := at_T41 hR0.out (k : Int) (by omega) (by omega)
   subst eA
   replace hx0 := pw_cell_below hnx hx0
   replace hx1 := pw_cell_below hnx hx1
   replace hx2 := pw_cell_below hnx hx2
   simp only [Int.toNat_natCast] at hx0 hx1 hx2
   have hst := sum14.step l k hlt
   have hxk : l[k] = rd_T41 l (k : Int) := by simp [rd_T41, hlt]
   rw [hxk] at hst
   generalize rd_T41 l (k : Int) = x at hx0 hx1 hx2 hst
   generalize sum14.of (l.take k) = s at hb1 hst
   have hwa := below_alloc hnx (.cells #[.int .i64 x.f0, .int .i64 x.f1, .int .i64 x.f2] 41)
   have hnew := blk_new wr (.cells #[.int .i64 x.f0, .int .i64 x.f1, .int .i64 x.f2] 41)
   have hb0' := blk_alloc hb0 (.cells #[.int .i64 x.f0, .int .i64 x.f1, .int .i64 x.f2] 41)
   have hb1' := blk_alloc hb1 (.cells #[.int .i64 x.f0, .int .i64 x.f1, .int .i64 x.f2] 41)
   have hne : wr.heap.size ≠ w.heap.size + 1 := by have := blk_lt hb1; omega
   go_wp2
   generalize wr.heap.size = eb at *
   generalize wr.alloc (.cells #[.int .i64 x.f0, .int .i64 x.f1, .int .i64 x.f2] 41) = wa at *
   have c0 : wa.cell? ⟨w.heap.size + 1, 0, none⟩ = some (.int .i64 s.f0) := (blk_cell hb1' 0).trans rfl
   have c1 : wa.cell? ⟨w.heap.size + 1, 1, none⟩ = some (.int .i64 s.f1) := (blk_cell hb1' 1).trans rfl
   have c2 : wa.cell? ⟨w.heap.size + 1, 2, none⟩ = some (.int .i64 s.f2) := (blk_cell hb1' 2).trans rfl
   have f0 := blk_frozen hb1' 0
   have f1 := blk_frozen hb1' 1
   have f2 := blk_frozen hb1' 2
   have d0 : wa.cell? ⟨eb, 0, none⟩ = some (.int .i64 x.f0) := (blk_cell hnew 0).trans rfl
   have d1 : wa.cell? ⟨eb, 1, none⟩ = some (.int .i64 x.f1) := (blk_cell hnew 1).trans rfl
   have d2 : wa.cell? ⟨eb, 2, none⟩ = some (.int .i64 x.f2) := (blk_cell hnew 2).trans rfl
   go_region
   go_wp2
   go_roundw
   case rel =>
    refine ⟨k + 1, by omega, by simp, below_drew ?_, ?_, ?_⟩
    ·exact below_set (below_set (below_set hwa (by omega)) (by omega)) (by omega)
    ·exact blk_far (blk_far (blk_far hb0' (by simp) _) (by simp) _) (by simp) _
    ·rw [hst]
     exact blk_put (blk_put (blk_put hb1' 0 _ rfl) 1 _ rfl) 2 _ rfl
   case measure => simp [intOf]; omega
  ·obtain rfl : k = l.length := by omega
   have c0 : wr.cell? ⟨w.heap.size + 1, 0, none⟩ = some (.int .i64 (sum14.of (l.take l.length)).f0) := (blk_cell hb1 0).trans rfl
   have c1 : wr.cell? ⟨w.heap.size + 1, 1, none⟩ = some (.int .i64 (sum14.of (l.take l.length)).f1) := (blk_cell hb1 1).trans rfl
   have c2 : wr.cell? ⟨w.heap.size + 1, 2, none⟩ = some (.int .i64 (sum14.of (l.take l.length)).f2) := (blk_cell hb1 2).trans rfl
   have e0 : wr.cell? ⟨w.heap.size, 0, none⟩ = some (.int .i64 0) := (blk_cell hb0 0).trans rfl
   have e1 : wr.cell? ⟨w.heap.size, 1, none⟩ = some (.int .i64 0) := (blk_cell hb0 1).trans rfl
   have e2 : wr.cell? ⟨w.heap.size, 2, none⟩ = some (.int .i64 0) := (blk_cell hb0 2).trans rfl
   have g0 := blk_frozen hb0 0
   have g1 := blk_frozen hb0 1
   have g2 := blk_frozen hb0 2
   go_wp2
   have hend : ((wr.setCell ⟨w.heap.size, 0, none⟩ (.int .i64 (sum14.of (l.take l.length)).f0)).setCell ⟨w.heap.size, 1, none⟩ (.int .i64 (sum14.of (l.take l.length)).f1)).setCell ⟨w.heap.size, 2, none⟩ (.int .i64 (sum14.of (l.take l.length)).f2) |>.heap[w.heap.size]? = some (.cells #[.int .i64 (sum14.of (l.take l.length)).f0, .int .i64 (sum14.of (l.take l.length)).f1, .int .i64 (sum14.of (l.take l.length)).f2] 41 (0, 0)) :=
    blk_put (blk_put (blk_put hb0 0 _ rfl) 1 _ rfl) 2 _ rfl
   simp only [List.take_length] at hend ⊢
   refine bodyPost_ret (results_cell_row rfl _ _ w.heap.size 41 #[.int .i64 (sum14.of l).f0, .int .i64 (sum14.of l).f1, .int .i64 (sum14.of l).f2] (0, 0) _ rfl hend Try.underlying41 rfl (by kernel_rfl)) rfl ?_
   exact ⟨rfl, below_set (below_set (below_set hnx (Nat.le_refl _)) (Nat.le_refl _)) (Nat.le_refl _)⟩
end
section
open Go.Shelf
attribute [local go_sem] Oper.semAt_some
def cnt14.one (cl s : Int) (e : S34) : List S41 := if e.f0 = cl then [⟨1, s, 0⟩] else []
def cnt14.exts (cl s : Int) (l : List S34) : List S41 := l.flatMap (cnt14.one cl s)
def cnt14.hit (l : List S34) (cl : Int) (x : Int × Int) : List S41 := if (rd_T34 l x.1).f0 = cl then [⟨0, 0, 1⟩] else []
def cnt14.all (cl s : Int) (l : List S34) (xs : List (Int × Int)) : List S41 := cnt14.exts cl s l ++ xs.flatMap (cnt14.hit l cl)
def table_Count.f (k : Nat) (l : List S34) (cl : Int) : Option (Int × Int × Int) :=
 (table_Check.f k l).bind fun ck => if ck = 0 then (geom_Slots.f cl).bind fun s => some ((sum14.of (cnt14.all cl s l (all14.L true l l.length 0))).f0, (sum14.of (cnt14.all cl s l (all14.L true l l.length 0))).f1, (sum14.of (cnt14.all cl s l (all14.L true l l.length 0))).f2) else some (0, 0, 0)
theorem table_Count.mono : ∀ a0 a1 k, LeO (table_Count.f k a0 a1) (table_Count.f (k + 1) a0 a1) := by
 intro a0 a1 k r h
 unfold table_Count.f at h ⊢
 obtain ⟨ck, hk, h⟩ := Option.bind_eq_some_iff.1 h
 rw [table_Check.mono a0 k ck hk]
 exact h
theorem cnt14.few {k : Nat} {l : List S34} (h : table_Check.f k l = some 0) : l.length ≤ 256 := by
 unfold table_Check.f at h
 split at h
 ·cases h
 ·split at h
  ·cases h
  ·omega
theorem cnt14.ones_len (i : Nat) (x : S34) (k : Nat) : (all14.ones i x k).length ≤ k := by
 simp only [all14.ones, List.length_map]; exact Nat.le_trans (List.length_filter_le _ _) (by simp)
theorem cnt14.upto_len (l : List S34) : ∀ i, (all14.upto l i).length ≤ 32 * i
 | 0 => by simp [all14.upto]
 | i + 1 => by
  have h := cnt14.upto_len l i
  have h2 := cnt14.ones_len i (rd_T34 l (i : Int)) 32
  simp only [all14.upto, List.range_succ, List.flatMap_append, List.flatMap_cons, List.flatMap_nil, List.append_nil, List.length_append] at h ⊢
  omega
theorem cnt14.L_len (ok : Bool) (l : List S34) (i k : Nat) : (all14.L ok l i k).length ≤ 32 * i + k := by
 cases ok
 ·simp [all14.L]
 ·have h := cnt14.upto_len l i
  have h2 := cnt14.ones_len i (rd_T34 l (i : Int)) k
  simp only [all14.L, if_true, List.length_append]; omega
theorem cnt14.flat_len {α β : Type} (f : α → List β) (h : ∀ x, (f x).length ≤ 1) : ∀ l : List α, (l.flatMap f).length ≤ l.length
 | [] => by simp
 | x :: l => by have := cnt14.flat_len f h l; have := h x; simp only [List.flatMap_cons, List.length_append, List.length_cons]; omega
theorem cnt14.exts_len (cl s : Int) (l : List S34) : (cnt14.exts cl s l).length ≤ l.length := cnt14.flat_len _ (fun x => by unfold cnt14.one; split <;> simp) l
theorem cnt14.hits_len (cl : Int) (l : List S34) (xs : List (Int × Int)) : (xs.flatMap (cnt14.hit l cl)).length ≤ xs.length := cnt14.flat_len _ (fun x => by unfold cnt14.hit; split <;> simp) xs
def cnt14.cells (pre : List S41) : List Value := (pre.map fun x => [.int .i64 x.f0, .int .i64 x.f1, .int .i64 x.f2]).flatten
theorem cnt14.reps (W : World) (base : Nat) (ok : Nat → Prop) : ∀ pre : List S41, Reps (k41.M W base ok) k41.sz pre (cnt14.cells pre)
 | [] => Reps.none _ _
 | x :: pre => Kd.reps_append (Reps.snoc (Reps.none (k41.M W base ok) k41.sz) (k41_mkM W base ok x) rfl) (cnt14.reps W base ok pre)
theorem cnt14.row {W : World} {base : Nat} {v : Value} {pre : List S41} (h : W.ownsRow base 41 3 v pre.length (cnt14.cells pre)) : Kd.R k41 41 W base (fun _ => True) v pre :=
 ⟨fun _ _ => trivial, cnt14.cells pre, h, cnt14.reps W base _ pre⟩
theorem cnt14.exts_step (cl s : Int) (l : List S34) (k : Nat) (h : k < l.length) : cnt14.exts cl s (l.take (k + 1)) = cnt14.exts cl s (l.take k) ++ cnt14.one cl s (rd_T34 l (k : Int)) := by
 have hx : rd_T34 l (k : Int) = l[k] := by simp [rd_T34, h]
 rw [hx]
 simp only [cnt14.exts, List.take_add_one, List.getElem?_eq_getElem h, List.flatMap_append, Option.toList_some, List.flatMap_cons, List.flatMap_nil, List.append_nil]
theorem cnt14.cells_add (pre : List S41) (x : S41) : cnt14.cells (pre ++ [x]) = cnt14.cells pre ++ [.int .i64 x.f0, .int .i64 x.f1, .int .i64 x.f2] := by simp [cnt14.cells]
def cnt14.Col (g : Nat) (pre : List S41) (W : World) : Prop := ∃ v, Boxed W g 83 v ∧ W.ownsRow g 41 3 v pre.length (cnt14.cells pre)
theorem cnt14.step_call {P : Program} {ops : Array Oper} {o : Oper} {a : Act} {w : World} {K : Act → World → Prop} {Q : Exit → Act → World → Prop} {E : Prop} (f : Nat) (xs : Array Operand) (ts : Array TypeId) (vs : Array Value)
  (hg : o.guard = none) (ho : o.op = Op.call { callee := Callee.value (Operand.func f), args := xs, argTypes := ts }) (hvs : xs.map a.eval = vs) (he : (callFunc f vs).run P w = .ok (.enter f vs) w)
  (h : Calls P f vs w fun e w' => ∃ v, e = .returned v ∧ K (a.put o.dst v) w') :
  if Region.wanted o (yielded ops a.tmps) = true then Oper.wp P o a w K Q else E := by
 have hw : Region.wanted o (yielded ops a.tmps) = true := by simp [Region.wanted, hg]
 rw [if_pos hw]
 have hx : (execOp a.eval o).run P w = .ok (.enter f vs) w := by
  have hv2 : xs.toList.map a.eval = vs.toList := by rw [← hvs]; simp
  simp [execOp, ho, resolve, invoke, Act.eval, Deferred.ofValue, Sem.run_pure, hvs, he]
 rw [Oper.wp, hx, Oper.upon_enter]
 refine h.mono ?_
 rintro e w' ⟨v, rfl, hk⟩
 exact hk
theorem cnt14.info : (Try.prog.info? 41).map (fun i => (i.zero, i.size, i.bytes)) = some (some (.agg #[.int .i64 0, .int .i64 0, .int .i64 0]), 3, 24) := by kernel_rfl
set_option maxRecDepth 100000 in
set_option maxHeartbeats 8000000 in
theorem table_Count.calls (k : Nat) (A : Option Addr) (c : Nat) (l : List S34) (cl : Int) (r1 r2 r3 : Int) (w : World) (hr : Kd.C k34 w A l.length l) (hcp : l.length ≤ c) (h : table_Count.f k l cl = some (r1, r2, r3)) :
  Calls Try.prog 21 #[.agg #[.slice A l.length c], .int .i64 cl] w fun e w' => e = .returned (.agg #[.int .i64 r1, .int .i64 r2, .int .i64 r3]) ∧ Below w.heap.size w w' := by
 obtain ⟨ck, hck, h⟩ := Option.bind_eq_some_iff.1 h
 obtain ⟨i0, hi, hz0, hz1, hz2⟩ := info_parts cnt14.info
 have hu22 := Try.underlying22
 have hu24 := Try.underlying24
 have hu34 := Try.underlying34
 have hu41 := Try.underlying41
 have hu83 := Try.underlying83
 have hr0 := Aside0.mk hr
 have HK := Aside0.mk (fun W (hb : Below w.heap.size w W) => table_Check.calls k A c l ck W (Kd.C_below hr hb) hcp hck)
 have hckA := Aside0.mk hck
 clear hr hck
 refine (callsIn_wide (n := 10)).1 ?_
 refine callsIn_of_wp_marks Try.func21 rfl trivial ?_ rfl
 refine wpIn_wide.2 ?_
 simp only [Try.ntmps21, List.size_toArray, List.length_cons, List.length_nil, Nat.reduceAdd, Nat.reduceSub, Array.replicate_succ, Array.replicate_zero, List.push_toArray, List.append_toArray, List.nil_append, List.cons_append]
 by_cases h0 : ck = 0
 ·subst h0
  rw [if_pos rfl] at h
  obtain ⟨s, hs, h⟩ := Option.bind_eq_some_iff.1 h
  simp only [Option.some.injEq, Prod.mk.injEq] at h
  obtain ⟨rfl, rfl, rfl⟩ := h
  go_wp2_with (go_at_call 19; refine (HK.out _ (below_alloc (below_alloc (below_alloc (Below.refl _ w) _) _) _)).mono ?_; rintro e w1 ⟨rfl, hB1⟩; have hm1 := blk_below (blk_alloc (blk_alloc (blk_new w (.cells #[.slice A l.length c] 24)) _) _) hB1; have hc1 := blk_below (blk_alloc (blk_new (w.alloc (.cells #[.slice A l.length c] 24)) (.cells #[.int .i64 cl] 3)) _) hB1; have ht1 := blk_below (blk_new ((w.alloc (.cells #[.slice A l.length c] 24)).alloc (.cells #[.int .i64 cl] 3)) (.cells #[.int .i64 0, .int .i64 0, .int .i64 0] 41)) hB1; have hB2 := below_step (below_alloc (below_alloc (below_alloc (Below.refl _ w) _) _) _) hB1; have hcm : (w1.alloc (.cells #[.slice none 0 0] 83)).cell? ⟨w.heap.size, 0, none⟩ = some (.slice A l.length c) := (blk_cell (blk_alloc hm1 _) 0).trans rfl)
  simp only [World.size_alloc] at hc1 ht1
  clear hB1 hcm
  have hm : l.length ≤ 9223372036854775807 := hr0.out.2.1
  have hfew := cnt14.few hckA.out
  go_loopw [16] (fun i wr => ∃ j : Nat, j ≤ l.length ∧ i = .int .i64 j ∧ cnt14.Col w1.heap.size (cnt14.exts cl s (l.take j)) wr ∧ Below w1.heap.size w1 wr)
   (fun i _ => l.length - (intOf i).toNat)
  case atStart => exact ⟨0, Nat.zero_le _, rfl, ⟨_, Boxed.new w1 _ _, World.ownsRow_nil _ _ _ _⟩, below_alloc (Below.refl _ _) _⟩
  case round =>
   obtain ⟨j, hj, rfl, ⟨v, hv, hrow⟩, hnx⟩ := hrel
   by_cases hlt : j < l.length
   ·obtain ⟨ad, eA, hx0, hx1⟩ := at_T34 hr0.out (j : Int) (by omega) (by omega)
    subst eA
    replace hx0 := pw_cell_below hnx (pw_cell_below hB2 hx0)
    replace hx1 := pw_cell_below hnx (pw_cell_below hB2 hx1)
    simp only [Int.toNat_natCast] at hx0 hx1
    have hst := cnt14.exts_step cl s l j hlt
    generalize rd_T34 l (j : Int) = x at hx0 hx1 hst
    have hnew := blk_new wr (.cells #[.int .i64 x.f0, .int .u32 x.f1] 34)
    have hwa := hnx.trans ((below_alloc (Below.refl _ wr) (.cells #[.int .i64 x.f0, .int .u32 x.f1] 34)).mono hnx.size)
    have he0 : (wr.alloc (.cells #[.int .i64 x.f0, .int .u32 x.f1] 34)).cell? ⟨wr.heap.size, 0, none⟩ = some (.int .i64 x.f0) := (blk_cell hnew 0).trans rfl
    have hcc : (wr.alloc (.cells #[.int .i64 x.f0, .int .u32 x.f1] 34)).cell? ⟨w.heap.size + 1, 0, none⟩ = some (.int .i64 cl) := pw_cell_below hwa ((blk_cell hc1 0).trans rfl)
    have hrow2 := hrow.alloc (.cells #[.int .i64 x.f0, .int .u32 x.f1] 34)
    have hv2 := hv.alloc (.cells #[.int .i64 x.f0, .int .u32 x.f1] 34)
    by_cases hcl : x.f0 = cl
    ·simp only [hcl] at hx0 hnew hwa he0 hcc hrow2 hv2
     have hcg := hv2.cell
     have hnr := hv2.not_row (by decide) hrow2
     have hnl := cnt14.exts_len cl s (l.take j)
     have hne : w1.heap.size ≠ w.heap.size + 1 := by have := blk_lt hc1; omega
     rw [List.length_take] at hnl
     have hml : (cnt14.exts cl s (l.take j)).length + 1 ≤ maxLen := by simp only [maxLen]; omega
     have hbl : ((cnt14.exts cl s (l.take j)).length + 1) * 24 ≤ 140737488355328 := by omega
     have hws : w1.heap.size ≤ wr.heap.size := hnx.size
     have hnc : some (w.heap.size + 1) ≠ v.ownBlock := by
      intro e
      rcases hrow.2 with ⟨rfl, _⟩ | ⟨g', cap, cur, rfl, hgb, _⟩
      ·cases e
      ·obtain rfl := Option.some.inj e; have := blk_lt hc1; omega
     obtain ⟨Av, cv, rfl⟩ := own_slice hrow
     go_wp2
     have hwl : w1.heap.size ≤ (wr.alloc (.cells #[.int .i64 cl, .int .u32 x.f1] 34)).heap.size := by simp; omega
     generalize wr.alloc (.cells #[.int .i64 cl, .int .u32 x.f1] 34) = wa at *
     refine wp_region_noPanic ?_
     go_region_law
      (first
       | (refine cnt14.step_call 46 _ _ #[.int .i64 cl] (by rfl) (by rfl) (by simp [Act.eval]) (enters_of Try.func46 (by kernel_rfl) rfl _ _) ?_; refine (geom_Slots.calls cl s _ hs).mono ?_; rintro e w2 ⟨rfl, ⟨m2, rfl⟩⟩; refine ⟨_, rfl, ?_⟩; have hcgA : ((wa.drewN (1 + m2)).alloc (.cells #[.int .i64 1, .int .i64 s, .int .i64 0] 41)).cell? ⟨w1.heap.size, 0, none⟩ = some (.slice Av (cnt14.exts cl s (l.take j)).length cv) := pw_cell_below (below_alloc (pw_below_drewN (Below.refl _ wa) _) _) hcg)
       | ((refine step_append_lies _ (by rfl) _ _ _ (by rfl) w1.heap.size 41 i0 _ 3 24 Try.underlying83 hi hz0 hz1 hz2 rfl (by decide) (.slice Av (cnt14.exts cl s (l.take j)).length cv) _ _ (by rfl) (own_alloc (pw_own_drewN hrow2 _) _) ⟨wa.heap.size, 0, none⟩ 1 1 [.int .i64 1, .int .i64 s, .int .i64 0] (by rfl) (by rfl) (World.news_of_block (cs := #[.int .i64 1, .int .i64 s, .int .i64 0]) (t := 41) (fr := (0, 0)) (heap_alloc_new (wa.drewN _) _)) (by simp [Value.oneCell']) (by omega) hml hbl (by simp; omega) (wa.heap.size + 1) (by simp) ?_; intro g' cap' w3 hown' hgrow hat hlt3; obtain ⟨hv3, hv4, hr4, hk4, hb4⟩ := Boxed.appended (W := wa.drewN (1 + m2)) hv2 (by decide) (pw_own_drewN hrow2 _) hwl (Nat.le_refl _) hown' hgrow; have hc3 := hv3.cell; have hf3 := hv3.frozen; have hcc3 : w3.cell? ⟨w.heap.size + 1, 0, none⟩ = some (.int .i64 cl) := (hgrow.cell_far _ (by simp; have := blk_lt hc1; omega) hnc).trans (pw_cell_below (below_alloc (pw_below_drewN (Below.refl _ wa) _) _) hcc))))
     all_goals (simp only [NoPanic]; go_wp2; go_roundw)
     all_goals first
      | exact ⟨j + 1, by omega, by simp, ⟨_, hv4, by rw [hst, cnt14.one, if_pos hcl, cnt14.cells_add, List.length_append]; exact hr4⟩, (pw_below_drewN hwa _).trans hb4⟩
      | (simp [intOf]; omega)
    ·go_wp2
     go_roundw
     case rel => exact ⟨j + 1, by omega, by simp, by rw [hst, cnt14.one, if_neg hcl, List.append_nil]; exact ⟨v, hv2, hrow2⟩, hwa⟩
     case measure => simp [intOf]; omega
   ·obtain rfl : j = l.length := by omega
    rw [List.take_length] at hrow
    have hcm : wr.cell? ⟨w.heap.size, 0, none⟩ = some (.slice A l.length c) := pw_cell_below hnx ((blk_cell hm1 0).trans rfl)
    have HA := all14.made k A c l 0 wr (Kd.C_below (Kd.C_below hr0.out hB2) hnx) hcp hckA.out (by omega)
    go_wp2_with (go_at_call 23; refine HA.mono ?_; rintro e w3 ⟨gl, gk, A', c', rfl, hbl, hbk, hR3, hB3, hgl, hgk, hA3⟩)
    refine wpIn_wide (n := 10).1 ?_
    have hws : w1.heap.size ≤ wr.heap.size := hnx.size
    have hB4 : Below w1.heap.size w1 w3 := hnx.trans (hB3.mono hws)
    have hv3 := hv.kept (grown_of_below hB3 none) (by simp)
    have hrow3 := hrow.kept (grown_of_below hB3 none) (by cases v.ownBlock <;> simp)
    have hlv := hv.lt
    have hbv : ∀ b, v.ownBlock = some b → b < wr.heap.size := by
     intro b e
     rcases hrow.2 with ⟨rfl, _⟩ | ⟨g', cap, cur, rfl, _, hgb, _⟩
     ·cases e
     ·obtain rfl := Option.some.inj e; exact blk_lt hgb
    have hblk : all14.blk w3 w1.heap.size = v.ownBlock := by simp only [all14.blk, hv3.cell, Option.bind_some]
    have hIv : all14.Inv w1.heap.size w3 := ⟨hv3.lt, fun b e => by rw [hblk] at e; have := hbv b e; have := hB3.size; omega⟩
    have hne3 : ∀ b, wr.heap.size ≤ b → b ≠ w1.heap.size ∧ all14.blk w3 w1.heap.size ≠ some b := fun b hb => ⟨by omega, fun e => by rw [hblk] at e; have := hbv b e; omega⟩
    have hxl := cnt14.exts_len cl s l
    have hLl := cnt14.L_len true l l.length 0
    have hxs := all14.stops2 9 (by decide) w1.heap.size gl gk A' c' l true w3 hIv (hne3 gl hgl) (hne3 gk hgk) (fun ad e _ => hne3 _ (hA3 ad e)) hbl hbk hR3
    have hH := holdsRow_own w1.heap.size w1.heap.size 83 41 3 (fun pre : List {x : Int × Int // 0 ≤ x.1 ∧ x.1 < (l.length : Int)} => (cnt14.all cl s l (pre.map Subtype.val)).length) (fun pre => cnt14.cells (cnt14.all cl s l (pre.map Subtype.val))) (fun _ _ => True)
    refine wpIn_rangeFunc_ownG rfl (by decide) (gf := 54) (lb := #[.pointer (some ⟨gl, 0, none⟩), .pointer (some ⟨gk, 0, none⟩)]) rfl trivial (enters_of Try.func54 (by kernel_rfl) rfl)
     hxs all14.Kp.trans (fun W y o o' hl h hc hw => all14.Kp.put (Nat.zero_le _) W y o o' hl h hc hw hv3.lt) (Below.refl _ _) (fun _ => rfl)
     (fun pre W => (∃ v, Boxed W w1.heap.size 83 v ∧ W.ownsRow w1.heap.size 41 3 v (cnt14.all cl s l (pre.map Subtype.val)).length (cnt14.cells (cnt14.all cl s l (pre.map Subtype.val))) ∧ True) ∧ Below w1.heap.size w1 W)
     (fun c pre W => False)
     (OwnFrom.and (Own.from hH _) (ownFrom_below (by have := hv3.lt; omega) (by have := hv3.lt; omega)))
     (fun c => fun _ _ _ _ h => h.elim)
     ⟨⟨v, hv3, by simpa [cnt14.all] using hrow3, trivial⟩, hB4⟩
     (fun x => { tmps := #[.agg #[.slice A l.length c], .int .i64 cl, .pointer (some ⟨w.heap.size, 0, none⟩), .pointer (some ⟨w.heap.size + 1, 0, none⟩), .pointer (some ⟨w.heap.size + 1 + 1, 0, none⟩), .pointer (some ⟨w1.heap.size, 0, none⟩), undef, u7, .int .i64 x.1.1, .agg #[.slice A l.length c], .int .i64 0, .bool false, undef, .pointer (some ⟨w.heap.size, 0, none⟩), .slice A l.length c, .int .i64 l.length, .int .i64 l.length, .bool false, u18, u19, u20, u21, u22, u23, u24, u25, u26, u27, u28, u29, u30, .agg #[.slice A l.length c], .func (.func 54) #[] #[.pointer (some ⟨gl, 0, none⟩), .pointer (some ⟨gk, 0, none⟩)], .int .i64 x.1.1, .int .i64 x.1.2, undef, undef, undef, undef, undef, undef, undef, undef, undef, undef, undef, undef, undef, undef], defers := [] }) ?assign ?body ?done ?stop
    case assign =>
     intro y x W K hK
     gi_wp2
     exact hK
    case body =>
     rintro y pre x W ⟨⟨v, hv, hrow, -⟩, hBW⟩ hlt
     obtain ⟨x, hx0, hx1⟩ := x
     obtain ⟨ad, eA, hy0, _⟩ := at_T34 hr0.out x.1 hx0 hx1
     subst eA
     replace hy0 := pw_cell_below hBW (pw_cell_below hB2 hy0)
     have hcm : W.cell? ⟨w.heap.size, 0, none⟩ = some (.slice (some ad) l.length c) := pw_cell_below hBW ((blk_cell hm1 0).trans rfl)
     have hcc : W.cell? ⟨w.heap.size + 1, 0, none⟩ = some (.int .i64 cl) := pw_cell_below hBW ((blk_cell hc1 0).trans rfl)
     have hnx := cnt14.hits_len cl l (pre.map Subtype.val)
     rw [List.length_map] at hnx
     have hal : (cnt14.all cl s l (pre.map Subtype.val)).length = (cnt14.exts cl s l).length + ((pre.map Subtype.val).flatMap (cnt14.hit l cl)).length := by simp [cnt14.all]
     have hml : (cnt14.all cl s l (pre.map Subtype.val)).length + 1 ≤ maxLen := by simp only [maxLen]; omega
     have hbl2 : ((cnt14.all cl s l (pre.map Subtype.val)).length + 1) * 24 ≤ 140737488355328 := by omega
     clear hal
     have hko : KeepsFrom w3.heap.size W W.drew := KeepsOthers.from (⟨Nat.le_refl _, fun _ _ h _ => h⟩ : KeepsOthers W W.drew) _
     have hkd : all14.Kp 0 w1.heap.size W W.drew := all14.Kp.of_below (below_drew (Below.refl _ W))
     have hBD : Below w1.heap.size w1 W.drew := below_drew hBW
     have hvd : Boxed W.drew w1.heap.size 83 v := hv.kept (grown_of_below (below_drew (Below.refl _ W)) none) (by simp)
     have hrd : W.drew.ownsRow w1.heap.size 41 3 v (cnt14.all cl s l (pre.map Subtype.val)).length (cnt14.cells (cnt14.all cl s l (pre.map Subtype.val))) := hrow
     by_cases hcl : (rd_T34 l x.1).f0 = cl
     ·have hall : cnt14.all cl s l ((pre ++ [(⟨x, hx0, hx1⟩ : {x : Int × Int // 0 ≤ x.1 ∧ x.1 < (l.length : Int)})]).map Subtype.val) = cnt14.all cl s l (pre.map Subtype.val) ++ [⟨0, 0, 1⟩] := by
       simp [cnt14.all, cnt14.hit, hcl]
      rw [hcl] at hy0
      obtain ⟨Av, cv, rfl⟩ := own_slice hrow
      gi_wp2
      refine (fun (hkey : ?Hkey1) => ?main1) ?key1
      case main1 =>
       gi_region
       all_goals exact hkey
      case key1 =>
       have hwl : w1.heap.size ≤ W.drew.heap.size := hBD.size
       have hsz : W.heap.size = W.drew.heap.size := rfl
       clear hv hrow hBW hcm hcc hy0
       generalize W.drew = Wd at *
       have hc := hvd.cell
       gi_wp2_with (gi_at_builtin; refine wpListIn_append_own_at _ rfl _ _ 83 rfl w1.heap.size 41 i0 (.agg #[.int .i64 0, .int .i64 0, .int .i64 0]) 3 24 Try.underlying83 hi hz0 hz1 hz2 rfl (by decide) _ _ _ rfl (hrd.alloc _) ⟨Wd.heap.size, 0, none⟩ 1 1 [.int .i64 0, .int .i64 0, .int .i64 1] rfl rfl (World.news_of_block (cs := #[.int .i64 0, .int .i64 0, .int .i64 1]) (t := 41) (fr := (0, 0)) (heap_alloc_new Wd _)) (by simp [Value.oneCell']) hml hbl2 (by simp; omega) ?_; intro v' w5 hown' hgrow _ hat; have hkp := all14.Kp.app (n0 := 0) (Nat.zero_le _) hvd (by decide) hrd hwl (Nat.le_refl _) hown' hgrow hat; obtain ⟨g', cap', rfl⟩ := ownsRow_succ hown'; obtain ⟨hv1, hv2, hr2, hk2, hb2⟩ := hvd.appended (by decide) hrd hwl (Nat.le_refl _) hown' hgrow; have hc1 := hv1.cell; have hf1 := hv1.frozen)
       exact ⟨hko.trans (hk2.from _), hkd.trans hkp, ⟨_, hv2, by rw [hall, cnt14.cells_add, List.length_append]; exact hr2, trivial⟩, hBD.trans hb2⟩
     ·have hall : cnt14.all cl s l ((pre ++ [(⟨x, hx0, hx1⟩ : {x : Int × Int // 0 ≤ x.1 ∧ x.1 < (l.length : Int)})]).map Subtype.val) = cnt14.all cl s l (pre.map Subtype.val) := by
       simp [cnt14.all, cnt14.hit, hcl]
      gi_wp2
      refine (fun (hkey : ?Hkey2) => ?main2) ?key2
      case main2 =>
       gi_region
       all_goals exact hkey
      case key2 =>
       gi_wp2
       exact ⟨hko, hkd, ⟨_, hvd, by rw [hall]; exact hrd, trivial⟩, hBD⟩
    case done =>
     rintro D ys W hD hys ⟨⟨v, hv, hrow, -⟩, hBW⟩ hK
     rw [hys] at hrow
     obtain ⟨Av, cv, rfl⟩ := own_slice hrow
     have hc := hv.cell
     have hq := Kd.R_reads' (cnt14.row hrow)
     go_wp2_with (go_at_call 53; refine (sum14.calls _ _ _ _ hq.2.2).mono ?_; rintro e w4 ⟨rfl, hB5⟩; have ht4 := blk_below (blk_below ht1 hBW) hB5; have z0 : w4.cell? ⟨w.heap.size + 1 + 1, 0, none⟩ = some (.int .i64 0) := (blk_cell ht4 0).trans rfl; have z1 : w4.cell? ⟨w.heap.size + 1 + 1, 1, none⟩ = some (.int .i64 0) := (blk_cell ht4 1).trans rfl; have z2 : w4.cell? ⟨w.heap.size + 1 + 1, 2, none⟩ = some (.int .i64 0) := (blk_cell ht4 2).trans rfl; have y0 := blk_frozen ht4 0; have y1 := blk_frozen ht4 1; have y2 := blk_frozen ht4 2)
     have hD3 : D < W.heap.size := (Array.getElem?_eq_some_iff.1 hK).1
     have hDne : D ≠ w.heap.size + 1 + 1 := by have := blk_lt ht1; have := hv3.lt; omega
     have hend := blk_put (blk_put (blk_put ht4 0 (.int .i64 (sum14.of (cnt14.all cl s l (all14.L true l l.length 0))).f0) rfl) 1 (.int .i64 (sum14.of (cnt14.all cl s l (all14.L true l l.length 0))).f1) rfl) 2 (.int .i64 (sum14.of (cnt14.all cl s l (all14.L true l l.length 0))).f2) rfl
     have hK5 : (((w4.setCell ⟨w.heap.size + 1 + 1, 0, none⟩ (.int .i64 (sum14.of (cnt14.all cl s l (all14.L true l l.length 0))).f0)).setCell ⟨w.heap.size + 1 + 1, 1, none⟩ (.int .i64 (sum14.of (cnt14.all cl s l (all14.L true l l.length 0))).f1)).setCell ⟨w.heap.size + 1 + 1, 2, none⟩ (.int .i64 (sum14.of (cnt14.all cl s l (all14.L true l l.length 0))).f2)).heap[D]? = some (.deferred (some [])) := by
      rw [Below.heap_setCell _ _ _ _ hDne, Below.heap_setCell _ _ _ _ hDne, Below.heap_setCell _ _ _ _ hDne, hB5.block D hD3]; exact hK
     refine ⟨by simp, .inl ⟨_, _, rfl, run_takeDeferred hK5, ?_⟩⟩
     have hB6 : Below w.heap.size w w4 := (hB2.trans (hBW.mono hB2.size)).trans (hB5.mono (Nat.le_trans hB2.size hBW.size))
     refine ⟨_, results_cell_row rfl _ _ (w.heap.size + 1 + 1) 41 #[.int .i64 (sum14.of (cnt14.all cl s l (all14.L true l l.length 0))).f0, .int .i64 (sum14.of (cnt14.all cl s l (all14.L true l l.length 0))).f1, .int .i64 (sum14.of (cnt14.all cl s l (all14.L true l l.length 0))).f2] (0, 0) _ rfl (((grownBy_putObj' _ D _).block _ (blk_lt hend) (fun e => hDne (Option.some.inj e).symm)).trans hend) Try.underlying41 rfl (by kernel_rfl), rfl, ?_⟩
     exact (below_set (below_set (below_set hB6 (by omega)) (by omega)) (by omega)).trans (belowK_b (w := w) (Nat.le_refl _) _ D _ _ (by have := hB2.size; have := hv3.lt; omega) hK5 rfl rfl)
    case stop =>
     rintro D c pre W hD hpre h
     exact h.elim
 ·rw [if_neg h0] at h
  simp only [Option.some.injEq, Prod.mk.injEq] at h
  obtain ⟨rfl, rfl, rfl⟩ := h
  go_wp2_with (go_at_call 19; refine (HK.out _ (below_alloc (below_alloc (below_alloc (Below.refl _ w) _) _) _)).mono ?_; rintro e w1 ⟨rfl, hB1⟩; have ht1 := blk_below (blk_new ((w.alloc (.cells #[.slice A l.length c] 24)).alloc (.cells #[.int .i64 cl] 3)) (.cells #[.int .i64 0, .int .i64 0, .int .i64 0] 41)) hB1; have hB2 := below_step (below_alloc (below_alloc (below_alloc (Below.refl _ w) _) _) _) hB1; simp only [World.size_alloc] at ht1; have z0 : w1.cell? ⟨w.heap.size + 1 + 1, 0, none⟩ = some (.int .i64 0) := (blk_cell ht1 0).trans rfl; have z1 : w1.cell? ⟨w.heap.size + 1 + 1, 1, none⟩ = some (.int .i64 0) := (blk_cell ht1 1).trans rfl; have z2 : w1.cell? ⟨w.heap.size + 1 + 1, 2, none⟩ = some (.int .i64 0) := (blk_cell ht1 2).trans rfl; have y0 := blk_frozen ht1 0; have y1 := blk_frozen ht1 1; have y2 := blk_frozen ht1 2)
  have hend := blk_put (blk_put (blk_put ht1 0 (.int .i64 0) rfl) 1 (.int .i64 0) rfl) 2 (.int .i64 0) rfl
  refine ⟨_, results_cell_row rfl _ _ (w.heap.size + 1 + 1) 41 #[.int .i64 0, .int .i64 0, .int .i64 0] (0, 0) _ rfl hend Try.underlying41 rfl (by kernel_rfl), rfl, ?_⟩
  exact below_set (below_set (below_set hB2 (by omega)) (by omega)) (by omega)
end

/-! ### table_Bytes: function 33 -/
def table_Bytes.f (k : Nat) (a0_0 : Int) (a0_1 : Int) : Option (List Int × Int) := (table_may.f k a0_0 a0_1).bind fun t126 => (if t126 = true then ((some (([(wrap64 (a0_0 + 1)) % 256, 0, 0, 0] : List Int) : List Int)).bind fun y127 => ((table_row.f a0_0 a0_1).bind fun t130 => (if y127.length + t130.length < 140737488355328 then (some ((y127 ++ t130), 0)) else (none)))) else (some (([] : List Int), 140)))
theorem table_Bytes.mono : ∀ a0 a1 k, LeO (table_Bytes.f k a0 a1) (table_Bytes.f (k + 1) a0 a1) := by
 intro a0 a1 k
 unfold table_Bytes.f
 repeat' first
   | (with_reducible exact table_may.mono _ _ _)
   | (with_reducible exact LeO.refl _)
   | (with_reducible exact LeO.none _)
   | (with_reducible refine LeO.ite ?_ ?_)
   | (with_reducible refine LeO.bind ?_ (fun _ => ?_))
   | exact table_may.mono _ _ _
   | exact LeO.none _
   | refine LeO.ite ?_ ?_
   | refine LeO.bind ?_ (fun _ => ?_)
def table_Bytes.T3 : Bool × List (List Nat × List Nat) := (true, [([], []), ([0], [0]), ([1], [1]), ([2], [2]), ([3], [3]), ([], []), ([5], [5]), ([4, 6, 6], [4, 6]), ([7, 7, 0, 1, 2, 3, 4, 5, 6, 7], [7]), ([8, 0, 1, 2, 3, 4, 5, 6, 7, 8], [])])
def table_Bytes.B3 : List Nat := [0, 1, 3, 7, 15, 0, 32, 127, 255, 511]
theorem table_Bytes.tab3 : rtab .any (opsOf Try.f33 3) = table_Bytes.T3 := by kernel_rfl
theorem table_Bytes.bits3 : waitsOk table_Bytes.T3.2 table_Bytes.B3 = true := by kernel_rfl
set_option maxHeartbeats 8000000 in
set_option maxRecDepth 100000 in
theorem table_Bytes.calls (k : Nat) (a0_0 : Int) (a0_1 : Int) (r1 : List Int) (r2 : Int) (w : World) (h : table_Bytes.f k a0_0 a0_1 = some (r1, r2)) :
  Calls Try.prog 33 #[.agg #[.int .i64 a0_0, .int .u32 a0_1]] w fun e w' => ∃ v0_ : Value, e = .returned (.tuple #[v0_, .int .i64 r2]) ∧ Kd.R (Kd.int .u8) 5 w' w.heap.size (fun _ => True) v0_ r1 ∧ Below w.heap.size w w' := by
 have hu34 := Try.underlying34
 have HB := Aside0.mk (Below.refl w.heap.size w)
 have H : ((table_may.f k a0_0 a0_1).bind fun t126 => (if t126 = true then ((some (([(wrap64 (a0_0 + 1)) % 256, 0, 0, 0] : List Int) : List Int)).bind fun y127 => ((table_row.f a0_0 a0_1).bind fun t130 => (if y127.length + t130.length < 140737488355328 then (some ((y127 ++ t130), 0)) else (none)))) else (some (([] : List Int), 140)))) = some (r1, r2) := h
 clear h
 replace H := Option.bind_eq_some_iff.mp H
 obtain ⟨t126, A20, H⟩ := H
 replace H : (if t126 = true then ((some (([(wrap64 (a0_0 + 1)) % 256, 0, 0, 0] : List Int) : List Int)).bind fun y127 => ((table_row.f a0_0 a0_1).bind fun t130 => (if y127.length + t130.length < 140737488355328 then (some ((y127 ++ t130), 0)) else (none)))) else (some (([] : List Int), 140))) = some (r1, r2) := H
 have A2 := Aside0.mk A20
 clear A20
 by_cases c3 : t126 = true
 ·subst c3
  have H1 : ((some (([(wrap64 (a0_0 + 1)) % 256, 0, 0, 0] : List Int) : List Int)).bind fun y127 => ((table_row.f a0_0 a0_1).bind fun t130 => (if y127.length + t130.length < 140737488355328 then (some ((y127 ++ t130), 0)) else (none)))) = some (r1, r2) := by rw [if_pos rfl] at H; exact H
  clear H
  have H := H1
  clear H1
  obtain ⟨y127, hy127⟩ : ∃ y_ : List Int, y_ = (([(wrap64 (a0_0 + 1)) % 256, 0, 0, 0] : List Int)) := ⟨_, rfl⟩
  replace H : ((table_row.f a0_0 a0_1).bind fun t130 => (if y127.length + t130.length < 140737488355328 then (some ((y127 ++ t130), 0)) else (none))) = some (r1, r2) := by first | (rw [hy127]; with_reducible exact H) | (have H2_ := (Option.bind_some _ _).symm.trans H; rw [hy127]; with_reducible exact H2_) | (have H2_ := (Option.bind_some _ _).symm.trans H; with_reducible exact H2_) | with_reducible exact H | (rw [hy127]; exact H) | exact H
  have Ny127 := Aside0.mk hy127
  clear hy127
  replace H := Option.bind_eq_some_iff.mp H
  obtain ⟨t130, A40, H⟩ := H
  replace H : (if y127.length + t130.length < 140737488355328 then (some ((y127 ++ t130), 0)) else (none)) = some (r1, r2) := H
  have A4 := Aside0.mk A40
  clear A40
  by_cases c5 : y127.length + t130.length < 140737488355328
  ·rw [if_pos c5] at H
   have LMc5 := Aside0.mk c5
   clear c5
   obtain ⟨y133, hy133⟩ : ∃ y_ : List Int, y_ = (y127 ++ t130) := ⟨_, rfl⟩
   replace H : (some (y133, 0)) = some (r1, r2) := by first | (rw [hy133]; with_reducible exact H) | (have H2_ := (Option.bind_some _ _).symm.trans H; rw [hy133]; with_reducible exact H2_) | (have H2_ := (Option.bind_some _ _).symm.trans H; with_reducible exact H2_) | with_reducible exact H | (rw [hy133]; exact H) | exact H
   have Ny133 := Aside0.mk hy133
   clear hy133
   simp only [Option.some.injEq, Prod.mk.injEq] at H
   obtain ⟨rfl, rfl⟩ := H
   go_enter Try.func33, Try.ntmps33
   try go_wp2_with (first | ((with_reducible refine gate_dst (N := 1) rfl ?_); refine box_event ?hg (N := 1) ?hd (cs := #[.int .i64 a0_0, .int .u32 a0_1]) (t := 34) ?hr ?_; (case hd => rfl); (case hg => rfl); (case hr => first | (go_simp; done) | (go_simp; rfl)); intro gb125 hg w6 hbox hb; have n0_ := Aside0.mk (below_step (by repeat (first | (with_reducible first | exact HB.out | apply below_alloc | apply pw_below_drewN | apply below_drew1) | exact HB.out)) hb); have n1_ := Aside0.mk (hbox); have n2_ := Aside0.mk ((by rw [hg]; exact (below_size (by repeat (first | (with_reducible first | exact HB.out | apply below_alloc | apply pw_below_drewN | apply below_drew1) | exact HB.out))) : w.heap.size ≤ gb125)); have n3_ := Aside0.mk ((by rw [hg]; exact (below_size (by repeat (first | (with_reducible first | exact HB.out | apply below_alloc | apply pw_below_drewN | apply below_drew1) | exact HB.out))) : w.heap.size ≤ gb125)); clear HB; have HB := n0_; have BK125 := n1_; have GW125 := n2_; have GE125 := n3_; clear n0_ n1_ n2_ n3_; clear hb hbox hg; have hcz7_0 : w6.cell? ⟨gb125, 0, none⟩ = some (.int .i64 a0_0) := (blk_cell BK125.out 0).trans rfl; have hcz7_1 : w6.cell? ⟨gb125, 1, none⟩ = some (.int .u32 a0_1) := (blk_cell BK125.out 1).trans rfl; have hfz7_0 := blk_frozen BK125.out 0; have hfz7_1 := blk_frozen BK125.out 1) | ((with_reducible refine gate_callee (f := 52) rfl ?_); refine goesL_ (some 5) rfl rfl Try.func52 (by kernel_rfl) rfl #[.agg #[.int .i64 a0_0, .int .u32 a0_1]] rfl (by (try simp only [List.map_toArray, List.map_cons, List.map_nil]); first | done | rfl | (simp only [List.length_drop, List.length_take]; rfl)) ?_; (with_reducible refine (table_may.calls k a0_0 a0_1 true _ A2.out).mono ?_); rintro e w8 ⟨rfl, hb⟩; refine ⟨_, rfl, ?_⟩; have n0_ := Aside0.mk (blk_below (g := gb125) (o := .cells #[.int .i64 a0_0, .int .u32 a0_1] 34 (0, 0)) (by (with_reducible repeat first | apply blk_drewN | apply blk_drew | apply blk_alloc); exact BK125.out) hb); have n1_ := Aside0.mk (below_step (by repeat (first | (with_reducible first | exact HB.out | apply below_alloc | apply pw_below_drewN | apply below_drew1 | refine below_set ?_ GE125.out) | exact HB.out)) hb); clear BK125; clear HB; have BK125 := n0_; have HB := n1_; clear n0_ n1_; (try clear hb); (try clear hb2); (try clear hk); (try clear hi); (try clear A2)))
   have n0_ := Aside0.mk (blk_drew BK125.out)
   have n1_ := Aside0.mk (below_drew1 HB.out)
   clear BK125
   clear HB
   have BK125 := n0_
   have HB := n1_
   clear n0_ n1_
   refine start_ (n := 10) (S := fun w' => w'.cell? ⟨gb125, 0, none⟩ = some (.int .i64 a0_0) ∧ w'.cell? ⟨gb125, 1, none⟩ = some (.int .u32 a0_1)) (ds := []) #[false, false, false, false, false, false, false, false, false, false] (by kernel_rfl) rfl rfl ⟨(blk_cell BK125.out 0).trans rfl, (blk_cell BK125.out 1).trans rfl⟩ (fun hHeld => ?_); refine with_tabW table_Bytes.tab3 table_Bytes.bits3 (fun HT_ HW_ => ?_)
   generalize w8.drew = w9 at BK125 HB hHeld ⊢
   refine pure_ (i := 0) (N := some 7) (v := ?_) (a' := ?_) #[true, false, false, false, false, false, false, false, false, false] rfl rfl (any_of HT_.out (by kernel_rfl)) (fun _ _ _ h => h) (Or.inl ⟨by rfl, ?_⟩) ?_ ?_
   rotate_left
   ·intro w'
    go_simp
    with_reducible rfl
   rotate_left
   ·simp only [Act.put, List.setIfInBounds_toArray, List.set_cons_zero, List.set_cons_succ, i64_w, i32_w]
    rfl
   refine take_ (i := 1) (N := some 8) (v := ?_) (a' := ?_) #[true, true, false, false, false, false, false, false, false, false] rfl rfl (take_ofW HT_.out HW_.out (by kernel_rfl)) (fun _ _ _ h => h) (Or.inl ⟨by rfl, ?_⟩) hHeld ?_ ?_
   rotate_left
   ·rintro w' ⟨s0, s1⟩
    go_simp
    with_reducible rfl
   rotate_left
   ·simp only [Act.put, List.setIfInBounds_toArray, List.set_cons_zero, List.set_cons_succ, i64_w, i32_w]
    rfl
   refine pure_ (i := 2) (N := some 9) (v := ?_) (a' := ?_) #[true, true, true, false, false, false, false, false, false, false] rfl rfl (any_of HT_.out (by kernel_rfl)) (fun _ _ _ h => h) (Or.inl ⟨by rfl, ?_⟩) ?_ ?_
   rotate_left
   ·intro w'
    go_simp
    with_reducible rfl
   rotate_left
   ·simp only [Act.put, List.setIfInBounds_toArray, List.set_cons_zero, List.set_cons_succ, i64_w, i32_w]
    rfl
   refine pure_ (i := 3) (N := some 10) (v := ?_) (a' := ?_) #[true, true, true, true, false, false, false, false, false, false] rfl rfl (any_of HT_.out (by kernel_rfl)) (fun _ _ _ h => h) (Or.inl ⟨by rfl, ?_⟩) ?_ ?_
   rotate_left
   ·intro w'
    go_simp
    with_reducible rfl
   rotate_left
   ·simp only [Act.put, List.setIfInBounds_toArray, List.set_cons_zero, List.set_cons_succ, i64_w, i32_w]
    rfl
   refine take_ (i := 5) (N := some 12) (v := ?_) (a' := ?_) #[true, true, true, true, false, true, false, false, false, false] rfl rfl (take_ofW HT_.out HW_.out (by kernel_rfl)) (fun _ _ _ h => h) (Or.inl ⟨by rfl, ?_⟩) hHeld ?_ ?_
   rotate_left
   ·rintro w' ⟨s0, s1⟩
    go_simp
    with_reducible rfl
   rotate_left
   ·simp only [Act.put, List.setIfInBounds_toArray, List.set_cons_zero, List.set_cons_succ, i64_w, i32_w]
    rfl
   refine join_ (σ := Value × Value) 3 #[true, true, true, true, true, true, true, false, false, false] (fun s_ => [(11, s_.1), (13, s_.2)]) (fun s_ w' => (w'.cell? ⟨gb125, 0, none⟩ = some (.int .i64 a0_0) ∧ w'.cell? ⟨gb125, 1, none⟩ = some (.int .u32 a0_1)) ∧ (Kd.R (Kd.int .u8) 5 w' w.heap.size (fun k_ => some k_ ≠ (s_.2 : Value).ownBlock) s_.1 y127) ∧ (Kd.R (Kd.int .u8) 5 w' w.heap.size (fun k_ => some k_ ≠ (s_.1 : Value).ownBlock) s_.2 t130) ∧ (w'.heap[gb125]? = some (.cells #[.int .i64 a0_0, .int .u32 a0_1] 34 (0, 0))) ∧ (Below w.heap.size w w')) ?_ ?_
   rotate_left
   ·intro hCont
    refine two_ (i := 4) (j := 6) (Ni := some 11) (Nj := some 13) #[true, true, true, true, true, true, false, false, false, false] #[true, true, true, true, false, true, true, false, false, false] rfl rfl rfl rfl (two_of HT_.out (by kernel_rfl)) (by decide) (by decide) (fun K hK => ?_) (fun K hK => ?_)
    ·skip
     refine Kd.R_lit_step (Kd.int .u8) _ 5 ?hg (N := 11) ?hd (xs := ([(wrap64 (a0_0 + 1)) % 256, 0, 0, 0] : List Int)) (inner := [.int .u8 ((wrap64 (a0_0 + 1)) % 256), .int .u8 0, .int .u8 0, .int .u8 0]) (ok := fun _ => True) (okp := fun _ => True) ?hr ?hp (fun _ hk => hk) trivial (Below.refl _ _) (Nat.le_refl _) (by simp) ?_; (case hd => rfl); (case hg => rfl); (case hr => first | (go_simp; done) | (go_simp; rfl)); (case hp => exact (Reps.one (show Kd.M (Kd.int .u8) _ _ _ ((wrap64 (a0_0 + 1)) % 256) [.int .u8 ((wrap64 (a0_0 + 1)) % 256)] from rfl) (Reps.one (show Kd.M (Kd.int .u8) _ _ _ 0 [.int .u8 0] from rfl) (Reps.one (show Kd.M (Kd.int .u8) _ _ _ 0 [.int .u8 0] from rfl) (Reps.one (show Kd.M (Kd.int .u8) _ _ _ 0 [.int .u8 0] from rfl) (Reps.none _ _))))))
     intro v128 w10 ho11 hb hg_ hnew_
     clear hg_ hnew_
     (first | rw [← Ny127.out] at ho11 | (simp only [Int.reduceToNat] at ho11; rw [← Ny127.out] at ho11))
     have n0_ := Aside0.mk (Kd.R_lower ho11 (below_size (by repeat (first | (with_reducible first | exact HB.out | apply below_alloc | apply pw_below_drewN | apply below_drew1 | refine below_set ?_ GE125.out) | exact HB.out))))
     have n1_ := Aside0.mk (blk_below (g := gb125) (o := .cells #[.int .i64 a0_0, .int .u32 a0_1] 34 (0, 0)) (by (with_reducible repeat first | apply blk_drewN | apply blk_drew | apply blk_alloc); exact BK125.out) hb)
     have n2_ := Aside0.mk (below_step (by repeat (first | (with_reducible first | exact HB.out | apply below_alloc | apply pw_below_drewN | apply below_drew1 | refine below_set ?_ GE125.out) | exact HB.out)) hb)
     clear BK125
     clear HB
     have HO129 := n0_
     have BK125 := n1_
     have HB := n2_
     clear n0_ n1_ n2_
     clear hb ho11
     refine hK.out _ _ ⟨(blk_cell BK125.out 0).trans rfl, (blk_cell BK125.out 1).trans rfl⟩ (fun hHeld => ?_)
     clear hK K
     refine norm_ (a' := ?_) ?_ ?_
     rotate_left
     ·show Act.put _ (some 11) _ = _
      simp only [Act.put, List.setIfInBounds_toArray, List.set_cons_zero, List.set_cons_succ, i64_w, i32_w]
      rfl
     refine one_ (i := 6) (N := some 13) #[true, true, true, true, true, true, true, false, false, false] rfl rfl (one_of HT_.out (by kernel_rfl)) (by decide) (fun K hK => ?_)
     refine goes_ Try.func45 (by kernel_rfl) rfl #[.agg #[.int .i64 a0_0, .int .u32 a0_1]] (by rfl) rfl rfl (by (try simp only [List.map_toArray, List.map_cons, List.map_nil]); first | done | rfl | (simp only [List.length_drop, List.length_take]; rfl)) ?_
     with_reducible refine (table_row.calls a0_0 a0_1 t130 _ A4.out).mono ?_
     rintro e w12 ⟨v131, rfl, ho0, hb⟩
     refine ⟨_, rfl, ?_⟩
     have n0_ := Aside0.mk (Kd.R_elder' (by (with_reducible repeat (first | apply Kd.R_alloc | apply Kd.R_drewN | apply Kd.R_drew)); exact HO129.out) (Kd.R_base ho0) hb)
     have n1_ := Aside0.mk (Kd.R_lower (Kd.R_new' ho0 (Kd.R_lt (by (with_reducible repeat (first | apply Kd.R_alloc | apply Kd.R_drewN | apply Kd.R_drew)); exact HO129.out))) (below_size (by repeat (first | (with_reducible first | exact HB.out | apply below_alloc | apply pw_below_drewN | apply below_drew1 | refine below_set ?_ GE125.out) | exact HB.out))))
     have n2_ := Aside0.mk (blk_below (g := gb125) (o := .cells #[.int .i64 a0_0, .int .u32 a0_1] 34 (0, 0)) (by (with_reducible repeat first | apply blk_drewN | apply blk_drew | apply blk_alloc); exact BK125.out) hb)
     have n3_ := Aside0.mk (below_step (by repeat (first | (with_reducible first | exact HB.out | apply below_alloc | apply pw_below_drewN | apply below_drew1 | refine below_set ?_ GE125.out) | exact HB.out)) hb)
     clear HO129
     clear BK125
     clear HB
     have HO129 := n0_
     have HO132 := n1_
     have BK125 := n2_
     have HB := n3_
     clear n0_ n1_ n2_ n3_
     (try clear hb)
     (try clear hb2)
     (try clear hk)
     (try clear hi)
     (try clear ho0)
     refine hK.out _ _ ⟨(blk_cell BK125.out 0).trans rfl, (blk_cell BK125.out 1).trans rfl⟩ (fun hHeld => ?_)
     clear hK K
     refine norm_ (a' := ?_) ?_ ?_
     rotate_left
     ·show Act.put _ (some 13) _ = _
      simp only [Act.put, List.setIfInBounds_toArray, List.set_cons_zero, List.set_cons_succ, i64_w, i32_w]
      rfl
     exact norm_ (by simp only [putAll, Act.put, List.setIfInBounds_toArray, List.set_cons_zero, List.set_cons_succ]) (hCont (v128, v131) _ ⟨hHeld, (by (with_reducible repeat (first | apply Kd.R_alloc | apply Kd.R_drewN | apply Kd.R_drew)); exact Kd.R_mono HO129.out (fun _ hk => hk.2)), (by (with_reducible repeat (first | apply Kd.R_alloc | apply Kd.R_drewN | apply Kd.R_drew)); exact Kd.R_mono HO132.out (fun _ hk => hk.2)), (by (with_reducible repeat first | apply blk_drewN | apply blk_drew | apply blk_alloc); exact BK125.out), (by repeat (first | (with_reducible first | exact HB.out | apply below_alloc | apply pw_below_drewN | apply below_drew1 | refine below_set ?_ GE125.out) | exact HB.out))⟩)
    ·skip
     refine goes_ Try.func45 (by kernel_rfl) rfl #[.agg #[.int .i64 a0_0, .int .u32 a0_1]] (by rfl) rfl rfl (by (try simp only [List.map_toArray, List.map_cons, List.map_nil]); first | done | rfl | (simp only [List.length_drop, List.length_take]; rfl)) ?_
     with_reducible refine (table_row.calls a0_0 a0_1 t130 _ A4.out).mono ?_
     rintro e w10 ⟨v131, rfl, ho0, hb⟩
     refine ⟨_, rfl, ?_⟩
     have n0_ := Aside0.mk (Kd.R_lower ho0 (below_size (by repeat (first | (with_reducible first | exact HB.out | apply below_alloc | apply pw_below_drewN | apply below_drew1 | refine below_set ?_ GE125.out) | exact HB.out))))
     have n1_ := Aside0.mk (blk_below (g := gb125) (o := .cells #[.int .i64 a0_0, .int .u32 a0_1] 34 (0, 0)) (by (with_reducible repeat first | apply blk_drewN | apply blk_drew | apply blk_alloc); exact BK125.out) hb)
     have n2_ := Aside0.mk (below_step (by repeat (first | (with_reducible first | exact HB.out | apply below_alloc | apply pw_below_drewN | apply below_drew1 | refine below_set ?_ GE125.out) | exact HB.out)) hb)
     clear BK125
     clear HB
     have HO132 := n0_
     have BK125 := n1_
     have HB := n2_
     clear n0_ n1_ n2_
     (try clear hb)
     (try clear hb2)
     (try clear hk)
     (try clear hi)
     (try clear ho0)
     refine hK.out _ _ ⟨(blk_cell BK125.out 0).trans rfl, (blk_cell BK125.out 1).trans rfl⟩ (fun hHeld => ?_)
     clear hK K
     refine norm_ (a' := ?_) ?_ ?_
     rotate_left
     ·show Act.put _ (some 13) _ = _
      simp only [Act.put, List.setIfInBounds_toArray, List.set_cons_zero, List.set_cons_succ, i64_w, i32_w]
      rfl
     refine one_ (i := 4) (N := some 11) #[true, true, true, true, true, true, true, false, false, false] rfl rfl (one_of HT_.out (by kernel_rfl)) (by decide) (fun K hK => ?_)
     refine Kd.R_lit_step (Kd.int .u8) _ 5 ?hg (N := 11) ?hd (xs := ([(wrap64 (a0_0 + 1)) % 256, 0, 0, 0] : List Int)) (inner := [.int .u8 ((wrap64 (a0_0 + 1)) % 256), .int .u8 0, .int .u8 0, .int .u8 0]) (ok := fun _ => True) (okp := fun _ => True) ?hr ?hp (fun _ hk => hk) trivial (Below.refl _ _) (Nat.le_refl _) (by simp) ?_; (case hd => rfl); (case hg => rfl); (case hr => first | (go_simp; done) | (go_simp; rfl)); (case hp => exact (Reps.one (show Kd.M (Kd.int .u8) _ _ _ ((wrap64 (a0_0 + 1)) % 256) [.int .u8 ((wrap64 (a0_0 + 1)) % 256)] from rfl) (Reps.one (show Kd.M (Kd.int .u8) _ _ _ 0 [.int .u8 0] from rfl) (Reps.one (show Kd.M (Kd.int .u8) _ _ _ 0 [.int .u8 0] from rfl) (Reps.one (show Kd.M (Kd.int .u8) _ _ _ 0 [.int .u8 0] from rfl) (Reps.none _ _))))))
     intro v128 w11 ho12 hb hg_ hnew_
     clear hg_ hnew_
     (first | rw [← Ny127.out] at ho12 | (simp only [Int.reduceToNat] at ho12; rw [← Ny127.out] at ho12))
     have n0_ := Aside0.mk (Kd.R_elder' (by (with_reducible repeat (first | apply Kd.R_alloc | apply Kd.R_drewN | apply Kd.R_drew)); exact HO132.out) (Kd.R_base ho12) hb)
     have n1_ := Aside0.mk (Kd.R_lower (Kd.R_new' ho12 (Kd.R_lt (by (with_reducible repeat (first | apply Kd.R_alloc | apply Kd.R_drewN | apply Kd.R_drew)); exact HO132.out))) (below_size (by repeat (first | (with_reducible first | exact HB.out | apply below_alloc | apply pw_below_drewN | apply below_drew1 | refine below_set ?_ GE125.out) | exact HB.out))))
     have n2_ := Aside0.mk (blk_below (g := gb125) (o := .cells #[.int .i64 a0_0, .int .u32 a0_1] 34 (0, 0)) (by (with_reducible repeat first | apply blk_drewN | apply blk_drew | apply blk_alloc); exact BK125.out) hb)
     have n3_ := Aside0.mk (below_step (by repeat (first | (with_reducible first | exact HB.out | apply below_alloc | apply pw_below_drewN | apply below_drew1 | refine below_set ?_ GE125.out) | exact HB.out)) hb)
     clear HO132
     clear BK125
     clear HB
     have HO132 := n0_
     have HO129 := n1_
     have BK125 := n2_
     have HB := n3_
     clear n0_ n1_ n2_ n3_
     clear hb ho12
     refine hK.out _ _ ⟨(blk_cell BK125.out 0).trans rfl, (blk_cell BK125.out 1).trans rfl⟩ (fun hHeld => ?_)
     clear hK K
     refine norm_ (a' := ?_) ?_ ?_
     rotate_left
     ·show Act.put _ (some 11) _ = _
      simp only [Act.put, List.setIfInBounds_toArray, List.set_cons_zero, List.set_cons_succ, i64_w, i32_w]
      rfl
     exact norm_ (by simp only [putAll, Act.put, List.setIfInBounds_toArray, List.set_cons_zero, List.set_cons_succ]) (hCont (v128, v131) _ ⟨hHeld, (by (with_reducible repeat (first | apply Kd.R_alloc | apply Kd.R_drewN | apply Kd.R_drew)); exact Kd.R_mono HO129.out (fun _ hk => hk.2)), (by (with_reducible repeat (first | apply Kd.R_alloc | apply Kd.R_drewN | apply Kd.R_drew)); exact Kd.R_mono HO132.out (fun _ hk => hk.2)), (by (with_reducible repeat first | apply blk_drewN | apply blk_drew | apply blk_alloc); exact BK125.out), (by repeat (first | (with_reducible first | exact HB.out | apply below_alloc | apply pw_below_drewN | apply below_drew1 | refine below_set ?_ GE125.out) | exact HB.out))⟩)
   rintro ⟨v128, v131⟩ w13 ⟨hS_, h0_, h1_, h2_, h3_⟩
   have n0_ : Aside0 (Kd.R (Kd.int .u8) 5 w13 w.heap.size (fun k_ => some k_ ≠ (v131 : Value).ownBlock) v128 y127) := ⟨h0_⟩
   have n1_ : Aside0 (Kd.R (Kd.int .u8) 5 w13 w.heap.size (fun k_ => some k_ ≠ (v128 : Value).ownBlock) v131 t130) := ⟨h1_⟩
   have n2_ : Aside0 (w13.heap[gb125]? = some (.cells #[.int .i64 a0_0, .int .u32 a0_1] 34 (0, 0))) := ⟨h2_⟩
   have n3_ : Aside0 (Below w.heap.size w w13) := ⟨h3_⟩
   clear BK125
   clear HB
   clear h0_ h1_ h2_ h3_
   have HO129 := n0_
   have HO132 := n1_
   have BK125 := n2_
   have HB := n3_
   clear n0_ n1_ n2_ n3_
   have hHeld : w13.cell? ⟨gb125, 0, none⟩ = some (.int .i64 a0_0) ∧ w13.cell? ⟨gb125, 1, none⟩ = some (.int .u32 a0_1) := hS_
   obtain ⟨Ao15, co15, eo15⟩ := Kd.R_slice HO132.out
   (first | subst eo15 | (injection eo15 with f1_ f2_ f3_; have f4_ := f1_.symm; have f5_ := f3_.symm; clear f1_ f2_ f3_; subst f4_; subst f5_))
   refine norm_ (a' := ?_) ?_ ?_
   rotate_left
   ·simp only [putAll, Act.put, List.setIfInBounds_toArray, List.set_cons_zero, List.set_cons_succ]
    rfl
   refine one_ (i := 7) (N := some 14) #[true, true, true, true, true, true, true, true, false, false] rfl rfl (one_of HT_.out (by kernel_rfl)) (by decide) (fun K hK => ?_)
   refine Kd.R_append_rows_step (Kd.int .u8) (w0 := w) w.heap.size (by rfl) (.tmp 11) (.tmp 13) 58 5 (.int .u8 0) 1 rfl Try.underlying58 info5 rfl (by decide) (by omega) v128 y127 t130 _ _ _ (fun k_ => some k_ ≠ (.slice Ao15 t130.length co15 : Value).ownBlock) (fun _ => False) rfl rfl ?aO ?aR (fun _ _ h => h) (fun _ h => h.elim) ?aF ?aB ?aS ?aL ?_
   (case aR => repeat (first | exact (Kd.R_reads' HO132.out).2.2 | (with_reducible refine Kd.C_alloc ?_ _) | (with_reducible refine Kd.C_drewN ?_ _) | (with_reducible refine Kd.C_drew ?_)))
   (case aB => exact (by repeat (first | (with_reducible first | exact HB.out | apply below_alloc | apply pw_below_drewN | apply below_drew1 | refine below_set ?_ GE125.out) | exact HB.out)))
   (case aF => exact (fun k_ hk => Kd.fresh' (Kd.R_lt (by (with_reducible repeat (first | apply Kd.R_alloc | apply Kd.R_drewN | apply Kd.R_drew)); exact HO132.out)) k_ hk))
   (case aO => exact (by (with_reducible repeat (first | apply Kd.R_alloc | apply Kd.R_drewN | apply Kd.R_drew)); exact HO129.out))
   (case aS => exact (below_size (by repeat (first | (with_reducible first | exact HB.out | apply below_alloc | apply pw_below_drewN | apply below_drew1 | refine below_set ?_ GE125.out) | exact HB.out))))
   (case aL => have := LMc5.out; omega)
   intro v134 w14 ho hb hg hat
   rw [← Ny133.out] at ho
   have n0_ := Aside0.mk (blk_grown (g := gb125) (o := .cells #[.int .i64 a0_0, .int .u32 a0_1] 34 (0, 0)) (by (with_reducible repeat first | apply blk_drewN | apply blk_drew | apply blk_alloc); exact BK125.out) hg (Kd.R_ne HO129.out BK125.out (by decide)))
   have n1_ := Aside0.mk (Kd.R_after (ok := (fun _ => True)) (by (with_reducible repeat (first | apply Kd.R_alloc | apply Kd.R_drewN | apply Kd.R_drew)); exact Kd.R_mono HO132.out (fun _ hk => ⟨trivial, hk⟩)) hg hat)
   have n2_ := Aside0.mk (hb)
   have n3_ := Aside0.mk (ho)
   clear BK125
   clear HO132
   clear HB
   clear HO129
   have BK125 := n0_
   have HO132 := n1_
   have HB := n2_
   have HO135 := n3_
   clear n0_ n1_ n2_ n3_
   clear ho hb hg hat
   refine hK.out _ _ ⟨(blk_cell BK125.out 0).trans rfl, (blk_cell BK125.out 1).trans rfl⟩ (fun hHeld => ?_)
   clear hK K
   refine norm_ (a' := ?_) ?_ ?_
   rotate_left
   ·show Act.put _ (some 14) _ = _
    simp only [Act.put, List.setIfInBounds_toArray, List.set_cons_zero, List.set_cons_succ, i64_w, i32_w]
    rfl
   refine pure_ (i := 8) (N := some 2) (v := ?_) (a' := ?_) #[true, true, true, true, true, true, true, true, true, false] rfl rfl (any_of HT_.out (by kernel_rfl)) (fun _ _ _ h => h) (Or.inl ⟨by rfl, ?_⟩) ?_ ?_
   rotate_left
   ·intro w'
    go_simp
    with_reducible rfl
   rotate_left
   ·simp only [Act.put, List.setIfInBounds_toArray, List.set_cons_zero, List.set_cons_succ, i64_w, i32_w]
    rfl
   refine pure_ (i := 9) (N := some 3) (v := ?_) (a' := ?_) #[true, true, true, true, true, true, true, true, true, true] rfl rfl (any_of HT_.out (by kernel_rfl)) (fun _ _ _ h => h) (Or.inl ⟨by rfl, ?_⟩) ?_ ?_
   rotate_left
   ·intro w'
    go_simp
    with_reducible rfl
   rotate_left
   ·simp only [Act.put, List.setIfInBounds_toArray, List.set_cons_zero, List.set_cons_succ, i64_w, i32_w]
    rfl
   refine done_ (done_of HT_.out (by kernel_rfl)) ?_
   try go_wp2
   go_ret2
   exact ⟨_, by first | rfl | (simp [errW_none, errW_some] <;> rfl) | (simp [*, errW_none, errW_some] <;> rfl) | (simp [Int.tdiv_eq_ediv_of_nonneg]; done), by (with_reducible repeat (first | apply Kd.R_alloc | apply Kd.R_drewN | apply Kd.R_drew)); exact Kd.R_mono HO135.out (fun _ hk => trivial), by repeat (first | (with_reducible first | exact HB.out | apply below_alloc | apply pw_below_drewN | apply below_drew1 | refine below_set ?_ GE125.out) | exact HB.out)⟩
  ·rw [if_neg c5] at H
   exact absurd H (by simp)
 ·replace c3 := Bool.eq_false_iff.mpr c3
  subst c3
  have H1 : (some (([] : List Int), 140)) = some (r1, r2) := by rw [if_neg (show ¬ (false = true) by decide)] at H; exact H
  clear H
  have H := H1
  clear H1
  simp only [Option.some.injEq, Prod.mk.injEq] at H
  obtain ⟨rfl, rfl⟩ := H
  go_enter Try.func33, Try.ntmps33
  go_wp2_with (first | ((with_reducible refine gate_dst (N := 1) rfl ?_); refine box_event ?hg (N := 1) ?hd (cs := #[.int .i64 a0_0, .int .u32 a0_1]) (t := 34) ?hr ?_; (case hd => rfl); (case hg => rfl); (case hr => first | (go_simp; done) | (go_simp; rfl)); intro gb125 hg w16 hbox hb; have n0_ := Aside0.mk (below_step (by repeat (first | (with_reducible first | exact HB.out | apply below_alloc | apply pw_below_drewN | apply below_drew1) | exact HB.out)) hb); have n1_ := Aside0.mk (hbox); have n2_ := Aside0.mk ((by rw [hg]; exact (below_size (by repeat (first | (with_reducible first | exact HB.out | apply below_alloc | apply pw_below_drewN | apply below_drew1) | exact HB.out))) : w.heap.size ≤ gb125)); have n3_ := Aside0.mk ((by rw [hg]; exact (below_size (by repeat (first | (with_reducible first | exact HB.out | apply below_alloc | apply pw_below_drewN | apply below_drew1) | exact HB.out))) : w.heap.size ≤ gb125)); clear HB; have HB := n0_; have BK125 := n1_; have GW125 := n2_; have GE125 := n3_; clear n0_ n1_ n2_ n3_; clear hb hbox hg; have hcz17_0 : w16.cell? ⟨gb125, 0, none⟩ = some (.int .i64 a0_0) := (blk_cell BK125.out 0).trans rfl; have hcz17_1 : w16.cell? ⟨gb125, 1, none⟩ = some (.int .u32 a0_1) := (blk_cell BK125.out 1).trans rfl; have hfz17_0 := blk_frozen BK125.out 0; have hfz17_1 := blk_frozen BK125.out 1) | ((with_reducible refine gate_callee (f := 52) rfl ?_); refine goesL_ (some 5) rfl rfl Try.func52 (by kernel_rfl) rfl #[.agg #[.int .i64 a0_0, .int .u32 a0_1]] rfl (by (try simp only [List.map_toArray, List.map_cons, List.map_nil]); first | done | rfl | (simp only [List.length_drop, List.length_take]; rfl)) ?_; (with_reducible refine (table_may.calls k a0_0 a0_1 false _ A2.out).mono ?_); rintro e w18 ⟨rfl, hb⟩; refine ⟨_, rfl, ?_⟩; have n0_ := Aside0.mk (blk_below (g := gb125) (o := .cells #[.int .i64 a0_0, .int .u32 a0_1] 34 (0, 0)) (by (with_reducible repeat first | apply blk_drewN | apply blk_drew | apply blk_alloc); exact BK125.out) hb); have n1_ := Aside0.mk (below_step (by repeat (first | (with_reducible first | exact HB.out | apply below_alloc | apply pw_below_drewN | apply below_drew1 | refine below_set ?_ GE125.out) | exact HB.out)) hb); clear BK125; clear HB; have BK125 := n0_; have HB := n1_; clear n0_ n1_; (try clear hb); (try clear hb2); (try clear hk); (try clear hi); (try clear A2)))
  go_ret2
  exact ⟨_, by first | rfl | (simp [errW_none, errW_some] <;> rfl) | (simp [*, errW_none, errW_some] <;> rfl) | (simp [Int.tdiv_eq_ediv_of_nonneg]; done), by first | exact Kd.R_nil _ _ _ _ _ | exact Kd.N_nil _ _ _ _ _ | exact Kd.V_nil _ _ _ _ _ | exact Kd.Q_nil _ _ _ _ _ | exact Kd.S_nil _ _ _ _ _, by repeat (first | (with_reducible first | exact HB.out | apply below_alloc | apply pw_below_drewN | apply below_drew1 | refine below_set ?_ GE125.out) | exact HB.out)⟩

/-! ### bytes_Equal: function 35 -/
def bytes_Equal.f (l0 : List Int) (l1 : List Int) : Option (Bool) := some ((strOfNums l0).toList == (strOfNums l1).toList)
set_option maxHeartbeats 8000000 in
set_option maxRecDepth 100000 in
theorem bytes_Equal.calls (A0 : Option Addr) (c0 : Nat) (l0 : List Int) (A1 : Option Addr) (c1 : Nat) (l1 : List Int) (r : Bool) (w : World) (hr0 : Kd.C (Kd.int .u8) w A0 l0.length l0) (hc0 : l0.length ≤ c0) (hr1 : Kd.C (Kd.int .u8) w A1 l1.length l1) (hc1 : l1.length ≤ c1) (h : bytes_Equal.f l0 l1 = some r) :
  Calls Try.prog 35 #[.slice A0 l0.length c0, .slice A1 l1.length c1] w fun e w' => e = .returned (.bool r) ∧ Drawn0 w w' := by
 have HR0 := Aside0.mk hr0
 have HC0 := Aside0.mk hc0
 clear hr0 hc0
 have HR1 := Aside0.mk hr1
 have HC1 := Aside0.mk hc1
 clear hr1 hc1
 have H : (some ((strOfNums l0).toList == (strOfNums l1).toList)) = some r := h
 clear h
 obtain rfl := Option.some.inj H
 have hcv3 := Kd.C_string (P := Try.prog) (A := A0) (c := c0) Try.underlying58 Try.underlying5 Try.underlying9 HR0.out
 have hcv4 := Kd.C_string (P := Try.prog) (A := A1) (c := c1) Try.underlying58 Try.underlying5 Try.underlying9 HR1.out
 go_enter Try.func35, Try.ntmps35
 go_wp2
 go_ret
 exact ⟨by first | rfl | (simp; done) | (simp [*]; done) | (simp [Int.tdiv_eq_ediv_of_nonneg]; done), by repeat (first | exact Drawn0.refl _ | apply Drawn0.step)⟩

/-! ### atticlaw14_begun: function 8 -/
def atticlaw14_begun.f (k : Nat)  : Option (Bool) := (table_Bytes.f k 2 5).bind fun bt136 => (if bt136.2 = 0 then ((bytes_Equal.f bt136.1 (([3, 0, 0, 0, 5, 0, 0, 0] : List Int))).bind fun t143 => (if t143 = true then ((table_Count.f k (([(⟨2, 5⟩ : S34), (⟨(-1), 0⟩ : S34)] : List (S34))) 2).bind fun bt147 => (some (bt147.1 == 1 && (bt147.2.1 == 8 && (bt147.2.2 == 2))))) else (some false))) else (some false))
theorem atticlaw14_begun.mono : ∀ k, LeO (atticlaw14_begun.f k ) (atticlaw14_begun.f (k + 1) ) := by
 intro  k
 unfold atticlaw14_begun.f
 repeat' first
   | (with_reducible exact table_Bytes.mono _ _ _)
   | (with_reducible exact table_Count.mono _ _ _)
   | (with_reducible exact LeO.refl _)
   | (with_reducible exact LeO.none _)
   | (with_reducible refine LeO.ite ?_ ?_)
   | (with_reducible refine LeO.bind ?_ (fun _ => ?_))
   | exact table_Bytes.mono _ _ _
   | exact table_Count.mono _ _ _
   | exact LeO.none _
   | refine LeO.ite ?_ ?_
   | refine LeO.bind ?_ (fun _ => ?_)
set_option maxHeartbeats 8000000 in
set_option maxRecDepth 100000 in
theorem atticlaw14_begun.calls (k : Nat)  (r : Bool) (w : World) (h : atticlaw14_begun.f k  = some r) :
  Calls Try.prog 8 #[] w fun e w' => e = .returned (.bool r) ∧ Below w.heap.size w w' := by
 have hu34 := Try.underlying34
 have hu24 := Try.underlying24
 have hu41 := Try.underlying41
 have HB := Aside0.mk (Below.refl w.heap.size w)
 have H : ((table_Bytes.f k 2 5).bind fun bt136 => (if bt136.2 = 0 then ((bytes_Equal.f bt136.1 (([3, 0, 0, 0, 5, 0, 0, 0] : List Int))).bind fun t143 => (if t143 = true then ((table_Count.f k (([(⟨2, 5⟩ : S34), (⟨(-1), 0⟩ : S34)] : List (S34))) 2).bind fun bt147 => (some (bt147.1 == 1 && (bt147.2.1 == 8 && (bt147.2.2 == 2))))) else (some false))) else (some false))) = some r := h
 clear h
 replace H := Option.bind_eq_some_iff.mp H
 obtain ⟨⟨t136, t139⟩, A10, H⟩ := H
 replace H : (if t139 = 0 then ((bytes_Equal.f t136 (([3, 0, 0, 0, 5, 0, 0, 0] : List Int))).bind fun t143 => (if t143 = true then ((table_Count.f k (([(⟨2, 5⟩ : S34), (⟨(-1), 0⟩ : S34)] : List (S34))) 2).bind fun bt147 => (some (bt147.1 == 1 && (bt147.2.1 == 8 && (bt147.2.2 == 2))))) else (some false))) else (some false)) = some r := H
 have A1 := Aside0.mk A10
 clear A10
 by_cases c2 : t139 = 0
 ·rw [if_pos c2] at H
  have c2b0 : (t139 == 0) = true := beq_iff_eq.mpr c2
  have c2b1 : (t139 != 0) = false := bne_eq_false_iff_eq.mpr c2
  clear c2
  obtain ⟨y140, hy140⟩ : ∃ y_ : List Int, y_ = (([3, 0, 0, 0, 5, 0, 0, 0] : List Int)) := ⟨_, rfl⟩
  replace H : ((bytes_Equal.f t136 y140).bind fun t143 => (if t143 = true then ((table_Count.f k (([(⟨2, 5⟩ : S34), (⟨(-1), 0⟩ : S34)] : List (S34))) 2).bind fun bt147 => (some (bt147.1 == 1 && (bt147.2.1 == 8 && (bt147.2.2 == 2))))) else (some false))) = some r := by first | (rw [hy140]; with_reducible exact H) | (have H2_ := (Option.bind_some _ _).symm.trans H; rw [hy140]; with_reducible exact H2_) | (have H2_ := (Option.bind_some _ _).symm.trans H; with_reducible exact H2_) | with_reducible exact H | (rw [hy140]; exact H) | exact H
  have Ny140 := Aside0.mk hy140
  clear hy140
  replace H := Option.bind_eq_some_iff.mp H
  obtain ⟨t143, A30, H⟩ := H
  replace H : (if t143 = true then ((table_Count.f k (([(⟨2, 5⟩ : S34), (⟨(-1), 0⟩ : S34)] : List (S34))) 2).bind fun bt147 => (some (bt147.1 == 1 && (bt147.2.1 == 8 && (bt147.2.2 == 2))))) else (some false)) = some r := H
  have A3 := Aside0.mk A30
  clear A30
  by_cases c4 : t143 = true
  ·subst c4
   have H1 : ((table_Count.f k (([(⟨2, 5⟩ : S34), (⟨(-1), 0⟩ : S34)] : List (S34))) 2).bind fun bt147 => (some (bt147.1 == 1 && (bt147.2.1 == 8 && (bt147.2.2 == 2))))) = some r := by rw [if_pos rfl] at H; exact H
   clear H
   have H := H1
   clear H1
   obtain ⟨y144, hy144⟩ : ∃ y_ : List (S34), y_ = (([(⟨2, 5⟩ : S34), (⟨(-1), 0⟩ : S34)] : List (S34))) := ⟨_, rfl⟩
   replace H : ((table_Count.f k y144 2).bind fun bt147 => (some (bt147.1 == 1 && (bt147.2.1 == 8 && (bt147.2.2 == 2))))) = some r := by first | (rw [hy144]; with_reducible exact H) | (have H2_ := (Option.bind_some _ _).symm.trans H; rw [hy144]; with_reducible exact H2_) | (have H2_ := (Option.bind_some _ _).symm.trans H; with_reducible exact H2_) | with_reducible exact H | (rw [hy144]; exact H) | exact H
   have Ny144 := Aside0.mk hy144
   clear hy144
   replace H := Option.bind_eq_some_iff.mp H
   obtain ⟨⟨t147, t148, t149⟩, A50, H⟩ := H
   replace H : (some (t147 == 1 && (t148 == 8 && (t149 == 2)))) = some r := H
   have A5 := Aside0.mk A50
   clear A50
   obtain rfl := Option.some.inj H
   go_enter Try.func8, Try.ntmps8
   go_wp2_with (first | ((with_reducible refine gate_callee (f := 33) rfl ?_); refine goesL_ (some 5) rfl rfl Try.func33 (by kernel_rfl) rfl #[.agg #[.int .i64 2, .int .u32 5]] rfl (by (try simp only [List.map_toArray, List.map_cons, List.map_nil]); first | done | rfl | (simp only [List.length_drop, List.length_take]; rfl)) ?_; (with_reducible refine (table_Bytes.calls k 2 5 t136 t139 _ A1.out).mono ?_); rintro e w6 ⟨v137, rfl, ho0, hb⟩; refine ⟨_, rfl, ?_⟩; have n0_ := Aside0.mk (Kd.R_lower ho0 (below_size (by repeat (first | (with_reducible first | exact HB.out | apply below_alloc | apply pw_below_drewN | apply below_drew1) | exact HB.out)))); have n1_ := Aside0.mk (below_step (by repeat (first | (with_reducible first | exact HB.out | apply below_alloc | apply pw_below_drewN | apply below_drew1) | exact HB.out)) hb); clear HB; have HO138 := n0_; have HB := n1_; clear n0_ n1_; (try clear hb); (try clear hb2); (try clear hk); (try clear hi); (try clear ho0); (try clear A1)) | ((with_reducible refine gate_dst (N := 12) rfl ?_); (try (refine gate_guard (by rfl) ?_; dsimp only)); refine Kd.R_lit (Kd.int .u8) _ 5 ?hg (N := 12) ?hd (xs := ([3, 0, 0, 0, 5, 0, 0, 0] : List Int)) (inner := [.int .u8 3, .int .u8 0, .int .u8 0, .int .u8 0, .int .u8 5, .int .u8 0, .int .u8 0, .int .u8 0]) (ok := fun _ => True) (okp := fun _ => True) ?hr ?hp (fun _ hk => hk) trivial (Below.refl _ _) (Nat.le_refl _) (by simp) ?_; (case hd => rfl); (case hg => rfl); (case hr => first | (go_simp; done) | (go_simp; rfl)); (case hp => exact (Reps.one (show Kd.M (Kd.int .u8) _ _ _ 3 [.int .u8 3] from rfl) (Reps.one (show Kd.M (Kd.int .u8) _ _ _ 0 [.int .u8 0] from rfl) (Reps.one (show Kd.M (Kd.int .u8) _ _ _ 0 [.int .u8 0] from rfl) (Reps.one (show Kd.M (Kd.int .u8) _ _ _ 0 [.int .u8 0] from rfl) (Reps.one (show Kd.M (Kd.int .u8) _ _ _ 5 [.int .u8 5] from rfl) (Reps.one (show Kd.M (Kd.int .u8) _ _ _ 0 [.int .u8 0] from rfl) (Reps.one (show Kd.M (Kd.int .u8) _ _ _ 0 [.int .u8 0] from rfl) (Reps.one (show Kd.M (Kd.int .u8) _ _ _ 0 [.int .u8 0] from rfl) (Reps.none _ _)))))))))); intro v141 w7 ho8 hb hg_ hnew_; clear hg_ hnew_; (first | rw [← Ny140.out] at ho8 | (simp only [Int.reduceToNat] at ho8; rw [← Ny140.out] at ho8)); have n0_ := Aside0.mk (Kd.R_elder' (by (with_reducible repeat (first | apply Kd.R_alloc | apply Kd.R_drewN | apply Kd.R_drew)); exact HO138.out) (Kd.R_base ho8) hb); have n1_ := Aside0.mk (Kd.R_lower (Kd.R_new' ho8 (Kd.R_lt (by (with_reducible repeat (first | apply Kd.R_alloc | apply Kd.R_drewN | apply Kd.R_drew)); exact HO138.out))) (below_size (by repeat (first | (with_reducible first | exact HB.out | apply below_alloc | apply pw_below_drewN | apply below_drew1) | exact HB.out)))); have n2_ := Aside0.mk (below_step (by repeat (first | (with_reducible first | exact HB.out | apply below_alloc | apply pw_below_drewN | apply below_drew1) | exact HB.out)) hb); clear HO138; clear HB; have HO138 := n0_; have HO142 := n1_; have HB := n2_; clear n0_ n1_ n2_; clear hb ho8; obtain ⟨Ao9, co9, eo9⟩ := Kd.R_slice HO138.out; subst eo9; obtain ⟨Ao10, co10, eo10⟩ := Kd.R_slice HO142.out; subst eo10) | (go_at_call 35; (with_reducible refine (bytes_Equal.calls _ _ t136 _ _ y140 true _ ?side1 ?side2 ?side3 ?side4 A3.out).mono ?_); (case side1 => repeat (first | exact (Kd.R_reads' HO138.out).2.2 | (with_reducible refine Kd.C_alloc ?_ _) | (with_reducible refine Kd.C_drewN ?_ _) | (with_reducible refine Kd.C_drew ?_))); (case side2 => exact (Kd.R_reads' HO138.out).2.1); (case side3 => repeat (first | exact (Kd.R_reads' HO142.out).2.2 | (with_reducible refine Kd.C_alloc ?_ _) | (with_reducible refine Kd.C_drewN ?_ _) | (with_reducible refine Kd.C_drew ?_))); (case side4 => exact (Kd.R_reads' HO142.out).2.1); rintro e w' ⟨rfl, ⟨nd, rfl⟩⟩) | ((with_reducible refine gate_dst (N := 18) rfl ?_); (try (refine gate_guard (by rfl) ?_; dsimp only)); refine Kd.R_lit k34 _ 34 ?hg (N := 18) ?hd (xs := ([(⟨2, 5⟩ : S34), (⟨(-1), 0⟩ : S34)] : List (S34))) (inner := [.int .i64 2, .int .u32 5, .int .i64 (-1), .int .u32 0]) (ok := fun _ => True) (okp := fun _ => True) ?hr ?hp (fun _ hk => hk) trivial (Below.refl _ _) (Nat.le_refl _) (by simp) ?_; (case hd => rfl); (case hg => rfl); (case hr => first | (go_simp; done) | (go_simp; rfl)); (case hp => exact (Reps.c2 (show Kd.M k34 _ _ _ (⟨2, 5⟩ : S34) [.int .i64 2, .int .u32 5] from (k34_mkM _ _ _ (⟨2, 5⟩ : S34) )) (Reps.c2 (show Kd.M k34 _ _ _ (⟨(-1), 0⟩ : S34) [.int .i64 (-1), .int .u32 0] from (k34_mkM _ _ _ (⟨(-1), 0⟩ : S34) )) (Reps.none _ _)))); intro v145 w11 ho12 hb hg_ hnew_; clear hg_ hnew_; (first | rw [← Ny144.out] at ho12 | (simp only [Int.reduceToNat] at ho12; rw [← Ny144.out] at ho12)); have n0_ := Aside0.mk (Kd.R_below (by (with_reducible repeat (first | apply Kd.R_alloc | apply Kd.R_drewN | apply Kd.R_drew)); exact HO138.out) hb); have n1_ := Aside0.mk (Kd.R_below (by (with_reducible repeat (first | apply Kd.R_alloc | apply Kd.R_drewN | apply Kd.R_drew)); exact HO142.out) hb); have n2_ := Aside0.mk (Kd.R_lower ho12 (below_size (by repeat (first | (with_reducible first | exact HB.out | apply below_alloc | apply pw_below_drewN | apply below_drew1) | exact HB.out)))); have n3_ := Aside0.mk (below_step (by repeat (first | (with_reducible first | exact HB.out | apply below_alloc | apply pw_below_drewN | apply below_drew1) | exact HB.out)) hb); clear HO138; clear HO142; clear HB; have HO138 := n0_; have HO142 := n1_; have HO146 := n2_; have HB := n3_; clear n0_ n1_ n2_ n3_; clear hb ho12; obtain ⟨Ao13, co13, eo13⟩ := Kd.R_slice HO146.out; subst eo13) | (go_at_call 21; (with_reducible refine (table_Count.calls k _ _ y144 2 t147 t148 t149 _ ?side1 ?side2 A5.out).mono ?_); (case side1 => repeat (first | exact (Kd.R_reads' HO146.out).2.2 | (with_reducible refine Kd.C_alloc ?_ _) | (with_reducible refine Kd.C_drewN ?_ _) | (with_reducible refine Kd.C_drew ?_))); (case side2 => exact (Kd.R_reads' HO146.out).2.1); rintro e w14 ⟨rfl, hb⟩; have n0_ := Aside0.mk (Kd.R_below (by (with_reducible repeat (first | apply Kd.R_alloc | apply Kd.R_drewN | apply Kd.R_drew)); exact HO138.out) hb); have n1_ := Aside0.mk (Kd.R_below (by (with_reducible repeat (first | apply Kd.R_alloc | apply Kd.R_drewN | apply Kd.R_drew)); exact HO142.out) hb); have n2_ := Aside0.mk (Kd.R_below (by (with_reducible repeat (first | apply Kd.R_alloc | apply Kd.R_drewN | apply Kd.R_drew)); exact HO146.out) hb); have n3_ := Aside0.mk (below_step (by repeat (first | (with_reducible first | exact HB.out | apply below_alloc | apply pw_below_drewN | apply below_drew1) | exact HB.out)) hb); clear HO138; clear HO142; clear HO146; clear HB; have HO138 := n0_; have HO142 := n1_; have HO146 := n2_; have HB := n3_; clear n0_ n1_ n2_ n3_; (try clear hb); (try clear hb2); (try clear hk); (try clear hi); (try clear A5)))
   go_ret
   exact ⟨by first | rfl | (simp [errW_none, errW_some] <;> rfl) | (simp [*, errW_none, errW_some] <;> rfl) | (simp [Int.tdiv_eq_ediv_of_nonneg]; done), by repeat (first | (with_reducible first | exact HB.out | apply below_alloc | apply pw_below_drewN | apply below_drew1) | exact HB.out)⟩
  ·replace c4 := Bool.eq_false_iff.mpr c4
   subst c4
   have H1 : (some false) = some r := by rw [if_neg (show ¬ (false = true) by decide)] at H; exact H
   clear H
   have H := H1
   clear H1
   obtain rfl := Option.some.inj H
   go_enter Try.func8, Try.ntmps8
   go_wp2_with (first | ((with_reducible refine gate_callee (f := 33) rfl ?_); refine goesL_ (some 5) rfl rfl Try.func33 (by kernel_rfl) rfl #[.agg #[.int .i64 2, .int .u32 5]] rfl (by (try simp only [List.map_toArray, List.map_cons, List.map_nil]); first | done | rfl | (simp only [List.length_drop, List.length_take]; rfl)) ?_; (with_reducible refine (table_Bytes.calls k 2 5 t136 t139 _ A1.out).mono ?_); rintro e w15 ⟨v137, rfl, ho0, hb⟩; refine ⟨_, rfl, ?_⟩; have n0_ := Aside0.mk (Kd.R_lower ho0 (below_size (by repeat (first | (with_reducible first | exact HB.out | apply below_alloc | apply pw_below_drewN | apply below_drew1) | exact HB.out)))); have n1_ := Aside0.mk (below_step (by repeat (first | (with_reducible first | exact HB.out | apply below_alloc | apply pw_below_drewN | apply below_drew1) | exact HB.out)) hb); clear HB; have HO138 := n0_; have HB := n1_; clear n0_ n1_; (try clear hb); (try clear hb2); (try clear hk); (try clear hi); (try clear ho0); (try clear A1)) | ((with_reducible refine gate_dst (N := 12) rfl ?_); (try (refine gate_guard (by rfl) ?_; dsimp only)); refine Kd.R_lit (Kd.int .u8) _ 5 ?hg (N := 12) ?hd (xs := ([3, 0, 0, 0, 5, 0, 0, 0] : List Int)) (inner := [.int .u8 3, .int .u8 0, .int .u8 0, .int .u8 0, .int .u8 5, .int .u8 0, .int .u8 0, .int .u8 0]) (ok := fun _ => True) (okp := fun _ => True) ?hr ?hp (fun _ hk => hk) trivial (Below.refl _ _) (Nat.le_refl _) (by simp) ?_; (case hd => rfl); (case hg => rfl); (case hr => first | (go_simp; done) | (go_simp; rfl)); (case hp => exact (Reps.one (show Kd.M (Kd.int .u8) _ _ _ 3 [.int .u8 3] from rfl) (Reps.one (show Kd.M (Kd.int .u8) _ _ _ 0 [.int .u8 0] from rfl) (Reps.one (show Kd.M (Kd.int .u8) _ _ _ 0 [.int .u8 0] from rfl) (Reps.one (show Kd.M (Kd.int .u8) _ _ _ 0 [.int .u8 0] from rfl) (Reps.one (show Kd.M (Kd.int .u8) _ _ _ 5 [.int .u8 5] from rfl) (Reps.one (show Kd.M (Kd.int .u8) _ _ _ 0 [.int .u8 0] from rfl) (Reps.one (show Kd.M (Kd.int .u8) _ _ _ 0 [.int .u8 0] from rfl) (Reps.one (show Kd.M (Kd.int .u8) _ _ _ 0 [.int .u8 0] from rfl) (Reps.none _ _)))))))))); intro v141 w16 ho17 hb hg_ hnew_; clear hg_ hnew_; (first | rw [← Ny140.out] at ho17 | (simp only [Int.reduceToNat] at ho17; rw [← Ny140.out] at ho17)); have n0_ := Aside0.mk (Kd.R_elder' (by (with_reducible repeat (first | apply Kd.R_alloc | apply Kd.R_drewN | apply Kd.R_drew)); exact HO138.out) (Kd.R_base ho17) hb); have n1_ := Aside0.mk (Kd.R_lower (Kd.R_new' ho17 (Kd.R_lt (by (with_reducible repeat (first | apply Kd.R_alloc | apply Kd.R_drewN | apply Kd.R_drew)); exact HO138.out))) (below_size (by repeat (first | (with_reducible first | exact HB.out | apply below_alloc | apply pw_below_drewN | apply below_drew1) | exact HB.out)))); have n2_ := Aside0.mk (below_step (by repeat (first | (with_reducible first | exact HB.out | apply below_alloc | apply pw_below_drewN | apply below_drew1) | exact HB.out)) hb); clear HO138; clear HB; have HO138 := n0_; have HO142 := n1_; have HB := n2_; clear n0_ n1_ n2_; clear hb ho17; obtain ⟨Ao18, co18, eo18⟩ := Kd.R_slice HO138.out; subst eo18; obtain ⟨Ao19, co19, eo19⟩ := Kd.R_slice HO142.out; subst eo19) | (go_at_call 35; (with_reducible refine (bytes_Equal.calls _ _ t136 _ _ y140 false _ ?side1 ?side2 ?side3 ?side4 A3.out).mono ?_); (case side1 => repeat (first | exact (Kd.R_reads' HO138.out).2.2 | (with_reducible refine Kd.C_alloc ?_ _) | (with_reducible refine Kd.C_drewN ?_ _) | (with_reducible refine Kd.C_drew ?_))); (case side2 => exact (Kd.R_reads' HO138.out).2.1); (case side3 => repeat (first | exact (Kd.R_reads' HO142.out).2.2 | (with_reducible refine Kd.C_alloc ?_ _) | (with_reducible refine Kd.C_drewN ?_ _) | (with_reducible refine Kd.C_drew ?_))); (case side4 => exact (Kd.R_reads' HO142.out).2.1); rintro e w' ⟨rfl, ⟨nd, rfl⟩⟩))
   go_ret
   exact ⟨by first | rfl | (simp [errW_none, errW_some] <;> rfl) | (simp [*, errW_none, errW_some] <;> rfl) | (simp [Int.tdiv_eq_ediv_of_nonneg]; done), by repeat (first | (with_reducible first | exact HB.out | apply below_alloc | apply pw_below_drewN | apply below_drew1) | exact HB.out)⟩
 ·rw [if_neg c2] at H
  have c2b0 : (t139 == 0) = false := beq_eq_false_iff_ne.mpr c2
  have c2b1 : (t139 != 0) = true := bne_iff_ne.mpr c2
  obtain rfl := Option.some.inj H
  go_enter Try.func8, Try.ntmps8
  go_wp2_with (first | ((with_reducible refine gate_callee (f := 33) rfl ?_); refine goesL_ (some 5) rfl rfl Try.func33 (by kernel_rfl) rfl #[.agg #[.int .i64 2, .int .u32 5]] rfl (by (try simp only [List.map_toArray, List.map_cons, List.map_nil]); first | done | rfl | (simp only [List.length_drop, List.length_take]; rfl)) ?_; (with_reducible refine (table_Bytes.calls k 2 5 t136 t139 _ A1.out).mono ?_); rintro e w20 ⟨v137, rfl, ho0, hb⟩; refine ⟨_, rfl, ?_⟩; have n0_ := Aside0.mk (Kd.R_lower ho0 (below_size (by repeat (first | (with_reducible first | exact HB.out | apply below_alloc | apply pw_below_drewN | apply below_drew1) | exact HB.out)))); have n1_ := Aside0.mk (below_step (by repeat (first | (with_reducible first | exact HB.out | apply below_alloc | apply pw_below_drewN | apply below_drew1) | exact HB.out)) hb); clear HB; have HO138 := n0_; have HB := n1_; clear n0_ n1_; (try clear hb); (try clear hb2); (try clear hk); (try clear hi); (try clear ho0); (try clear A1)))
  go_ret
  exact ⟨by first | rfl | (simp [errW_none, errW_some] <;> rfl) | (simp [*, errW_none, errW_some] <;> rfl) | (simp [Int.tdiv_eq_ediv_of_nonneg]; done), by repeat (first | (with_reducible first | exact HB.out | apply below_alloc | apply pw_below_drewN | apply below_drew1) | exact HB.out)⟩

/-! ### atticlaw14_few: function 9 -/
def atticlaw14_few.f (l0_0 : List (S34)) : Option (Bool) := some (decide ((l0_0.length : Int) ≤ 400))
set_option maxHeartbeats 8000000 in
set_option maxRecDepth 100000 in
theorem atticlaw14_few.calls (A0_0 : Option Addr) (c0_0 : Nat) (l0_0 : List (S34)) (r : Bool) (w : World) (hr0_0 : Kd.C k34 w A0_0 l0_0.length l0_0) (hc0_0 : l0_0.length ≤ c0_0) (h : atticlaw14_few.f l0_0 = some r) :
  Calls Try.prog 9 #[.agg #[.slice A0_0 l0_0.length c0_0]] w fun e w' => e = .returned (.bool r) ∧ Below w.heap.size w w' := by
 have hu24 := Try.underlying24
 have HR0_0 := Aside0.mk hr0_0
 have HC0_0 := Aside0.mk hc0_0
 clear hr0_0 hc0_0
 have HB := Aside0.mk (Below.refl w.heap.size w)
 have H : (some (decide ((l0_0.length : Int) ≤ 400))) = some r := h
 clear h
 obtain rfl := Option.some.inj H
 go_enter Try.func9, Try.ntmps9
 go_wp2_with (first | ((with_reducible refine gate_dst (N := 1) rfl ?_); refine box_event ?hg (N := 1) ?hd (cs := #[.slice A0_0 l0_0.length c0_0]) (t := 24) ?hr ?_; (case hd => rfl); (case hg => rfl); (case hr => first | (go_simp; done) | (go_simp; rfl)); intro gb150 hg w2 hbox hb; have n0_ := Aside0.mk (below_step (by repeat (first | (with_reducible first | exact HB.out | apply below_alloc | apply pw_below_drewN | apply below_drew1) | exact HB.out)) hb); have n1_ := Aside0.mk (hbox); have n2_ := Aside0.mk ((by rw [hg]; exact (below_size (by repeat (first | (with_reducible first | exact HB.out | apply below_alloc | apply pw_below_drewN | apply below_drew1) | exact HB.out))) : w.heap.size ≤ gb150)); have n3_ := Aside0.mk ((by rw [hg]; exact (below_size (by repeat (first | (with_reducible first | exact HB.out | apply below_alloc | apply pw_below_drewN | apply below_drew1) | exact HB.out))) : w.heap.size ≤ gb150)); clear HB; have HB := n0_; have BK150 := n1_; have GW150 := n2_; have GE150 := n3_; clear n0_ n1_ n2_ n3_; clear hb hbox hg; have hcz3_0 : w2.cell? ⟨gb150, 0, none⟩ = some (.slice A0_0 l0_0.length c0_0) := (blk_cell BK150.out 0).trans rfl; have hfz3_0 := blk_frozen BK150.out 0))
 go_ret
 exact ⟨by first | rfl | (simp [errW_none, errW_some] <;> rfl) | (simp [*, errW_none, errW_some] <;> rfl) | (simp [Int.tdiv_eq_ediv_of_nonneg]; done), by repeat (first | (with_reducible first | exact HB.out | apply below_alloc | apply pw_below_drewN | apply below_drew1 | refine below_set ?_ GE150.out) | exact HB.out)⟩

/-! ### atticref14_Same: function 13 -/
def atticref14_Same.l0 : Nat → Int → List (S34) → List (S34) → Option (Bool)
 | 0, _, _, _ => none
 | k + 1, x5, x152000, x153000 => if x5 < (x152000.length : Int) then (if 0 ≤ x5 then (if x5 < (x153000.length : Int) then (if (!(((rd_T34 x152000 x5).f0) == ((rd_T34 x153000 x5).f0)) || (!(((rd_T34 x152000 x5).f1) == ((rd_T34 x153000 x5).f1)))) = true then (some false) else (atticref14_Same.l0 k (wrap64 (x5 + 1)) x152000 x153000)) else (none)) else (none)) else (some true)
def atticref14_Same.f (k : Nat) (l0_0 : List (S34)) (l1_0 : List (S34)) : Option (Bool) := if (l0_0.length : Int) = (l1_0.length : Int) then (atticref14_Same.l0 k 0 l0_0 l1_0) else (some false)
theorem atticref14_Same.mono_l : ∀ k, (∀ y0 y1 y2, LeO (atticref14_Same.l0 k y0 y1 y2) (atticref14_Same.l0 (k + 1) y0 y1 y2))
 | 0 => fun _ _ _ r h => by simp [atticref14_Same.l0] at h
 | k + 1 => by
  have ih0 := atticref14_Same.mono_l k
  ·intro y0 y1 y2
   unfold atticref14_Same.l0
   repeat' first
   | (with_reducible exact ih0 _ _ _)
   | (with_reducible exact LeO.refl _)
   | (with_reducible exact LeO.none _)
   | (with_reducible refine LeO.ite ?_ ?_)
   | (with_reducible refine LeO.bind ?_ (fun _ => ?_))
   | exact ih0 _ _ _
   | exact LeO.none _
   | refine LeO.ite ?_ ?_
   | refine LeO.bind ?_ (fun _ => ?_)
theorem atticref14_Same.mono : ∀ a0 a1 k, LeO (atticref14_Same.f k a0 a1) (atticref14_Same.f (k + 1) a0 a1) := by
 intro a0 a1 k
 have ih0 := atticref14_Same.mono_l k
 unfold atticref14_Same.f
 repeat' first
   | (with_reducible exact ih0 _ _ _)
   | (with_reducible exact LeO.refl _)
   | (with_reducible exact LeO.none _)
   | (with_reducible refine LeO.ite ?_ ?_)
   | (with_reducible refine LeO.bind ?_ (fun _ => ?_))
   | exact ih0 _ _ _
   | exact LeO.none _
   | refine LeO.ite ?_ ?_
   | refine LeO.bind ?_ (fun _ => ?_)
set_option maxHeartbeats 8000000 in
set_option maxRecDepth 100000 in
theorem atticref14_Same.calls (k : Nat) (A0_0 : Option Addr) (c0_0 : Nat) (l0_0 : List (S34)) (A1_0 : Option Addr) (c1_0 : Nat) (l1_0 : List (S34)) (r : Bool) (w : World) (hr0_0 : Kd.C k34 w A0_0 l0_0.length l0_0) (hc0_0 : l0_0.length ≤ c0_0) (hr1_0 : Kd.C k34 w A1_0 l1_0.length l1_0) (hc1_0 : l1_0.length ≤ c1_0) (h : atticref14_Same.f k l0_0 l1_0 = some r) :
  Calls Try.prog 13 #[.agg #[.slice A0_0 l0_0.length c0_0], .agg #[.slice A1_0 l1_0.length c1_0]] w fun e w' => e = .returned (.bool r) ∧ Below w.heap.size w w' := by
 have hu24 := Try.underlying24
 have hu34 := Try.underlying34
 have HR0_0 := Aside0.mk hr0_0
 have HC0_0 := Aside0.mk hc0_0
 clear hr0_0 hc0_0
 have HR1_0 := Aside0.mk hr1_0
 have HC1_0 := Aside0.mk hc1_0
 clear hr1_0 hc1_0
 have HB := Aside0.mk (Below.refl w.heap.size w)
 have H : (if (l0_0.length : Int) = (l1_0.length : Int) then (atticref14_Same.l0 k 0 l0_0 l1_0) else (some false)) = some r := h
 clear h
 by_cases c3 : (l0_0.length : Int) = (l1_0.length : Int)
 ·rw [if_pos c3] at H
  have c3b0 : ((l0_0.length : Int) == (l1_0.length : Int)) = true := beq_iff_eq.mpr c3
  have c3b1 : ((l0_0.length : Int) != (l1_0.length : Int)) = false := bne_eq_false_iff_eq.mpr c3
  have c3b2 : (l0_0.length == l1_0.length) = true := by first | simpa using c3 | (simp at c3 ⊢; omega)
  clear c3
  have H' := Aside0.mk H
  clear H
  go_enter Try.func13, Try.ntmps13
  go_wp2_with (first | ((with_reducible refine gate_dst (N := 2) rfl ?_); refine box_event ?hg (N := 2) ?hd (cs := #[.slice A0_0 l0_0.length c0_0]) (t := 24) ?hr ?_; (case hd => rfl); (case hg => rfl); (case hr => first | (go_simp; done) | (go_simp; rfl)); intro gb151 hg w4 hbox hb; have n0_ := Aside0.mk (below_step (by repeat (first | (with_reducible first | exact HB.out | apply below_alloc | apply pw_below_drewN | apply below_drew1) | exact HB.out)) hb); have n1_ := Aside0.mk (hbox); have n2_ := Aside0.mk ((by rw [hg]; exact (below_size (by repeat (first | (with_reducible first | exact HB.out | apply below_alloc | apply pw_below_drewN | apply below_drew1) | exact HB.out))) : w.heap.size ≤ gb151)); have n3_ := Aside0.mk ((by rw [hg]; exact (below_size (by repeat (first | (with_reducible first | exact HB.out | apply below_alloc | apply pw_below_drewN | apply below_drew1) | exact HB.out))) : w.heap.size ≤ gb151)); clear HB; have HB := n0_; have BK151 := n1_; have GW151 := n2_; have GE151 := n3_; clear n0_ n1_ n2_ n3_; clear hb hbox hg) | ((with_reducible refine gate_dst (N := 3) rfl ?_); refine box_event ?hg (N := 3) ?hd (cs := #[.slice A1_0 l1_0.length c1_0]) (t := 24) ?hr ?_; (case hd => rfl); (case hg => rfl); (case hr => first | (go_simp; done) | (go_simp; rfl)); intro gb152 hg w5 hbox hb; have n0_ := Aside0.mk (blk_below (g := gb151) (o := .cells #[.slice A0_0 l0_0.length c0_0] 24 (0, 0)) (by (with_reducible repeat first | apply blk_drewN | apply blk_drew | apply blk_alloc); exact BK151.out) hb); have n1_ := Aside0.mk (below_step (by repeat (first | (with_reducible first | exact HB.out | apply below_alloc | apply pw_below_drewN | apply below_drew1 | refine below_set ?_ GE151.out) | exact HB.out)) hb); have n2_ := Aside0.mk (hbox); have n3_ := Aside0.mk ((by rw [hg]; exact (below_size (by repeat (first | (with_reducible first | exact HB.out | apply below_alloc | apply pw_below_drewN | apply below_drew1 | refine below_set ?_ GE151.out) | exact HB.out))) : w.heap.size ≤ gb152)); have n4_ := Aside0.mk ((by rw [hg]; exact (below_size (by repeat (first | (with_reducible first | exact HB.out | apply below_alloc | apply pw_below_drewN | apply below_drew1 | refine below_set ?_ GE151.out) | exact HB.out))) : w.heap.size ≤ gb152)); have n5_ := Aside0.mk ((by rw [hg]; exact Nat.ne_of_lt (blk_lt (g := gb151) (o := .cells #[.slice A0_0 l0_0.length c0_0] 24 (0, 0)) (by (with_reducible repeat first | apply blk_drewN | apply blk_drew | apply blk_alloc); exact BK151.out)) : gb151 ≠ gb152)); have n6_ := Aside0.mk ((by rw [hg]; exact Nat.ne_of_gt (blk_lt (g := gb151) (o := .cells #[.slice A0_0 l0_0.length c0_0] 24 (0, 0)) (by (with_reducible repeat first | apply blk_drewN | apply blk_drew | apply blk_alloc); exact BK151.out)) : gb152 ≠ gb151)); clear BK151; clear HB; have BK151 := n0_; have HB := n1_; have BK152 := n2_; have GW152 := n3_; have GE152 := n4_; have NB151_152 := n5_; have NB152_151 := n6_; clear n0_ n1_ n2_ n3_ n4_ n5_ n6_; clear hb hbox hg; have hnb6 := NB151_152.out; have hnc6 := NB152_151.out; have hcz7_0 : w5.cell? ⟨gb151, 0, none⟩ = some (.slice A0_0 l0_0.length c0_0) := (blk_cell BK151.out 0).trans rfl; have hfz7_0 := blk_frozen BK151.out 0; have hcz8_0 : w5.cell? ⟨gb152, 0, none⟩ = some (.slice A1_0 l1_0.length c1_0) := (blk_cell BK152.out 0).trans rfl; have hfz8_0 := blk_frozen BK152.out 0))
  repeat (go_quiet (first | ((with_reducible refine gate_dst (N := 2) rfl ?_); refine box_event ?hg (N := 2) ?hd (cs := #[.slice A0_0 l0_0.length c0_0]) (t := 24) ?hr ?_; (case hd => rfl); (case hg => rfl); (case hr => first | (go_simp; done) | (go_simp; rfl)); intro gb151 hg w4 hbox hb; have n0_ := Aside0.mk (below_step (by repeat (first | (with_reducible first | exact HB.out | apply below_alloc | apply pw_below_drewN | apply below_drew1) | exact HB.out)) hb); have n1_ := Aside0.mk (hbox); have n2_ := Aside0.mk ((by rw [hg]; exact (below_size (by repeat (first | (with_reducible first | exact HB.out | apply below_alloc | apply pw_below_drewN | apply below_drew1) | exact HB.out))) : w.heap.size ≤ gb151)); have n3_ := Aside0.mk ((by rw [hg]; exact (below_size (by repeat (first | (with_reducible first | exact HB.out | apply below_alloc | apply pw_below_drewN | apply below_drew1) | exact HB.out))) : w.heap.size ≤ gb151)); clear HB; have HB := n0_; have BK151 := n1_; have GW151 := n2_; have GE151 := n3_; clear n0_ n1_ n2_ n3_; clear hb hbox hg) | ((with_reducible refine gate_dst (N := 3) rfl ?_); refine box_event ?hg (N := 3) ?hd (cs := #[.slice A1_0 l1_0.length c1_0]) (t := 24) ?hr ?_; (case hd => rfl); (case hg => rfl); (case hr => first | (go_simp; done) | (go_simp; rfl)); intro gb152 hg w5 hbox hb; have n0_ := Aside0.mk (blk_below (g := gb151) (o := .cells #[.slice A0_0 l0_0.length c0_0] 24 (0, 0)) (by (with_reducible repeat first | apply blk_drewN | apply blk_drew | apply blk_alloc); exact BK151.out) hb); have n1_ := Aside0.mk (below_step (by repeat (first | (with_reducible first | exact HB.out | apply below_alloc | apply pw_below_drewN | apply below_drew1 | refine below_set ?_ GE151.out) | exact HB.out)) hb); have n2_ := Aside0.mk (hbox); have n3_ := Aside0.mk ((by rw [hg]; exact (below_size (by repeat (first | (with_reducible first | exact HB.out | apply below_alloc | apply pw_below_drewN | apply below_drew1 | refine below_set ?_ GE151.out) | exact HB.out))) : w.heap.size ≤ gb152)); have n4_ := Aside0.mk ((by rw [hg]; exact (below_size (by repeat (first | (with_reducible first | exact HB.out | apply below_alloc | apply pw_below_drewN | apply below_drew1 | refine below_set ?_ GE151.out) | exact HB.out))) : w.heap.size ≤ gb152)); have n5_ := Aside0.mk ((by rw [hg]; exact Nat.ne_of_lt (blk_lt (g := gb151) (o := .cells #[.slice A0_0 l0_0.length c0_0] 24 (0, 0)) (by (with_reducible repeat first | apply blk_drewN | apply blk_drew | apply blk_alloc); exact BK151.out)) : gb151 ≠ gb152)); have n6_ := Aside0.mk ((by rw [hg]; exact Nat.ne_of_gt (blk_lt (g := gb151) (o := .cells #[.slice A0_0 l0_0.length c0_0] 24 (0, 0)) (by (with_reducible repeat first | apply blk_drewN | apply blk_drew | apply blk_alloc); exact BK151.out)) : gb152 ≠ gb151)); clear BK151; clear HB; have BK151 := n0_; have HB := n1_; have BK152 := n2_; have GW152 := n3_; have GE152 := n4_; have NB151_152 := n5_; have NB152_151 := n6_; clear n0_ n1_ n2_ n3_ n4_ n5_ n6_; clear hb hbox hg; have hnb6 := NB151_152.out; have hnc6 := NB152_151.out; have hcz7_0 : w5.cell? ⟨gb151, 0, none⟩ = some (.slice A0_0 l0_0.length c0_0) := (blk_cell BK151.out 0).trans rfl; have hfz7_0 := blk_frozen BK151.out 0; have hcz8_0 : w5.cell? ⟨gb152, 0, none⟩ = some (.slice A1_0 l1_0.length c1_0) := (blk_cell BK152.out 0).trans rfl; have hfz8_0 := blk_frozen BK152.out 0)); try go_wp2_with (first | ((with_reducible refine gate_dst (N := 2) rfl ?_); refine box_event ?hg (N := 2) ?hd (cs := #[.slice A0_0 l0_0.length c0_0]) (t := 24) ?hr ?_; (case hd => rfl); (case hg => rfl); (case hr => first | (go_simp; done) | (go_simp; rfl)); intro gb151 hg w4 hbox hb; have n0_ := Aside0.mk (below_step (by repeat (first | (with_reducible first | exact HB.out | apply below_alloc | apply pw_below_drewN | apply below_drew1) | exact HB.out)) hb); have n1_ := Aside0.mk (hbox); have n2_ := Aside0.mk ((by rw [hg]; exact (below_size (by repeat (first | (with_reducible first | exact HB.out | apply below_alloc | apply pw_below_drewN | apply below_drew1) | exact HB.out))) : w.heap.size ≤ gb151)); have n3_ := Aside0.mk ((by rw [hg]; exact (below_size (by repeat (first | (with_reducible first | exact HB.out | apply below_alloc | apply pw_below_drewN | apply below_drew1) | exact HB.out))) : w.heap.size ≤ gb151)); clear HB; have HB := n0_; have BK151 := n1_; have GW151 := n2_; have GE151 := n3_; clear n0_ n1_ n2_ n3_; clear hb hbox hg) | ((with_reducible refine gate_dst (N := 3) rfl ?_); refine box_event ?hg (N := 3) ?hd (cs := #[.slice A1_0 l1_0.length c1_0]) (t := 24) ?hr ?_; (case hd => rfl); (case hg => rfl); (case hr => first | (go_simp; done) | (go_simp; rfl)); intro gb152 hg w5 hbox hb; have n0_ := Aside0.mk (blk_below (g := gb151) (o := .cells #[.slice A0_0 l0_0.length c0_0] 24 (0, 0)) (by (with_reducible repeat first | apply blk_drewN | apply blk_drew | apply blk_alloc); exact BK151.out) hb); have n1_ := Aside0.mk (below_step (by repeat (first | (with_reducible first | exact HB.out | apply below_alloc | apply pw_below_drewN | apply below_drew1 | refine below_set ?_ GE151.out) | exact HB.out)) hb); have n2_ := Aside0.mk (hbox); have n3_ := Aside0.mk ((by rw [hg]; exact (below_size (by repeat (first | (with_reducible first | exact HB.out | apply below_alloc | apply pw_below_drewN | apply below_drew1 | refine below_set ?_ GE151.out) | exact HB.out))) : w.heap.size ≤ gb152)); have n4_ := Aside0.mk ((by rw [hg]; exact (below_size (by repeat (first | (with_reducible first | exact HB.out | apply below_alloc | apply pw_below_drewN | apply below_drew1 | refine below_set ?_ GE151.out) | exact HB.out))) : w.heap.size ≤ gb152)); have n5_ := Aside0.mk ((by rw [hg]; exact Nat.ne_of_lt (blk_lt (g := gb151) (o := .cells #[.slice A0_0 l0_0.length c0_0] 24 (0, 0)) (by (with_reducible repeat first | apply blk_drewN | apply blk_drew | apply blk_alloc); exact BK151.out)) : gb151 ≠ gb152)); have n6_ := Aside0.mk ((by rw [hg]; exact Nat.ne_of_gt (blk_lt (g := gb151) (o := .cells #[.slice A0_0 l0_0.length c0_0] 24 (0, 0)) (by (with_reducible repeat first | apply blk_drewN | apply blk_drew | apply blk_alloc); exact BK151.out)) : gb152 ≠ gb151)); clear BK151; clear HB; have BK151 := n0_; have HB := n1_; have BK152 := n2_; have GW152 := n3_; have GE152 := n4_; have NB151_152 := n5_; have NB152_151 := n6_; clear n0_ n1_ n2_ n3_ n4_ n5_ n6_; clear hb hbox hg; have hnb6 := NB151_152.out; have hnc6 := NB152_151.out; have hcz7_0 : w5.cell? ⟨gb151, 0, none⟩ = some (.slice A0_0 l0_0.length c0_0) := (blk_cell BK151.out 0).trans rfl; have hfz7_0 := blk_frozen BK151.out 0; have hcz8_0 : w5.cell? ⟨gb152, 0, none⟩ = some (.slice A1_0 l1_0.length c1_0) := (blk_cell BK152.out 0).trans rfl; have hfz8_0 := blk_frozen BK152.out 0)))
  go_loopg [5] k (fun kq v5 w' => ∃ (x5_1 : Int), v5 = .int .i64 x5_1 ∧ Aside0 (atticref14_Same.l0 kq x5_1 l0_0 l1_0 = some r) ∧ Aside0 (kq ≤ k) ∧ Aside0 (w'.heap[gb151]? = some (.cells #[(.slice A0_0 l0_0.length c0_0)] 24 (0, 0))) ∧ Aside0 (w'.heap[gb152]? = some (.cells #[(.slice A1_0 l1_0.length c1_0)] 24 (0, 0))) ∧ Aside0 (Below w.heap.size w w'))
  case atStart => exact ⟨(0), (by first | rfl | (simp; done) | (simp [*]; done) | (simp [Int.tdiv_eq_ediv_of_nonneg]; done)), H', ⟨Nat.le_refl _⟩, ⟨by (with_reducible repeat first | apply blk_drewN | apply blk_drew | apply blk_alloc); exact BK151.out⟩, ⟨by (with_reducible repeat first | apply blk_drewN | apply blk_drew | apply blk_alloc); exact BK152.out⟩, ⟨by repeat (first | (with_reducible first | exact HB.out | apply below_alloc | apply pw_below_drewN | apply below_drew1 | refine below_set ?_ GE151.out | refine below_set ?_ GE152.out) | exact HB.out)⟩⟩
  case round =>
   clear H'
   try clear c1
   try clear p2
   try clear c3
   try clear c3b0
   try clear c3b1
   try clear c3b2
   try clear c6
   try clear hcz7_0
   try clear hcz8_0
   try clear hfz7_0
   try clear hfz8_0
   obtain ⟨x5_1, rfl, HA, HK1, BK151, BK152, HB⟩ := hrel
   cases gk with
   | zero => exact absurd HA.out (by simp [atticref14_Same.l0])
   | succ k1 =>
    have H := HA.out
    clear HA
    simp only [atticref14_Same.l0] at H
    by_cases c9 : x5_1 < (l0_0.length : Int)
    ·rw [if_pos c9] at H
     have c9b0 : decide (x5_1 < (l0_0.length : Int)) = true := decide_eq_true c9
     clear c9
     by_cases c10 : 0 ≤ x5_1
     ·rw [if_pos c10] at H
      have c10b0 : decide (0 ≤ x5_1) = true := decide_eq_true c10
      clear c10
      by_cases c11 : x5_1 < (l1_0.length : Int)
      ·rw [if_pos c11] at H
       have c11b0 : decide (x5_1 < (l1_0.length : Int)) = true := decide_eq_true c11
       clear c11
       by_cases c12 : (!(((rd_T34 l0_0 x5_1).f0) == ((rd_T34 l1_0 x5_1).f0)) || (!(((rd_T34 l0_0 x5_1).f1) == ((rd_T34 l1_0 x5_1).f1)))) = true
       ·rw [if_pos c12] at H
        have c12b0 : (!(((rd_T34 l0_0 x5_1).f0) == ((rd_T34 l1_0 x5_1).f0)) || (!(((rd_T34 l0_0 x5_1).f1) == ((rd_T34 l1_0 x5_1).f1)))) = true := c12
        clear c12
        obtain rfl := Option.some.inj H
        have hnb13 := NB151_152.out
        have hnc13 := NB152_151.out
        have hcz14_0 : wr.cell? ⟨gb151, 0, none⟩ = some (.slice A0_0 l0_0.length c0_0) := (blk_cell BK151.out 0).trans rfl
        have hfz14_0 := blk_frozen BK151.out 0
        have p153 : 0 ≤ (x5_1 : Int) := of_decide_eq_true (by first | (with_reducible assumption) | assumption)
        have q153 : x5_1 < (l0_0.length : Int) := of_decide_eq_true (by first | (with_reducible assumption) | assumption)
        obtain ⟨ad153, e153, hx153_0, hx153_1⟩ := at_T34 HR0_0.out x5_1 p153 q153
        cases e153
        replace hx153_0 := (HB.out.cell (World.block_lt_of_cell? w _ hx153_0)).trans hx153_0
        replace hx153_1 := (HB.out.cell (World.block_lt_of_cell? w _ hx153_1)).trans hx153_1
        replace p153 := eq_true p153
        replace q153 := eq_true q153
        have hcz15_0 : wr.cell? ⟨gb152, 0, none⟩ = some (.slice A1_0 l1_0.length c1_0) := (blk_cell BK152.out 0).trans rfl
        have hfz15_0 := blk_frozen BK152.out 0
        have p154 : 0 ≤ (x5_1 : Int) := of_decide_eq_true (by first | (with_reducible assumption) | assumption)
        have q154 : x5_1 < (l1_0.length : Int) := of_decide_eq_true (by first | (with_reducible assumption) | assumption)
        obtain ⟨ad154, e154, hx154_0, hx154_1⟩ := at_T34 HR1_0.out x5_1 p154 q154
        cases e154
        replace hx154_0 := (HB.out.cell (World.block_lt_of_cell? w _ hx154_0)).trans hx154_0
        replace hx154_1 := (HB.out.cell (World.block_lt_of_cell? w _ hx154_1)).trans hx154_1
        replace p154 := eq_true p154
        replace q154 := eq_true q154
        go_wp2
        repeat (go_quiet (fail); try go_wp2)
        go_ret
        exact ⟨by first | rfl | (simp [errW_none, errW_some] <;> rfl) | (simp [*, errW_none, errW_some] <;> rfl) | (simp [Int.tdiv_eq_ediv_of_nonneg]; done), by repeat (first | (with_reducible first | exact HB.out | apply below_alloc | apply pw_below_drewN | apply below_drew1 | refine below_set ?_ GE151.out | refine below_set ?_ GE152.out) | exact HB.out)⟩
       ·rw [if_neg c12] at H
        have c12b0 : (!(((rd_T34 l0_0 x5_1).f0) == ((rd_T34 l1_0 x5_1).f0)) || (!(((rd_T34 l0_0 x5_1).f1) == ((rd_T34 l1_0 x5_1).f1)))) = false := by simpa using c12
        clear c12
        have H' := Aside0.mk H
        clear H
        have hnb16 := NB151_152.out
        have hnc16 := NB152_151.out
        have hcz17_0 : wr.cell? ⟨gb151, 0, none⟩ = some (.slice A0_0 l0_0.length c0_0) := (blk_cell BK151.out 0).trans rfl
        have hfz17_0 := blk_frozen BK151.out 0
        have p153 : 0 ≤ (x5_1 : Int) := of_decide_eq_true (by first | (with_reducible assumption) | assumption)
        have q153 : x5_1 < (l0_0.length : Int) := of_decide_eq_true (by first | (with_reducible assumption) | assumption)
        obtain ⟨ad153, e153, hx153_0, hx153_1⟩ := at_T34 HR0_0.out x5_1 p153 q153
        cases e153
        replace hx153_0 := (HB.out.cell (World.block_lt_of_cell? w _ hx153_0)).trans hx153_0
        replace hx153_1 := (HB.out.cell (World.block_lt_of_cell? w _ hx153_1)).trans hx153_1
        replace p153 := eq_true p153
        replace q153 := eq_true q153
        have hcz18_0 : wr.cell? ⟨gb152, 0, none⟩ = some (.slice A1_0 l1_0.length c1_0) := (blk_cell BK152.out 0).trans rfl
        have hfz18_0 := blk_frozen BK152.out 0
        have p154 : 0 ≤ (x5_1 : Int) := of_decide_eq_true (by first | (with_reducible assumption) | assumption)
        have q154 : x5_1 < (l1_0.length : Int) := of_decide_eq_true (by first | (with_reducible assumption) | assumption)
        obtain ⟨ad154, e154, hx154_0, hx154_1⟩ := at_T34 HR1_0.out x5_1 p154 q154
        cases e154
        replace hx154_0 := (HB.out.cell (World.block_lt_of_cell? w _ hx154_0)).trans hx154_0
        replace hx154_1 := (HB.out.cell (World.block_lt_of_cell? w _ hx154_1)).trans hx154_1
        replace p154 := eq_true p154
        replace q154 := eq_true q154
        go_wp2
        repeat (go_quiet (fail); try go_wp2)
        go_roundg k1
        case measure => have := HK1.out; omega
        case rel => exact ⟨(wrap64 (x5_1 + 1)), (by first | rfl | (simp; done) | (simp [*]; done) | (simp [Int.tdiv_eq_ediv_of_nonneg]; done)), H', ⟨by have := HK1.out; omega⟩, ⟨by (with_reducible repeat first | apply blk_drewN | apply blk_drew | apply blk_alloc); exact BK151.out⟩, ⟨by (with_reducible repeat first | apply blk_drewN | apply blk_drew | apply blk_alloc); exact BK152.out⟩, ⟨by repeat (first | (with_reducible first | exact HB.out | apply below_alloc | apply pw_below_drewN | apply below_drew1 | refine below_set ?_ GE151.out | refine below_set ?_ GE152.out) | exact HB.out)⟩⟩
      ·rw [if_neg c11] at H
       exact absurd H (by simp)
     ·rw [if_neg c10] at H
      exact absurd H (by simp)
    ·rw [if_neg c9] at H
     have c9b0 : decide (x5_1 < (l0_0.length : Int)) = false := decide_eq_false c9
     clear c9
     obtain rfl := Option.some.inj H
     have hnb19 := NB151_152.out
     have hnc19 := NB152_151.out
     have hcz20_0 : wr.cell? ⟨gb151, 0, none⟩ = some (.slice A0_0 l0_0.length c0_0) := (blk_cell BK151.out 0).trans rfl
     have hfz20_0 := blk_frozen BK151.out 0
     go_wp2
     repeat (go_quiet (fail); try go_wp2)
     go_ret
     exact ⟨by first | rfl | (simp [errW_none, errW_some] <;> rfl) | (simp [*, errW_none, errW_some] <;> rfl) | (simp [Int.tdiv_eq_ediv_of_nonneg]; done), by repeat (first | (with_reducible first | exact HB.out | apply below_alloc | apply pw_below_drewN | apply below_drew1 | refine below_set ?_ GE151.out | refine below_set ?_ GE152.out) | exact HB.out)⟩
 ·rw [if_neg c3] at H
  have c3b0 : ((l0_0.length : Int) == (l1_0.length : Int)) = false := beq_eq_false_iff_ne.mpr c3
  have c3b1 : ((l0_0.length : Int) != (l1_0.length : Int)) = true := bne_iff_ne.mpr c3
  have c3b2 : (l0_0.length == l1_0.length) = false := by first | simpa using c3 | (simp at c3 ⊢; omega)
  obtain rfl := Option.some.inj H
  go_enter Try.func13, Try.ntmps13
  go_wp2_with (first | ((with_reducible refine gate_dst (N := 2) rfl ?_); refine box_event ?hg (N := 2) ?hd (cs := #[.slice A0_0 l0_0.length c0_0]) (t := 24) ?hr ?_; (case hd => rfl); (case hg => rfl); (case hr => first | (go_simp; done) | (go_simp; rfl)); intro gb151 hg w21 hbox hb; have n0_ := Aside0.mk (below_step (by repeat (first | (with_reducible first | exact HB.out | apply below_alloc | apply pw_below_drewN | apply below_drew1) | exact HB.out)) hb); have n1_ := Aside0.mk (hbox); have n2_ := Aside0.mk ((by rw [hg]; exact (below_size (by repeat (first | (with_reducible first | exact HB.out | apply below_alloc | apply pw_below_drewN | apply below_drew1) | exact HB.out))) : w.heap.size ≤ gb151)); have n3_ := Aside0.mk ((by rw [hg]; exact (below_size (by repeat (first | (with_reducible first | exact HB.out | apply below_alloc | apply pw_below_drewN | apply below_drew1) | exact HB.out))) : w.heap.size ≤ gb151)); clear HB; have HB := n0_; have BK151 := n1_; have GW151 := n2_; have GE151 := n3_; clear n0_ n1_ n2_ n3_; clear hb hbox hg) | ((with_reducible refine gate_dst (N := 3) rfl ?_); refine box_event ?hg (N := 3) ?hd (cs := #[.slice A1_0 l1_0.length c1_0]) (t := 24) ?hr ?_; (case hd => rfl); (case hg => rfl); (case hr => first | (go_simp; done) | (go_simp; rfl)); intro gb152 hg w22 hbox hb; have n0_ := Aside0.mk (blk_below (g := gb151) (o := .cells #[.slice A0_0 l0_0.length c0_0] 24 (0, 0)) (by (with_reducible repeat first | apply blk_drewN | apply blk_drew | apply blk_alloc); exact BK151.out) hb); have n1_ := Aside0.mk (below_step (by repeat (first | (with_reducible first | exact HB.out | apply below_alloc | apply pw_below_drewN | apply below_drew1 | refine below_set ?_ GE151.out) | exact HB.out)) hb); have n2_ := Aside0.mk (hbox); have n3_ := Aside0.mk ((by rw [hg]; exact (below_size (by repeat (first | (with_reducible first | exact HB.out | apply below_alloc | apply pw_below_drewN | apply below_drew1 | refine below_set ?_ GE151.out) | exact HB.out))) : w.heap.size ≤ gb152)); have n4_ := Aside0.mk ((by rw [hg]; exact (below_size (by repeat (first | (with_reducible first | exact HB.out | apply below_alloc | apply pw_below_drewN | apply below_drew1 | refine below_set ?_ GE151.out) | exact HB.out))) : w.heap.size ≤ gb152)); have n5_ := Aside0.mk ((by rw [hg]; exact Nat.ne_of_lt (blk_lt (g := gb151) (o := .cells #[.slice A0_0 l0_0.length c0_0] 24 (0, 0)) (by (with_reducible repeat first | apply blk_drewN | apply blk_drew | apply blk_alloc); exact BK151.out)) : gb151 ≠ gb152)); have n6_ := Aside0.mk ((by rw [hg]; exact Nat.ne_of_gt (blk_lt (g := gb151) (o := .cells #[.slice A0_0 l0_0.length c0_0] 24 (0, 0)) (by (with_reducible repeat first | apply blk_drewN | apply blk_drew | apply blk_alloc); exact BK151.out)) : gb152 ≠ gb151)); clear BK151; clear HB; have BK151 := n0_; have HB := n1_; have BK152 := n2_; have GW152 := n3_; have GE152 := n4_; have NB151_152 := n5_; have NB152_151 := n6_; clear n0_ n1_ n2_ n3_ n4_ n5_ n6_; clear hb hbox hg; have hnb23 := NB151_152.out; have hnc23 := NB152_151.out; have hcz24_0 : w22.cell? ⟨gb151, 0, none⟩ = some (.slice A0_0 l0_0.length c0_0) := (blk_cell BK151.out 0).trans rfl; have hfz24_0 := blk_frozen BK151.out 0; have hcz25_0 : w22.cell? ⟨gb152, 0, none⟩ = some (.slice A1_0 l1_0.length c1_0) := (blk_cell BK152.out 0).trans rfl; have hfz25_0 := blk_frozen BK152.out 0))
  repeat (go_quiet (first | ((with_reducible refine gate_dst (N := 2) rfl ?_); refine box_event ?hg (N := 2) ?hd (cs := #[.slice A0_0 l0_0.length c0_0]) (t := 24) ?hr ?_; (case hd => rfl); (case hg => rfl); (case hr => first | (go_simp; done) | (go_simp; rfl)); intro gb151 hg w21 hbox hb; have n0_ := Aside0.mk (below_step (by repeat (first | (with_reducible first | exact HB.out | apply below_alloc | apply pw_below_drewN | apply below_drew1) | exact HB.out)) hb); have n1_ := Aside0.mk (hbox); have n2_ := Aside0.mk ((by rw [hg]; exact (below_size (by repeat (first | (with_reducible first | exact HB.out | apply below_alloc | apply pw_below_drewN | apply below_drew1) | exact HB.out))) : w.heap.size ≤ gb151)); have n3_ := Aside0.mk ((by rw [hg]; exact (below_size (by repeat (first | (with_reducible first | exact HB.out | apply below_alloc | apply pw_below_drewN | apply below_drew1) | exact HB.out))) : w.heap.size ≤ gb151)); clear HB; have HB := n0_; have BK151 := n1_; have GW151 := n2_; have GE151 := n3_; clear n0_ n1_ n2_ n3_; clear hb hbox hg) | ((with_reducible refine gate_dst (N := 3) rfl ?_); refine box_event ?hg (N := 3) ?hd (cs := #[.slice A1_0 l1_0.length c1_0]) (t := 24) ?hr ?_; (case hd => rfl); (case hg => rfl); (case hr => first | (go_simp; done) | (go_simp; rfl)); intro gb152 hg w22 hbox hb; have n0_ := Aside0.mk (blk_below (g := gb151) (o := .cells #[.slice A0_0 l0_0.length c0_0] 24 (0, 0)) (by (with_reducible repeat first | apply blk_drewN | apply blk_drew | apply blk_alloc); exact BK151.out) hb); have n1_ := Aside0.mk (below_step (by repeat (first | (with_reducible first | exact HB.out | apply below_alloc | apply pw_below_drewN | apply below_drew1 | refine below_set ?_ GE151.out) | exact HB.out)) hb); have n2_ := Aside0.mk (hbox); have n3_ := Aside0.mk ((by rw [hg]; exact (below_size (by repeat (first | (with_reducible first | exact HB.out | apply below_alloc | apply pw_below_drewN | apply below_drew1 | refine below_set ?_ GE151.out) | exact HB.out))) : w.heap.size ≤ gb152)); have n4_ := Aside0.mk ((by rw [hg]; exact (below_size (by repeat (first | (with_reducible first | exact HB.out | apply below_alloc | apply pw_below_drewN | apply below_drew1 | refine below_set ?_ GE151.out) | exact HB.out))) : w.heap.size ≤ gb152)); have n5_ := Aside0.mk ((by rw [hg]; exact Nat.ne_of_lt (blk_lt (g := gb151) (o := .cells #[.slice A0_0 l0_0.length c0_0] 24 (0, 0)) (by (with_reducible repeat first | apply blk_drewN | apply blk_drew | apply blk_alloc); exact BK151.out)) : gb151 ≠ gb152)); have n6_ := Aside0.mk ((by rw [hg]; exact Nat.ne_of_gt (blk_lt (g := gb151) (o := .cells #[.slice A0_0 l0_0.length c0_0] 24 (0, 0)) (by (with_reducible repeat first | apply blk_drewN | apply blk_drew | apply blk_alloc); exact BK151.out)) : gb152 ≠ gb151)); clear BK151; clear HB; have BK151 := n0_; have HB := n1_; have BK152 := n2_; have GW152 := n3_; have GE152 := n4_; have NB151_152 := n5_; have NB152_151 := n6_; clear n0_ n1_ n2_ n3_ n4_ n5_ n6_; clear hb hbox hg; have hnb23 := NB151_152.out; have hnc23 := NB152_151.out; have hcz24_0 : w22.cell? ⟨gb151, 0, none⟩ = some (.slice A0_0 l0_0.length c0_0) := (blk_cell BK151.out 0).trans rfl; have hfz24_0 := blk_frozen BK151.out 0; have hcz25_0 : w22.cell? ⟨gb152, 0, none⟩ = some (.slice A1_0 l1_0.length c1_0) := (blk_cell BK152.out 0).trans rfl; have hfz25_0 := blk_frozen BK152.out 0)); try go_wp2_with (first | ((with_reducible refine gate_dst (N := 2) rfl ?_); refine box_event ?hg (N := 2) ?hd (cs := #[.slice A0_0 l0_0.length c0_0]) (t := 24) ?hr ?_; (case hd => rfl); (case hg => rfl); (case hr => first | (go_simp; done) | (go_simp; rfl)); intro gb151 hg w21 hbox hb; have n0_ := Aside0.mk (below_step (by repeat (first | (with_reducible first | exact HB.out | apply below_alloc | apply pw_below_drewN | apply below_drew1) | exact HB.out)) hb); have n1_ := Aside0.mk (hbox); have n2_ := Aside0.mk ((by rw [hg]; exact (below_size (by repeat (first | (with_reducible first | exact HB.out | apply below_alloc | apply pw_below_drewN | apply below_drew1) | exact HB.out))) : w.heap.size ≤ gb151)); have n3_ := Aside0.mk ((by rw [hg]; exact (below_size (by repeat (first | (with_reducible first | exact HB.out | apply below_alloc | apply pw_below_drewN | apply below_drew1) | exact HB.out))) : w.heap.size ≤ gb151)); clear HB; have HB := n0_; have BK151 := n1_; have GW151 := n2_; have GE151 := n3_; clear n0_ n1_ n2_ n3_; clear hb hbox hg) | ((with_reducible refine gate_dst (N := 3) rfl ?_); refine box_event ?hg (N := 3) ?hd (cs := #[.slice A1_0 l1_0.length c1_0]) (t := 24) ?hr ?_; (case hd => rfl); (case hg => rfl); (case hr => first | (go_simp; done) | (go_simp; rfl)); intro gb152 hg w22 hbox hb; have n0_ := Aside0.mk (blk_below (g := gb151) (o := .cells #[.slice A0_0 l0_0.length c0_0] 24 (0, 0)) (by (with_reducible repeat first | apply blk_drewN | apply blk_drew | apply blk_alloc); exact BK151.out) hb); have n1_ := Aside0.mk (below_step (by repeat (first | (with_reducible first | exact HB.out | apply below_alloc | apply pw_below_drewN | apply below_drew1 | refine below_set ?_ GE151.out) | exact HB.out)) hb); have n2_ := Aside0.mk (hbox); have n3_ := Aside0.mk ((by rw [hg]; exact (below_size (by repeat (first | (with_reducible first | exact HB.out | apply below_alloc | apply pw_below_drewN | apply below_drew1 | refine below_set ?_ GE151.out) | exact HB.out))) : w.heap.size ≤ gb152)); have n4_ := Aside0.mk ((by rw [hg]; exact (below_size (by repeat (first | (with_reducible first | exact HB.out | apply below_alloc | apply pw_below_drewN | apply below_drew1 | refine below_set ?_ GE151.out) | exact HB.out))) : w.heap.size ≤ gb152)); have n5_ := Aside0.mk ((by rw [hg]; exact Nat.ne_of_lt (blk_lt (g := gb151) (o := .cells #[.slice A0_0 l0_0.length c0_0] 24 (0, 0)) (by (with_reducible repeat first | apply blk_drewN | apply blk_drew | apply blk_alloc); exact BK151.out)) : gb151 ≠ gb152)); have n6_ := Aside0.mk ((by rw [hg]; exact Nat.ne_of_gt (blk_lt (g := gb151) (o := .cells #[.slice A0_0 l0_0.length c0_0] 24 (0, 0)) (by (with_reducible repeat first | apply blk_drewN | apply blk_drew | apply blk_alloc); exact BK151.out)) : gb152 ≠ gb151)); clear BK151; clear HB; have BK151 := n0_; have HB := n1_; have BK152 := n2_; have GW152 := n3_; have GE152 := n4_; have NB151_152 := n5_; have NB152_151 := n6_; clear n0_ n1_ n2_ n3_ n4_ n5_ n6_; clear hb hbox hg; have hnb23 := NB151_152.out; have hnc23 := NB152_151.out; have hcz24_0 : w22.cell? ⟨gb151, 0, none⟩ = some (.slice A0_0 l0_0.length c0_0) := (blk_cell BK151.out 0).trans rfl; have hfz24_0 := blk_frozen BK151.out 0; have hcz25_0 : w22.cell? ⟨gb152, 0, none⟩ = some (.slice A1_0 l1_0.length c1_0) := (blk_cell BK152.out 0).trans rfl; have hfz25_0 := blk_frozen BK152.out 0)))
  go_ret
  exact ⟨by first | rfl | (simp [errW_none, errW_some] <;> rfl) | (simp [*, errW_none, errW_some] <;> rfl) | (simp [Int.tdiv_eq_ediv_of_nonneg]; done), by repeat (first | (with_reducible first | exact HB.out | apply below_alloc | apply pw_below_drewN | apply below_drew1 | refine below_set ?_ GE151.out | refine below_set ?_ GE152.out) | exact HB.out)⟩

/-! ### atticlaw14_TableWrites_1: function 32 -/
def atticlaw14_TableWrites_1.f (l0 : List Int) : Option (Bool) := some (decide ((l0.length : Int) > 3000))
set_option maxHeartbeats 8000000 in
set_option maxRecDepth 100000 in
theorem atticlaw14_TableWrites_1.calls (A0 : Option Addr) (c0 : Nat) (l0 : List Int) (r : Bool) (w : World) (hr0 : Kd.C (Kd.int .u8) w A0 l0.length l0) (hc0 : l0.length ≤ c0) (h : atticlaw14_TableWrites_1.f l0 = some r) :
  Calls Try.prog 32 #[.slice A0 l0.length c0] w fun e w' => e = .returned (.bool r) ∧ Drawn0 w w' := by
 have HR0 := Aside0.mk hr0
 have HC0 := Aside0.mk hc0
 clear hr0 hc0
 have H : (some (decide ((l0.length : Int) > 3000))) = some r := h
 clear h
 obtain rfl := Option.some.inj H
 go_enter Try.func32, Try.ntmps32
 go_wp2
 go_ret
 exact ⟨by first | rfl | (simp; done) | (simp [*]; done) | (simp [Int.tdiv_eq_ediv_of_nonneg]; done), by repeat (first | exact Drawn0.refl _ | apply Drawn0.step)⟩

-- NOT PRINTED: function 58 (slices_IndexFunc_byte_byte)

/-! ### anyLong: slices.ContainsFunc[[][]byte,[]byte]@attic/atticlaw14.TableWrites$1 -/

/-- Is any of them longer than 3000. -/
def anyLong.f (l : List (List Int)) : Option Bool := some (l.any fun x => decide ((x.length : Int) > 3000))
theorem anyLong.one (A : Option Addr) (n c : Nat) (w : World) : Calls Try.prog 32 #[.slice A n c] w fun e w' => e = .returned (.bool (decide ((n : Int) > 3000))) ∧ Below w.heap.size w w' := by
 go_enter Try.func32, Try.ntmps32
 go_wp2
 go_ret
 exact ⟨rfl, by repeat (first | exact Below.refl _ _ | apply pw_below_drewN | apply below_drew1)⟩
theorem anyLong.at_ (l0 : List (List Int)) (i : Int) (r : Bool) (h0 : 0 ≤ i) (h1 : i < (l0.length : Int)) (h : anyLong.f (l0.drop i.toNat) = some r) :
  ∃ b, decide (((rd_L7 l0 i).length : Int) > 3000) = b ∧ ((b = true ∧ r = true) ∨ (b = false ∧ anyLong.f (l0.drop (i.toNat + 1)) = some r)) := by
 have hl : i.toNat < l0.length := by omega
 rw [List.drop_eq_getElem_cons hl] at h
 have e : rd_L7 l0 i = l0[i.toNat] := by unfold rd_L7; rw [List.getD_eq_getElem?_getD, List.getElem?_eq_getElem hl]; rfl
 rw [e]
 refine ⟨_, rfl, ?_⟩
 unfold anyLong.f at h ⊢
 rw [List.any_cons] at h
 cases hb : decide ((l0[i.toNat].length : Int) > 3000) with
 | true => rw [hb] at h; exact .inl ⟨rfl, by simpa using h.symm⟩
 | false => rw [hb] at h; exact .inr ⟨rfl, by simpa using h⟩
set_option maxHeartbeats 1000000 in
theorem anyLong.index (A0 : Option Addr) (c0 : Nat) (l0 : List (List Int)) (r : Bool) (w : World) (hr0 : Kd.C (Kd.slice 5 (Kd.int .u8)) w A0 l0.length l0) (hc0 : l0.length ≤ c0) (h : anyLong.f l0 = some r) :
  Calls Try.prog 58 #[.slice A0 l0.length c0, .func (.func 32) #[] #[]] w fun e w' => ∃ j : Int, e = .returned (.int .i64 j) ∧ -1 ≤ j ∧ decide (0 ≤ j) = r ∧ Below w.heap.size w w' := by
 have HR := Aside0.mk hr0
 have HH := Aside0.mk h
 have hm : l0.length ≤ 9223372036854775807 := hr0.2.1
 clear hr0 h
 go_enter Try.func58, Try.ntmps58
 go_wp2
 go_loopw [8] (fun v8 wr => ∃ i : Int, v8 = .int .i64 i ∧ 0 ≤ i ∧ i ≤ (l0.length : Int) ∧ Aside0 (anyLong.f (l0.drop i.toNat) = some r) ∧ Aside0 (Below w.heap.size w wr)) (fun v8 _ => l0.length - (intOf v8).toNat)
 case atStart => exact ⟨0, rfl, Int.le_refl _, by omega, HH, ⟨Below.refl _ _⟩⟩
 case round =>
  obtain ⟨i, rfl, h0, h1, HA, HB⟩ := hrel
  by_cases hlt : i < (l0.length : Int)
  ·have hb0 : decide (i < (l0.length : Int)) = true := decide_eq_true hlt
   obtain ⟨b, hg, hcase⟩ := anyLong.at_ l0 i r h0 hlt HA.out
   have HG := Aside0.mk hg
   clear hg
   obtain ⟨ad, A1, c1, eA, hx0, -, -⟩ := at_L7 HR.out i h0 hlt
   subst eA
   replace hx0 := pw_cell_below HB.out hx0
   have q0 := eq_true h0
   have q1 := eq_true hlt
   rcases hcase with ⟨rfl, rfl⟩ | ⟨rfl, hnext⟩
   ·go_wp2_with (first | (go_at_call 32; (with_reducible refine (anyLong.one _ _ _ _).mono ?_); rw [HG.out]; rintro e w3 ⟨rfl, hb3⟩; have HB3 := Aside0.mk hb3; clear hb3))
    go_ret
    exact ⟨i, rfl, by omega, decide_eq_true h0, below_step HB.out HB3.out⟩
   ·have HN := Aside0.mk hnext
    clear hnext
    go_wp2_with (first | (go_at_call 32; (with_reducible refine (anyLong.one _ _ _ _).mono ?_); rw [HG.out]; rintro e w3 ⟨rfl, hb3⟩; have HB3 := Aside0.mk hb3; clear hb3))
    go_roundw
    case rel => exact ⟨i + 1, by first | rfl | (simp; done) | (congr 1; done), by omega, by omega, ⟨by rw [show (i + 1).toNat = i.toNat + 1 from by omega]; exact HN.out⟩, ⟨below_step HB.out HB3.out⟩⟩
    case measure => simp [intOf]; omega
  ·have hi : i = (l0.length : Int) := by omega
   have hb0 : decide (i < (l0.length : Int)) = false := decide_eq_false hlt
   have hr : r = false := by
    have := HA.out
    rw [hi, Int.toNat_natCast, List.drop_length] at this
    exact (Option.some.inj this).symm
   have HI := Aside0.mk hi
   have HRF := Aside0.mk hr
   clear hi hr
   go_wp2
   go_ret
   exact ⟨-1, rfl, by omega, by rw [HRF.out]; rfl, HB.out⟩
theorem anyLong.calls (A0 : Option Addr) (c0 : Nat) (l0 : List (List Int)) (r : Bool) (w : World) (hr0 : Kd.C (Kd.slice 5 (Kd.int .u8)) w A0 l0.length l0) (hc0 : l0.length ≤ c0) (h : anyLong.f l0 = some r) :
  Calls Try.prog 31 #[.slice A0 l0.length c0, .func (.func 32) #[] #[]] w fun e w' => e = .returned (.bool r) ∧ Below w.heap.size w w' := by
 have HK := Aside0.mk (anyLong.index A0 c0 l0 r w hr0 hc0 h)
 clear hr0 hc0 h
 go_enter Try.func31, Try.ntmps31
 go_wp2_with (first | (go_at_call 58; (refine HK.out.mono ?_); rintro e w3 ⟨j, rfl, hj1, hj, hb3⟩; have HB3 := Aside0.mk hb3; have HJ := Aside0.mk hj; clear hb3 hj))
 go_ret
 exact ⟨by first | (rw [← HJ.out]; done) | (rw [← HJ.out]; rfl) | (simp [← HJ.out]; done), HB3.out⟩

-- NOT PRINTED: function 31 (slices_ContainsFunc_byte_byte)

/-! ### atticref04_SlotBytes: function 62 -/
mutual
def atticref04_SlotBytes.j0 : Nat → Int → Bool → Option (Int)
 | 0, _, _ => none
 | k + 1, x0, x10 => if x10 = true then (some 0) else (atticref04_SlotBytes.l0 k x0 32 0)
def atticref04_SlotBytes.l0 : Nat → Int → Int → Int → Option (Int)
 | 0, _, _, _ => none
 | k + 1, x0, x3, x4 => if x4 < x0 then (atticref04_SlotBytes.l0 k x0 (wrap64 (x3 * 2)) (wrap64 (x4 + 1))) else (some x3)
end
def atticref04_SlotBytes.f (k : Nat) (a0 : Int) : Option (Int) := if a0 < 0 then (atticref04_SlotBytes.j0 k a0 true) else (atticref04_SlotBytes.j0 k a0 (decide (a0 ≥ 6)))
theorem atticref04_SlotBytes.mono_l : ∀ k, (∀ y0 y1, LeO (atticref04_SlotBytes.j0 k y0 y1) (atticref04_SlotBytes.j0 (k + 1) y0 y1)) ∧ (∀ y0 y1 y2, LeO (atticref04_SlotBytes.l0 k y0 y1 y2) (atticref04_SlotBytes.l0 (k + 1) y0 y1 y2))
 | 0 => ⟨fun _ _ r h => by simp [atticref04_SlotBytes.j0] at h, fun _ _ _ r h => by simp [atticref04_SlotBytes.l0] at h⟩
 | k + 1 => by
  obtain ⟨ih0, ih1⟩ := atticref04_SlotBytes.mono_l k
  refine ⟨?_, ?_⟩
  ·intro y0 y1
   unfold atticref04_SlotBytes.j0
   repeat' first
   | (with_reducible exact ih0 _ _)
   | (with_reducible exact ih1 _ _ _)
   | (with_reducible exact LeO.refl _)
   | (with_reducible exact LeO.none _)
   | (with_reducible refine LeO.ite ?_ ?_)
   | (with_reducible refine LeO.bind ?_ (fun _ => ?_))
   | exact ih0 _ _
   | exact ih1 _ _ _
   | exact LeO.none _
   | refine LeO.ite ?_ ?_
   | refine LeO.bind ?_ (fun _ => ?_)
  ·intro y0 y1 y2
   unfold atticref04_SlotBytes.l0
   repeat' first
   | (with_reducible exact ih0 _ _)
   | (with_reducible exact ih1 _ _ _)
   | (with_reducible exact LeO.refl _)
   | (with_reducible exact LeO.none _)
   | (with_reducible refine LeO.ite ?_ ?_)
   | (with_reducible refine LeO.bind ?_ (fun _ => ?_))
   | exact ih0 _ _
   | exact ih1 _ _ _
   | exact LeO.none _
   | refine LeO.ite ?_ ?_
   | refine LeO.bind ?_ (fun _ => ?_)
theorem atticref04_SlotBytes.mono : ∀ a0 k, LeO (atticref04_SlotBytes.f k a0) (atticref04_SlotBytes.f (k + 1) a0) := by
 intro a0 k
 obtain ⟨ih0, ih1⟩ := atticref04_SlotBytes.mono_l k
 unfold atticref04_SlotBytes.f
 repeat' first
   | (with_reducible exact ih0 _ _)
   | (with_reducible exact ih1 _ _ _)
   | (with_reducible exact LeO.refl _)
   | (with_reducible exact LeO.none _)
   | (with_reducible refine LeO.ite ?_ ?_)
   | (with_reducible refine LeO.bind ?_ (fun _ => ?_))
   | exact ih0 _ _
   | exact ih1 _ _ _
   | exact LeO.none _
   | refine LeO.ite ?_ ?_
   | refine LeO.bind ?_ (fun _ => ?_)
set_option maxHeartbeats 8000000 in
set_option maxRecDepth 100000 in
theorem atticref04_SlotBytes.calls (k : Nat) (a0 : Int) (r : Int) (w : World) (h : atticref04_SlotBytes.f k a0 = some r) :
  Calls Try.prog 62 #[.int .i64 a0] w fun e w' => e = .returned (.int .i64 r) ∧ Drawn0 w w' := by
 have H : (if a0 < 0 then (atticref04_SlotBytes.j0 k a0 true) else (atticref04_SlotBytes.j0 k a0 (decide (a0 ≥ 6)))) = some r := h
 clear h
 have HC2 := Aside0.mk H
 clear H
 go_enter Try.func62, Try.ntmps62
 go_upto_region 1 with (fail)
 go_cut [10] (fun v10 wc => ∃ (kq : Nat) (x10_1 : Bool), v10 = .bool x10_1 ∧ Aside0 (atticref04_SlotBytes.j0 kq a0 x10_1 = some r) ∧ Aside0 (kq ≤ k) ∧ Drawn0 w wc)
 case first =>
  have H := HC2.out
  clear HC2
  by_cases c3 : a0 < 0
  ·rw [if_pos c3] at H
   have c3b0 : decide (a0 < 0) = true := decide_eq_true c3
   clear c3
   (first | rw [c3b0] | (simp only [i64_w, i32_w]; rw [c3b0]) | skip)
   have H' := Aside0.mk H
   clear H
   go_wp2
   go_meet
   case rel => exact ⟨_, (true), (by first | rfl | (simp; done) | (simp [*]; done) | (simp [Int.tdiv_eq_ediv_of_nonneg]; done)), H', ⟨by first | omega | exact Nat.le_refl _⟩, by repeat (first | exact Drawn0.refl _ | apply Drawn0.step)⟩
  ·rw [if_neg c3] at H
   have c3b0 : decide (a0 < 0) = false := decide_eq_false c3
   clear c3
   (first | rw [c3b0] | (simp only [i64_w, i32_w]; rw [c3b0]) | skip)
   have H' := Aside0.mk H
   clear H
   go_wp2
   go_meet
   case rel => exact ⟨_, (decide (a0 ≥ 6)), (by first | rfl | (simp; done) | (simp [*]; done) | (simp [Int.tdiv_eq_ediv_of_nonneg]; done)), H', ⟨by first | omega | exact Nat.le_refl _⟩, by repeat (first | exact Drawn0.refl _ | apply Drawn0.step)⟩
 case rest =>
  clear HC2
  try clear p2
  try clear c3
  try clear c3b0
  obtain ⟨kq, x10_1, rfl, HA, HJ1, ⟨mc1, rfl⟩⟩ := hcut
  cases kq with
  | zero => exact absurd HA.out (by simp [atticref04_SlotBytes.j0])
  | succ kj1 =>
   have H := HA.out
   clear HA
   simp only [atticref04_SlotBytes.j0] at H
   by_cases c4 : x10_1 = true
   ·subst c4
    have H1 : (some 0) = some r := by rw [if_pos rfl] at H; exact H
    clear H
    have H := H1
    clear H1
    obtain rfl := Option.some.inj H
    go_wp2
    go_ret
    exact ⟨by first | rfl | (simp; done) | (simp [*]; done) | (simp [Int.tdiv_eq_ediv_of_nonneg]; done), by repeat (first | exact Drawn0.refl _ | apply Drawn0.step)⟩
   ·replace c4 := Bool.eq_false_iff.mpr c4
    subst c4
    have H1 : (atticref04_SlotBytes.l0 kj1 a0 32 0) = some r := by rw [if_neg (show ¬ (false = true) by decide)] at H; exact H
    clear H
    have H := H1
    clear H1
    have H' := Aside0.mk H
    clear H
    go_wp2
    go_loopg [3, 4] kj1 (fun kq v3 v4 w' => ∃ (x3_2 : Int) (x4_2 : Int), v3 = .int .i64 x3_2 ∧ v4 = .int .i64 x4_2 ∧ Aside0 (atticref04_SlotBytes.l0 kq a0 x3_2 x4_2 = some r) ∧ Aside0 (kq ≤ kj1) ∧ Drawn0 w w')
    case atStart => exact ⟨(32), (0), (by first | rfl | (simp; done) | (simp [*]; done) | (simp [Int.tdiv_eq_ediv_of_nonneg]; done)), (by first | rfl | (simp; done) | (simp [*]; done) | (simp [Int.tdiv_eq_ediv_of_nonneg]; done)), H', ⟨Nat.le_refl _⟩, by repeat (first | exact Drawn0.refl _ | apply Drawn0.step)⟩
    case round =>
     clear H'
     try clear c1
     try clear p2
     try clear c3
     try clear c3b0
     try clear c4
     try clear p2
     obtain ⟨x3_2, x4_2, rfl, rfl, HA, HK2, ⟨m2, rfl⟩⟩ := hrel
     cases gk with
     | zero => exact absurd HA.out (by simp [atticref04_SlotBytes.l0])
     | succ k2 =>
      have H := HA.out
      clear HA
      simp only [atticref04_SlotBytes.l0] at H
      by_cases c5 : x4_2 < a0
      ·rw [if_pos c5] at H
       have c5b0 : decide (x4_2 < a0) = true := decide_eq_true c5
       clear c5
       have H' := Aside0.mk H
       clear H
       go_wp2
       go_roundg k2
       case measure => have := HJ1.out; have := HK2.out; omega
       case rel => exact ⟨(wrap64 (x3_2 * 2)), (wrap64 (x4_2 + 1)), (by first | rfl | (simp; done) | (simp [*]; done) | (simp [Int.tdiv_eq_ediv_of_nonneg]; done)), (by first | rfl | (simp; done) | (simp [*]; done) | (simp [Int.tdiv_eq_ediv_of_nonneg]; done)), H', ⟨by have := HJ1.out; have := HK2.out; omega⟩, by repeat (first | exact Drawn0.refl _ | apply Drawn0.step)⟩
      ·rw [if_neg c5] at H
       have c5b0 : decide (x4_2 < a0) = false := decide_eq_false c5
       clear c5
       obtain rfl := Option.some.inj H
       go_wp2
       go_ret
       exact ⟨by first | rfl | (simp; done) | (simp [*]; done) | (simp [Int.tdiv_eq_ediv_of_nonneg]; done), by repeat (first | exact Drawn0.refl _ | apply Drawn0.step)⟩

/-! ### atticref04_Slots: function 47 -/
def atticref04_Slots.f (k : Nat) (a0 : Int) : Option (Int) := (atticref04_SlotBytes.f k a0).bind fun t155 => (if t155 = 0 then (some 0) else ((atticref04_SlotBytes.f k a0).bind fun t156 => (if t156 = 0 then (none) else (some (wrap64 ((1024 : Int) / t156))))))
theorem atticref04_Slots.mono : ∀ a0 k, LeO (atticref04_Slots.f k a0) (atticref04_Slots.f (k + 1) a0) := by
 intro a0 k
 unfold atticref04_Slots.f
 repeat' first
   | (with_reducible exact atticref04_SlotBytes.mono _ _)
   | (with_reducible exact LeO.refl _)
   | (with_reducible exact LeO.none _)
   | (with_reducible refine LeO.ite ?_ ?_)
   | (with_reducible refine LeO.bind ?_ (fun _ => ?_))
   | exact atticref04_SlotBytes.mono _ _
   | exact LeO.none _
   | refine LeO.ite ?_ ?_
   | refine LeO.bind ?_ (fun _ => ?_)
set_option maxHeartbeats 8000000 in
set_option maxRecDepth 100000 in
theorem atticref04_Slots.calls (k : Nat) (a0 : Int) (r : Int) (w : World) (h : atticref04_Slots.f k a0 = some r) :
  Calls Try.prog 47 #[.int .i64 a0] w fun e w' => e = .returned (.int .i64 r) ∧ Drawn0 w w' := by
 have H : ((atticref04_SlotBytes.f k a0).bind fun t155 => (if t155 = 0 then (some 0) else ((atticref04_SlotBytes.f k a0).bind fun t156 => (if t156 = 0 then (none) else (some (wrap64 ((1024 : Int) / t156))))))) = some r := h
 clear h
 replace H := Option.bind_eq_some_iff.mp H
 obtain ⟨t155, A20, H⟩ := H
 replace H : (if t155 = 0 then (some 0) else ((atticref04_SlotBytes.f k a0).bind fun t156 => (if t156 = 0 then (none) else (some (wrap64 ((1024 : Int) / t156)))))) = some r := H
 have A2 := Aside0.mk A20
 clear A20
 by_cases c3 : t155 = 0
 ·rw [if_pos c3] at H
  have c3b0 : (t155 == 0) = true := beq_iff_eq.mpr c3
  have c3b1 : (t155 != 0) = false := bne_eq_false_iff_eq.mpr c3
  clear c3
  obtain rfl := Option.some.inj H
  go_enter Try.func47, Try.ntmps47
  go_wp2_with (first | ((with_reducible refine gate_callee (f := 62) rfl ?_); refine goesL_ (some 4) rfl rfl Try.func62 (by kernel_rfl) rfl #[.int .i64 a0] rfl (by (try simp only [List.map_toArray, List.map_cons, List.map_nil]); first | done | rfl | (simp only [List.length_drop, List.length_take]; rfl)) ?_; (with_reducible refine (atticref04_SlotBytes.calls k a0 t155 _ A2.out).mono ?_); rintro e w' ⟨rfl, ⟨nd, rfl⟩⟩; refine ⟨_, rfl, ?_⟩))
  go_ret
  exact ⟨by first | rfl | (simp; done) | (simp [*]; done) | (simp [Int.tdiv_eq_ediv_of_nonneg]; done), by repeat (first | exact Drawn0.refl _ | apply Drawn0.step)⟩
 ·rw [if_neg c3] at H
  have c3b0 : (t155 == 0) = false := beq_eq_false_iff_ne.mpr c3
  have c3b1 : (t155 != 0) = true := bne_iff_ne.mpr c3
  replace H := Option.bind_eq_some_iff.mp H
  obtain ⟨t156, A40, H⟩ := H
  replace H : (if t156 = 0 then (none) else (some (wrap64 ((1024 : Int) / t156)))) = some r := H
  have A4 := Aside0.mk A40
  clear A40
  by_cases c5 : t156 = 0
  ·rw [if_pos c5] at H
   exact absurd H (by simp)
  ·rw [if_neg c5] at H
   have c5b0 : (t156 == 0) = false := beq_eq_false_iff_ne.mpr c5
   have c5b1 : (t156 != 0) = true := bne_iff_ne.mpr c5
   obtain rfl := Option.some.inj H
   go_enter Try.func47, Try.ntmps47
   go_wp2_with (first | ((with_reducible refine gate_callee (f := 62) rfl ?_); refine goesL_ (some 4) rfl rfl Try.func62 (by kernel_rfl) rfl #[.int .i64 a0] rfl (by (try simp only [List.map_toArray, List.map_cons, List.map_nil]); first | done | rfl | (simp only [List.length_drop, List.length_take]; rfl)) ?_; (with_reducible refine (atticref04_SlotBytes.calls k a0 t155 _ A2.out).mono ?_); rintro e w' ⟨rfl, ⟨nd, rfl⟩⟩; refine ⟨_, rfl, ?_⟩) | ((with_reducible refine gate_callee (f := 62) rfl ?_); refine goesL_ (some 7) rfl rfl Try.func62 (by kernel_rfl) rfl #[.int .i64 a0] rfl (by (try simp only [List.map_toArray, List.map_cons, List.map_nil]); first | done | rfl | (simp only [List.length_drop, List.length_take]; rfl)) ?_; (with_reducible refine (atticref04_SlotBytes.calls k a0 t156 _ A4.out).mono ?_); rintro e w' ⟨rfl, ⟨nd, rfl⟩⟩; refine ⟨_, rfl, ?_⟩))
   go_ret
   exact ⟨by first | rfl | (simp; done) | (simp [*]; done) | (simp [Int.tdiv_eq_ediv_of_nonneg]; done), by repeat (first | exact Drawn0.refl _ | apply Drawn0.step)⟩

/-! ### atticref14_has: function 48 -/
def atticref14_has.f (a0 : Int) (a1 : Int) : Option (Bool) := if a1 ≥ 0 then (if a1 < 32 then (if 0 ≤ (IntKind.u64.wrap (a1)) then (some ((Int.tmod (shr .u32 a0 (IntKind.u64.wrap (a1))) 2) == 1)) else (none)) else (some false)) else (some false)
set_option maxHeartbeats 8000000 in
set_option maxRecDepth 100000 in
theorem atticref14_has.calls (a0 : Int) (a1 : Int) (r : Bool) (w : World) (h : atticref14_has.f a0 a1 = some r) :
  Calls Try.prog 48 #[.int .u32 a0, .int .i64 a1] w fun e w' => e = .returned (.bool r) ∧ Drawn0 w w' := by
 have H : (if a1 ≥ 0 then (if a1 < 32 then (if 0 ≤ (IntKind.u64.wrap (a1)) then (some ((Int.tmod (shr .u32 a0 (IntKind.u64.wrap (a1))) 2) == 1)) else (none)) else (some false)) else (some false)) = some r := h
 clear h
 by_cases c3 : a1 ≥ 0
 ·rw [if_pos c3] at H
  have c3b0 : decide (0 ≤ a1) = true := decide_eq_true c3
  clear c3
  by_cases c4 : a1 < 32
  ·rw [if_pos c4] at H
   have c4b0 : decide (a1 < 32) = true := decide_eq_true c4
   clear c4
   obtain ⟨ji5, hji5⟩ : ∃ j_ : Int, (IntKind.u64.wrap (a1)) = j_ := ⟨_, rfl⟩
   replace H : (if 0 ≤ (ji5) then (some ((Int.tmod (shr .u32 a0 (ji5)) 2) == 1)) else (none)) = some r := by first | (rw [hji5] at H; exact H) | (simp only [hji5] at H ⊢; exact H)
   by_cases c6 : 0 ≤ (ji5)
   ·rw [if_pos c6] at H
    have c6b0 := eq_true c6
    have c6b1 : decide (0 ≤ (ji5)) = true := decide_eq_true c6
    clear c6
    obtain ⟨ji7, hji7⟩ : ∃ j_ : Int, (shr .u32 a0 (ji5)) = j_ := ⟨_, rfl⟩
    replace H : (some ((Int.tmod (ji7) 2) == 1)) = some r := by first | (rw [hji7] at H; exact H) | (simp only [hji7] at H ⊢; exact H)
    have hji7_ : (a0 / 2 ^ min (ji5).toNat 32) = ji7 := hji7
    have hji7z : (ji5) ≤ 32 → (a0 / 2 ^ (ji5).toNat) = ji7 := shr_small hji7
    obtain rfl := Option.some.inj H
    go_enter Try.func48, Try.ntmps48
    go_wp2
    go_ret
    exact ⟨by first | rfl | (simp; done) | (simp only [← hji5, ← hji7] <;> (first | rfl | simp)) | (simp [*]; done) | (simp [Int.tdiv_eq_ediv_of_nonneg]; done), by repeat (first | exact Drawn0.refl _ | apply Drawn0.step)⟩
   ·rw [if_neg c6] at H
    exact absurd H (by simp)
  ·rw [if_neg c4] at H
   have c4b0 : decide (a1 < 32) = false := decide_eq_false c4
   clear c4
   obtain rfl := Option.some.inj H
   go_enter Try.func48, Try.ntmps48
   go_wp2
   go_ret
   exact ⟨by first | rfl | (simp; done) | (simp [*]; done) | (simp [Int.tdiv_eq_ediv_of_nonneg]; done), by repeat (first | exact Drawn0.refl _ | apply Drawn0.step)⟩
 ·rw [if_neg c3] at H
  have c3b0 : decide (0 ≤ a1) = false := decide_eq_false c3
  clear c3
  obtain rfl := Option.some.inj H
  go_enter Try.func48, Try.ntmps48
  go_wp2
  go_ret
  exact ⟨by first | rfl | (simp; done) | (simp [*]; done) | (simp [Int.tdiv_eq_ediv_of_nonneg]; done), by repeat (first | exact Drawn0.refl _ | apply Drawn0.step)⟩

end Go.Proofs.Ytdjajecgojndfaa.Print
