/- The state at first, the bound; one step. -/
import Derived.Test.YtnmpmjbkelogaaaPrint
import Derived.Test.YtnmpmjbkelogaaaPureP19
namespace Go.Proofs.Ytnmpmjbkelogaaa.Pure
open Go.RowKit Go.Proofs.Ytnmpmjbkelogaaa.Print Go.Proofs.YtnmpmjbkelogaaaW.PrintWords Go.Proofs.YtnmpmjbkelogaaaW.PrintMore
set_option linter.unusedSimpArgs false
set_option linter.unusedVariables false

theorem live_k {k : Nat} (hk : 20 ≤ k) : atticlaw19_live.f k = some true := at_rounds (g := fun k => atticlaw19_live.f k) atticlaw19_live.mono hk (show atticlaw19_live.f 20 = some true from by kernel_rfl)
/-- The state at first. -/
def st0 (lc : List Cel) : MS := ⟨0, 0, List.replicate lc.length false, [], false, false, false⟩
theorem new_f {lc : List Cel} {lr : List Int} {k : Nat} (hkv : Kv lc lr k) (hl : lc.length ≤ 281474976710656) {room : Int} (r0 : 1 ≤ room) (r1 : room ≤ 256) :
    mark_New.f k lc lr room = some (if viewB lc lr = true then (st0 lc).tup 0 else (MS.tup ⟨0, 0, [], [], false, false, false⟩ 190)) := by
  unfold mark_New.f
  unfold Kv at hkv
  rw [hkv, Option.bind_some]
  by_cases hv : viewB lc lr = true
  · rw [if_pos hv, if_pos rfl, if_neg (by omega), if_neg (by omega), if_pos (by omega), if_pos (by omega), if_pos hv, Int.toNat_natCast]; rfl
  · rw [if_neg hv, if_neg (by decide), if_neg hv]; rfl
theorem off0 (n i : Nat) : (List.replicate n false).getD i false = false := by
  by_cases h : i < n
  · simp [h]
  · simp [h]
theorem ok0 (lc : List Cel) (lr : List Int) {room : Int} (r0 : 1 ≤ room) (r1 : room ≤ 256) : Ok lc lr room (st0 lc) := by
  refine ⟨⟨by simp [st0], ?_, fun i hi => ?_, fun i hi => ?_, List.nodup_nil⟩, r0, r1, Int.le_refl 0, ?_, fun _ => rfl, fun h => by cases h⟩
  · show ((0 : Nat) : Int) ≤ room; omega
  · have hi : (List.replicate lc.length false).getD i false = true := hi
    rw [off0] at hi; cases hi
  · cases hi
  · show (0 : Int) ≤ furth lc lr 0 false
    unfold furth
    rw [if_pos rfl]; omega
theorem inv0 (lc : List Cel) (lr : List Int) : Inv lc lr (st0 lc) := by
  refine ⟨fun _ r hr => ?_, fun h => absurd rfl h, fun _ => .inr fun i hi _ hm => ?_, fun h => absurd h (show (0 : Int) ≠ 2 by decide), fun h => absurd h (show (0 : Int) ≠ 1 by decide), fun h => absurd h (show (0 : Int) ≠ 3 by decide)⟩
  · have hr : r ∈ lr.take (0 : Int).toNat := hr
    rw [Int.toNat_zero, List.take_zero] at hr; cases hr
  · have hm : (List.replicate lc.length false).getD i false = true := hm
    rw [off0] at hm; cases hm
theorem sub0 (lc : List Cel) (M : List Bool) : Sub (st0 lc).marks M := fun i hm => by
  have hm : (List.replicate lc.length false).getD i false = true := hm
  rw [off0] at hm; cases hm
def boundN (n r : Nat) : Nat := r + (n + 2) * (n + 3)
theorem phi_st0 (lc : List Cel) (lr : List Int) : Phi lc.length lr.length (st0 lc) ≤ boundN lc.length lr.length := by
  rw [phi0 (x := st0 lc) rfl]
  have h1 : unm (st0 lc).marks ≤ lc.length := by
    have := unm_le (st0 lc).marks
    have e : (st0 lc).marks.length = lc.length := by simp [st0]
    omega
  have h2 := Nat.mul_le_mul_right (lc.length + 3) h1
  have h3 : (lc.length + 2) * (lc.length + 3) = lc.length * (lc.length + 3) + 2 * (lc.length + 3) := Nat.add_mul _ _ _
  show (lr.length - 0) + 1 + 0 + 1 + (lc.length + 1) + unm (st0 lc).marks * (lc.length + 3) ≤ lr.length + (lc.length + 2) * (lc.length + 3)
  omega
theorem bound_le {n r : Nat} (hn : n ≤ 40) (hr : r ≤ 40) : boundN n r ≤ 1846 := by
  unfold boundN
  have : (n + 2) * (n + 3) ≤ 42 * 43 := Nat.mul_le_mul (by omega) (by omega)
  omega
theorem bound_f {lc : List Cel} {lr : List Int} (hn : lc.length ≤ 40) (hr : lr.length ≤ 40) : mark_Bound.f lc lr = some ((boundN lc.length lr.length : Nat) : Int) := by
  unfold mark_Bound.f
  have := bound_le hn hr
  have h2 : (lc.length + 2) * (lc.length + 3) ≤ 42 * 43 := Nat.mul_le_mul (by omega) (by omega)
  have w : ∀ z : Int, 0 ≤ z → z ≤ 100000 → wrap64 z = z := fun z h0 h1 => by unfold wrap64; omega
  have e : ((lc.length : Int) + 2) * ((lc.length : Int) + 3) = (((lc.length + 2) * (lc.length + 3) : Nat) : Int) := by push_cast; rfl
  rw [w ((lc.length : Int) + 2) (by omega) (by omega), w ((lc.length : Int) + 3) (by omega) (by omega), e, w (((lc.length + 2) * (lc.length + 3) : Nat) : Int) (by omega) (by omega), w _ (by omega) (by omega)]
  unfold boundN
  congr 1
theorem step_f {lc : List Cel} {lr : List Int} {room : Int} {k : Nat} (hv : viewB lc lr = true) (hkv : Kv lc lr k) (hkc : Kc lc k) (hl : lc.length ≤ 40) {x : MS} (hO : Ok lc lr room x) :
    mark_Step.f k lc lr room x.ph x.at_ x.marks x.stack x.over x.again x.scan = some ((un lc lr room k x).tup ((un lc lr room k x).ph == 3)) := by
  obtain ⟨e, h1, h2⟩ := check_f hkv (by omega) room x
  have hm := hO.bs.ml
  have hs : x.stack.length ≤ 256 := by have := hO.bs.sl; have := hO.r1; omega
  unfold mark_Step.f
  rw [if_pos ⟨by omega, by omega⟩, h1, Option.bind_some, if_pos (h2.2 ⟨hv, hO⟩), (un_ok hv hkc hO).1]
  rfl
theorem stepping {lc : List Cel} {lr : List Int} {room : Int} (hv : viewB lc lr = true) (hl : lc.length ≤ 40) (hkv : ∃ K, ∀ k, K ≤ k → Kv lc lr k) (hkc : ∃ K, ∀ k, K ≤ k → Kc lc k) {x : MS} (hO : Ok lc lr room x) (h3 : x.ph ≠ 3) :
    ∃ K y, (∀ k, K ≤ k → mark_Step.f k lc lr room x.ph x.at_ x.marks x.stack x.over x.again x.scan = some (y.tup (y.ph == 3))) ∧ Ok lc lr room y ∧ Way lc lr room x y := by
  obtain ⟨K1, hK1⟩ := hkv
  obtain ⟨K2, hK2⟩ := hkc
  obtain ⟨K, hK⟩ : ∃ K, K = K1 + K2 := ⟨_, rfl⟩
  refine ⟨K, un lc lr room K x, fun k hk => ?_, (un_ok hv (hK2 K (by omega)) hO).2, way hv (hK2 K (by omega)) hO h3⟩
  exact up (f := fun k => mark_Step.f k lc lr room x.ph x.at_ x.marks x.stack x.over x.again x.scan) (fun k => mark_Step.mono _ _ _ _ _ _ _ _ _ _ k) hk (step_f hv (hK1 K (by omega)) (hK2 K (by omega)) hl hO)
theorem Ev.late {α : Type} {g f : Nat → Option α} {r : α} (n : Nat) (h : ∀ k, n ≤ k → g (k + 1) = f k) (k : Ev f r) : Ev g r := by
  obtain ⟨K, hK⟩ := k
  refine ⟨K + n + 1, fun k hk => ?_⟩
  obtain ⟨k, rfl⟩ : ∃ k', k = k' + 1 := ⟨k - 1, by omega⟩
  rw [h k (by omega)]
  exact hK k (by omega)
theorem ph_in {lc : List Cel} {lr : List Int} {room : Int} {x : MS} (hO : Ok lc lr room x) : x.ph = 0 ∨ x.ph = 1 ∨ x.ph = 2 ∨ x.ph = 3 := by
  have := hO.a0; have := hO.a1
  unfold furth at this
  split at this
  · omega
  · split at this
    · omega
    · split at this
      · omega
      · split at this <;> omega
end Go.Proofs.Ytnmpmjbkelogaaa.Pure
