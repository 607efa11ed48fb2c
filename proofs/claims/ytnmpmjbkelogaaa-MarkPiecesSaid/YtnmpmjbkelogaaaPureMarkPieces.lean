/- In any pieces marking is the same: some units, and then others, are both together; the law's pure part. -/
import Derived.Test.YtnmpmjbkelogaaaPrint
import Derived.Test.YtnmpmjbkelogaaaPureC19
namespace Go.Proofs.Ytnmpmjbkelogaaa.Pure
open Go.RowKit Go.Proofs.Ytnmpmjbkelogaaa.Print Go.Proofs.YtnmpmjbkelogaaaW.PrintWords Go.Proofs.YtnmpmjbkelogaaaW.PrintMore
set_option linter.unusedSimpArgs false
set_option linter.unusedVariables false

theorem live_k {k : Nat} (hk : 20 ≤ k) : atticlaw19_live.f k = some true := at_rounds (g := fun k => atticlaw19_live.f k) atticlaw19_live.mono hk (show atticlaw19_live.f 20 = some true from by kernel_rfl)
theorem eqB_l0' (l : List Bool) (hl : l.length ≤ 9223372036854775807) : ∀ (m j k : Nat), j + m = l.length → m < k → slices_Equal_bool_bool.l0 k l l (l.length : Int) (j : Int) = some true
  | 0, j, k, hj, hk => by
    obtain ⟨k, rfl⟩ : ∃ k', k = k' + 1 := ⟨k - 1, by omega⟩
    rw [slices_Equal_bool_bool.l0, if_neg (by omega)]
  | m + 1, j, k, hj, hk => by
    obtain ⟨k, rfl⟩ : ∃ k', k = k' + 1 := ⟨k - 1, by omega⟩
    rw [slices_Equal_bool_bool.l0, if_pos (by omega), if_pos (by omega), if_pos (by omega), if_pos (by omega), bne_self_eq_false, if_neg Bool.false_ne_true, wnat (show j < l.length by omega) hl, eqB_l0' l hl m (j + 1) k (by omega) (by omega)]
theorem eqI_l0' (l : List Int) (hl : l.length ≤ 9223372036854775807) : ∀ (m j k : Nat), j + m = l.length → m < k → slices_Equal_int_int.l0 k l l (l.length : Int) (j : Int) = some true
  | 0, j, k, hj, hk => by
    obtain ⟨k, rfl⟩ : ∃ k', k = k' + 1 := ⟨k - 1, by omega⟩
    rw [slices_Equal_int_int.l0, if_neg (by omega)]
  | m + 1, j, k, hj, hk => by
    obtain ⟨k, rfl⟩ : ∃ k', k = k' + 1 := ⟨k - 1, by omega⟩
    rw [slices_Equal_int_int.l0, if_pos (by omega), if_pos (by omega), if_pos (by omega), if_pos (by omega), if_pos rfl, wnat (show j < l.length by omega) hl, eqI_l0' l hl m (j + 1) k (by omega) (by omega)]
theorem same_self (x : MS) (h1 : x.marks.length ≤ 9223372036854775807) (h2 : x.stack.length ≤ 9223372036854775807) {k : Nat} (k1 : x.marks.length < k) (k2 : x.stack.length < k) :
    mark_Same.f k x.ph x.at_ x.marks x.stack x.over x.again x.scan x.ph x.at_ x.marks x.stack x.over x.again x.scan = some true := by
  have hb := eqB_l0' x.marks h1 x.marks.length 0 k (by omega) k1
  have hi := eqI_l0' x.stack h2 x.stack.length 0 k (by omega) k2
  unfold mark_Same.f slices_Equal_bool_bool.f slices_Equal_int_int.f
  rw [if_pos rfl, if_pos rfl, if_pos (beq_self_eq_true _), if_pos (beq_self_eq_true _), if_pos (beq_self_eq_true _), if_pos rfl, show (0 : Int) = ((0 : Nat) : Int) from rfl, hb, Option.bind_some, if_pos rfl, if_pos rfl, hi, Option.bind_some]
theorem Ok.small {lc : List Cel} {lr : List Int} {room : Int} {x : MS} (h : Ok lc lr room x) : x.stack.length ≤ 256 := by have := h.bs.sl; have := h.r1; omega
/-- A run of n units from a state that may be. -/
theorem runF {lc : List Cel} {lr : List Int} {room : Int} {k : Nat} (hv : viewB lc lr = true) (hkv : Kv lc lr k) (hkc : Kc lc k) (hl : lc.length ≤ 40) {x : MS} (hO : Ok lc lr room x) (n : Nat) (hn : n < 1000) (hk : 1000 ≤ k) :
    mark_Run.f k lc lr room x.ph x.at_ x.marks x.stack x.over x.again x.scan (n : Int) = some ((it lc lr room k n x).1.tup (((it lc lr room k n x).2 : Nat) : Int)) := by
  obtain ⟨e, h1, h2⟩ := check_f hkv (by omega) room x
  have hm := hO.bs.ml
  have hs := hO.small
  unfold mark_Run.f
  rw [if_pos ⟨by omega, by omega⟩, h1, Option.bind_some, if_pos (h2.2 ⟨hv, hO⟩)]
  have := run_f hv hkc n k x 0 hO (by omega) (by omega)
  rw [Nat.zero_add, Nat.zero_add, show ((0 : Nat) : Int) = 0 from rfl] at this
  rw [this, Option.bind_some]
theorem runBad {lc : List Cel} {lr : List Int} {room : Int} {k : Nat} (hkv : Kv lc lr k) (hl : lc.length ≤ 40) {x : MS} (hb1 : x.marks.length * 1 ≤ 140737488355328) (hb2 : x.stack.length * 8 ≤ 140737488355328) (hO : ¬ (viewB lc lr = true ∧ Ok lc lr room x)) (u : Int) :
    mark_Run.f k lc lr room x.ph x.at_ x.marks x.stack x.over x.again x.scan u = some (x.tup (0 : Int)) := by
  obtain ⟨e, h1, h2⟩ := check_f hkv (by omega) room x
  unfold mark_Run.f
  rw [if_pos ⟨hb1, hb2⟩, h1, Option.bind_some, if_neg (fun h => hO (h2.1 h))]
theorem MarkPieces : atticlaw19_MarkPieces.Pure := by
  rintro ⟨lc, lr⟩ ⟨room, ⟨ph, at_, m, st, ov, ag, sc⟩, units⟩ more ⟨⟨g1, g2⟩, g3, g4⟩ ⟨g5, ⟨g6, g7, ⟨g8, _⟩, ⟨g9, _⟩, _⟩, g10⟩ g11
  replace g8 : m.length * 1 ≤ 140737488351232 := g8
  replace g9 : st.length * 8 ≤ 140737488351232 := g9
  obtain ⟨x, hx⟩ : ∃ x : MS, x = ⟨ph, at_, m, st, ov, ag, sc⟩ := ⟨_, rfl⟩
  have hG : VG lc := ⟨by have : lc.length * 32 ≤ _ := g1; omega, fun c hc => by have := (g2 c hc).2.1; omega⟩
  obtain ⟨K1, hK1⟩ := kv_ev lc lr hG
  obtain ⟨K2, hK2⟩ := kc_ev lc (fun c hc => by have := (g2 c hc).2.1; omega)
  obtain ⟨k, hk⟩ : ∃ k, k = K1 + K2 + m.length + st.length + 2000 := ⟨_, rfl⟩
  have hkv := hK1 k (by omega)
  have hkc := hK2 k (by omega)
  refine ⟨k + 1, ?_⟩
  show atticlaw19_MarkPieces.f (k + 1) lc lr room ph at_ m st ov ag sc units more = some true
  have hm0 : 0 ≤ more ∧ more ≤ 255 := by simpa [Lit.wf, IntKind.min, IntKind.max, IntKind.signed, IntKind.bits] using g11
  obtain ⟨b, rfl⟩ : ∃ b : Nat, more = (b : Int) := ⟨more.toNat, by omega⟩
  have hb255 : b ≤ 255 := by omega
  have w : ∀ (p q : Nat), p ≤ 300 → q ≤ 255 → wrap64 ((p : Int) + (q : Int)) = ((p + q : Nat) : Int) := fun p q hp hq => by unfold wrap64; omega
  unfold atticlaw19_MarkPieces.f
  rw [live_k (by omega), Option.bind_some, if_pos rfl, atticlaw19_few.f]
  by_cases hl : (lc.length : Int) ≤ 40
  · rw [if_pos hl, Option.bind_some]
    by_cases hr : (lr.length : Int) ≤ 40
    · rw [decide_eq_true hr, atticlaw19_MarkPieces.j0, Bool.not_true, if_neg Bool.false_ne_true]
      obtain ⟨a, ha, ha2⟩ : ∃ a : Nat, mx 0 (mn units 300) = (a : Int) ∧ a ≤ 300 := ⟨(mx 0 (mn units 300)).toNat, by unfold mx mn; omega, by unfold mx mn; omega⟩
      rw [ha, show wrap64 ((b : Nat) : Int) = ((b : Nat) : Int) from by unfold wrap64; omega, show wrap64 ((a : Int) + (b : Int)) = ((a + b : Nat) : Int) from by unfold wrap64; omega]
      by_cases hO : viewB lc lr = true ∧ Ok lc lr room x
      · obtain ⟨hv, hO⟩ := hO
        have r1 := runF hv hkv hkc (by omega) hO a (by omega) (by omega)
        have hO1 := it_ok hv hkc a hO
        have r2 := runF hv hkv hkc (by omega) hO1 b (by omega) (by omega)
        have r3 := runF hv hkv hkc (by omega) hO (a + b) (by omega) (by omega)
        have hO3 := it_ok hv hkc b hO1
        rw [it_add] at r3
        have i1 := it_le (lc := lc) (lr := lr) (room := room) (k := k) a x
        have i2 := it_le (lc := lc) (lr := lr) (room := room) (k := k) b (it lc lr room k a x).1
        have hs := same_self (it lc lr room k b (it lc lr room k a x).1).1 (by rw [hO3.bs.ml]; omega) (by have := hO3.small; omega) (k := k) (by rw [hO3.bs.ml]; omega) (by have := hO3.small; omega)
        subst hx
        simp only at r1 r3
        rw [r1, Option.bind_some]
        simp only [MS.tup] at r2 ⊢
        rw [r2, Option.bind_some, r3, Option.bind_some]
        simp only [MS.tup]
        rw [hs, Option.bind_some, if_pos rfl]
        exact (if_pos (w _ _ (Nat.le_trans i1 ha2) (Nat.le_trans i2 hb255))).trans ((if_pos (Int.ofNat_le.2 i1)).trans (congrArg some (decide_eq_true (Int.ofNat_le.2 i2))))
      · have r1 := runBad (k := k) hkv (by omega) (x := x) (by subst hx; show m.length * 1 ≤ _; omega) (by subst hx; show st.length * 8 ≤ _; omega) hO
        have hs := same_self x (by subst hx; show m.length ≤ _; omega) (by subst hx; show st.length ≤ _; omega) (k := k) (by subst hx; show m.length < _; omega) (by subst hx; show st.length < _; omega)
        subst hx
        simp only [MS.tup] at r1
        rw [r1, Option.bind_some]
        simp only
        rw [r1, Option.bind_some, r1, Option.bind_some]
        simp only at hs ⊢
        rw [hs, Option.bind_some, if_pos rfl, show wrap64 ((0 : Int) + 0) = 0 from by unfold wrap64; omega, if_pos rfl, if_pos (show (0 : Int) ≤ (a : Int) by omega), decide_eq_true (show (0 : Int) ≤ (b : Int) by omega)]
    · rw [decide_eq_false hr, atticlaw19_MarkPieces.j0, Bool.not_false, if_pos rfl, live_k (by omega), Option.bind_some]
  · rw [if_neg hl, Option.bind_some, atticlaw19_MarkPieces.j0, Bool.not_false, if_pos rfl, live_k (by omega), Option.bind_some]
end Go.Proofs.Ytnmpmjbkelogaaa.Pure
