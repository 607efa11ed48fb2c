/- In any room, the roots in any order, marking ends with the same marks, within the bound; the law's pure part. -/
import Derived.Test.YtnmpmjbkelogaaaPrint
import Derived.Test.YtnmpmjbkelogaaaPureL19
namespace Go.Proofs.Ytnmpmjbkelogaaa.Pure
open Go.RowKit Go.Proofs.Ytnmpmjbkelogaaa.Print Go.Proofs.YtnmpmjbkelogaaaW.PrintWords Go.Proofs.YtnmpmjbkelogaaaW.PrintMore
set_option linter.unusedSimpArgs false
set_option linter.unusedVariables false

theorem live_k {k : Nat} (hk : 20 ≤ k) : atticlaw19_live.f k = some true := at_rounds (g := fun k => atticlaw19_live.f k) atticlaw19_live.mono hk (show atticlaw19_live.f 20 = some true from by kernel_rfl)
theorem eqB_l0' (l : List Bool) (hl : l.length ≤ 9223372036854775807) : ∀ (m j k : Nat), j + m = l.length → m < k → slices_Equal_bool_bool.l0 k l l (l.length : Int) (j : Int) = some true
  | 0, j, k, hj, hk => by
    obtain ⟨k, rfl⟩ : ∃ k', k = k' + 1 := ⟨k - 1, by omega⟩
    rw [slices_Equal_bool_bool.l0, if_neg (by omega)]
  | m + 1, j, k, hj, hk => by
    obtain ⟨k, rfl⟩ : ∃ k', k = k' + 1 := ⟨k - 1, by omega⟩
    rw [slices_Equal_bool_bool.l0, if_pos (by omega), if_pos (by omega), if_pos (by omega), if_pos (by omega), bne_self_eq_false, if_neg Bool.false_ne_true, wnat (show j < l.length by omega) hl, eqB_l0' l hl m (j + 1) k (by omega) (by omega)]
theorem eqB_f (l : List Bool) (hl : l.length ≤ 9223372036854775807) {k : Nat} (hk : l.length < k) : slices_Equal_bool_bool.f k l l = some true := by
  unfold slices_Equal_bool_bool.f
  rw [if_pos rfl, show (0 : Int) = ((0 : Nat) : Int) from rfl, eqB_l0' l hl l.length 0 k (by omega) hk]
theorem swap_mem (l : List Int) (i j : Nat) (hi : i < l.length) (hj : j < l.length) (h : i ≠ j) (r : Int) : r ∈ (l.set i (rd l (j : Int))).set j (rd l (i : Int)) ↔ r ∈ l := by
  rw [rd_in l i hi, rd_in l j hj]
  constructor
  · intro hm
    rcases List.mem_or_eq_of_mem_set hm with hm | rfl
    · rcases List.mem_or_eq_of_mem_set hm with hm | rfl
      · exact hm
      · exact List.getElem_mem hj
    · exact List.getElem_mem hi
  · intro hm
    obtain ⟨m, hml, rfl⟩ := List.mem_iff_getElem.1 hm
    have hl : ((l.set i l[j]).set j l[i]).length = l.length := by simp
    by_cases e1 : m = i
    · subst e1
      exact List.mem_iff_getElem.2 ⟨j, by rw [hl]; exact hj, by simp⟩
    · by_cases e2 : m = j
      · subst e2
        refine List.mem_iff_getElem.2 ⟨i, by rw [hl]; exact hi, ?_⟩
        rw [List.getElem_set_ne (fun h' => h h'.symm)]
        simp
      · refine List.mem_iff_getElem.2 ⟨m, by rw [hl]; exact hml, ?_⟩
        rw [List.getElem_set_ne (fun h' => e2 h'.symm), List.getElem_set_ne (fun h' => e1 h'.symm)]
theorem rev_l0 : ∀ (m : Nat) (l : List Int) (i : Nat) (j : Int) (k : Nat), l.length ≤ 1000000000000000 → j < (l.length : Int) → j ≤ (i : Int) + m → (i : Int) ≤ j + 1 → m < k → ∃ l', slices_Reverse_int_int.l0 k l (i : Int) j = some l' ∧ l'.length = l.length ∧ ∀ r, r ∈ l' ↔ r ∈ l
  | 0, l, i, j, k, hl, hj, hm, hij, hk => by
    obtain ⟨k, rfl⟩ : ∃ k', k = k' + 1 := ⟨k - 1, by omega⟩
    exact ⟨l, by rw [slices_Reverse_int_int.l0, if_neg (by omega)], rfl, fun r => Iff.rfl⟩
  | m + 1, l, i, j, k, hl, hj, hm, hij, hk => by
    obtain ⟨k, rfl⟩ : ∃ k', k = k' + 1 := ⟨k - 1, by omega⟩
    by_cases h : (i : Int) < j
    · obtain ⟨q, rfl⟩ : ∃ q : Nat, j = (q : Int) := ⟨j.toNat, by omega⟩
      obtain ⟨l', h1, h2, h3⟩ := rev_l0 m ((l.set i (rd l (q : Int))).set q (rd l (i : Int))) (i + 1) ((q : Int) - 1) k (by simp; exact hl) (by simp; omega) (by omega) (by omega) (by omega)
      refine ⟨l', ?_, by rw [h2]; simp, fun r => (h3 r).trans (swap_mem l i q (by omega) (by omega) (by omega) r)⟩
      rw [slices_Reverse_int_int.l0, if_pos h, if_pos (by omega), if_pos hj, if_pos (by omega), if_pos (by omega), wnat (show i < l.length by omega) (by omega), show wrap64 ((q : Int) - 1) = (q : Int) - 1 from by unfold wrap64; omega]
      exact h1
    · exact ⟨l, by rw [slices_Reverse_int_int.l0, if_neg h], rfl, fun r => Iff.rfl⟩
theorem rev_f (l : List Int) (hl : l.length ≤ 1000000000000000) {k : Nat} (hk : l.length < k) : ∃ l', slices_Reverse_int_int.f k l = some l' ∧ l'.length = l.length ∧ ∀ r, r ∈ l' ↔ r ∈ l := by
  unfold slices_Reverse_int_int.f
  rw [show wrap64 ((l.length : Int) - 1) = (l.length : Int) - 1 from by unfold wrap64; omega]
  exact rev_l0 l.length l 0 ((l.length : Int) - 1) k hl (by omega) (by omega) (by omega) hk
theorem view_rev {lc : List Cel} {lr lr' : List Int} (h : ∀ r, r ∈ lr' ↔ r ∈ lr) : viewB lc lr' = viewB lc lr := by
  unfold viewB
  congr 1
  rw [Bool.eq_iff_iff, List.all_eq_true, List.all_eq_true]
  exact ⟨fun g r hr => g r ((h r).2 hr), fun g r hr => g r ((h r).1 hr)⟩
/-- The state at first. -/
def st0 (lc : List Cel) : MS := ⟨0, 0, List.replicate lc.length false, [], false, false, false⟩
theorem new_f {lc : List Cel} {lr : List Int} {k : Nat} (hkv : Kv lc lr k) (hl : lc.length ≤ 281474976710656) {room : Int} (r0 : 1 ≤ room) (r1 : room ≤ 256) :
    mark_New.f k lc lr room = some (if viewB lc lr = true then (st0 lc).tup 0 else (MS.tup ⟨0, 0, [], [], false, false, false⟩ 190)) := by
  unfold mark_New.f
  unfold Kv at hkv
  rw [hkv, Option.bind_some]
  by_cases hv : viewB lc lr = true
  · rw [if_pos hv, if_pos rfl, if_neg (by omega), if_neg (by omega), if_pos (by omega), if_pos (by omega), if_pos hv, Int.toNat_natCast]; rfl
  · rw [if_neg hv, if_neg (by decide), if_neg hv]; rfl
theorem off0 (n i : Nat) : (List.replicate n false).getD i false = false := by
  by_cases h : i < n
  · simp [h]
  · simp [h]
theorem ok0 (lc : List Cel) (lr : List Int) {room : Int} (r0 : 1 ≤ room) (r1 : room ≤ 256) : Ok lc lr room (st0 lc) := by
  refine ⟨⟨by simp [st0], ?_, fun i hi => ?_, fun i hi => ?_, List.nodup_nil⟩, r0, r1, Int.le_refl 0, ?_, fun _ => rfl, fun h => by cases h⟩
  · show ((0 : Nat) : Int) ≤ room; omega
  · have hi : (List.replicate lc.length false).getD i false = true := hi
    rw [off0] at hi; cases hi
  · cases hi
  · show (0 : Int) ≤ furth lc lr 0 false
    unfold furth
    rw [if_pos rfl]; omega
theorem inv0 (lc : List Cel) (lr : List Int) : Inv lc lr (st0 lc) := by
  refine ⟨fun _ r hr => ?_, fun h => absurd rfl h, fun _ => .inr fun i hi _ hm => ?_, fun h => absurd h (show (0 : Int) ≠ 2 by decide), fun h => absurd h (show (0 : Int) ≠ 1 by decide), fun h => absurd h (show (0 : Int) ≠ 3 by decide)⟩
  · have hr : r ∈ lr.take (0 : Int).toNat := hr
    rw [Int.toNat_zero, List.take_zero] at hr; cases hr
  · have hm : (List.replicate lc.length false).getD i false = true := hm
    rw [off0] at hm; cases hm
theorem sub0 (lc : List Cel) (M : List Bool) : Sub (st0 lc).marks M := fun i hm => by
  have hm : (List.replicate lc.length false).getD i false = true := hm
  rw [off0] at hm; cases hm
def boundN (n r : Nat) : Nat := r + (n + 2) * (n + 3)
theorem phi_st0 (lc : List Cel) (lr : List Int) : Phi lc.length lr.length (st0 lc) ≤ boundN lc.length lr.length := by
  rw [phi0 (x := st0 lc) rfl]
  have h1 : unm (st0 lc).marks ≤ lc.length := by
    have := unm_le (st0 lc).marks
    have e : (st0 lc).marks.length = lc.length := by simp [st0]
    omega
  have h2 := Nat.mul_le_mul_right (lc.length + 3) h1
  have h3 : (lc.length + 2) * (lc.length + 3) = lc.length * (lc.length + 3) + 2 * (lc.length + 3) := Nat.add_mul _ _ _
  show (lr.length - 0) + 1 + 0 + 1 + (lc.length + 1) + unm (st0 lc).marks * (lc.length + 3) ≤ lr.length + (lc.length + 2) * (lc.length + 3)
  omega
theorem bound_le {n r : Nat} (hn : n ≤ 40) (hr : r ≤ 40) : boundN n r ≤ 1846 := by
  unfold boundN
  have : (n + 2) * (n + 3) ≤ 42 * 43 := Nat.mul_le_mul (by omega) (by omega)
  omega
theorem bound_f {lc : List Cel} {lr : List Int} (hn : lc.length ≤ 40) (hr : lr.length ≤ 40) : mark_Bound.f lc lr = some ((boundN lc.length lr.length : Nat) : Int) := by
  unfold mark_Bound.f
  have := bound_le hn hr
  have h2 : (lc.length + 2) * (lc.length + 3) ≤ 42 * 43 := Nat.mul_le_mul (by omega) (by omega)
  have w : ∀ z : Int, 0 ≤ z → z ≤ 100000 → wrap64 z = z := fun z h0 h1 => by unfold wrap64; omega
  have e : ((lc.length : Int) + 2) * ((lc.length : Int) + 3) = (((lc.length + 2) * (lc.length + 3) : Nat) : Int) := by push_cast; rfl
  rw [w ((lc.length : Int) + 2) (by omega) (by omega), w ((lc.length : Int) + 3) (by omega) (by omega), e, w (((lc.length + 2) * (lc.length + 3) : Nat) : Int) (by omega) (by omega), w _ (by omega) (by omega)]
  unfold boundN
  congr 1
theorem runFL {lc : List Cel} {lr : List Int} {room : Int} {k : Nat} (hv : viewB lc lr = true) (hkv : Kv lc lr k) (hkc : Kc lc k) (hl : lc.length ≤ 40) {x : MS} (hO : Ok lc lr room x) (n : Nat) (hn : n < 3000) (hk : 3000 ≤ k) :
    mark_Run.f k lc lr room x.ph x.at_ x.marks x.stack x.over x.again x.scan (n : Int) = some ((it lc lr room k n x).1.tup (((it lc lr room k n x).2 : Nat) : Int)) := by
  obtain ⟨e, h1, h2⟩ := check_f hkv (by omega) room x
  have hm := hO.bs.ml
  have hs : x.stack.length ≤ 256 := by have := hO.bs.sl; have := hO.r1; omega
  unfold mark_Run.f
  rw [if_pos ⟨by omega, by omega⟩, h1, Option.bind_some, if_pos (h2.2 ⟨hv, hO⟩)]
  have := run_f hv hkc n k x 0 hO (by omega) (by omega)
  rw [Nat.zero_add, Nat.zero_add, show ((0 : Nat) : Int) = 0 from rfl] at this
  rw [this, Option.bind_some]
/-- From the first state, by the bound, to the least. -/
theorem ends {lc : List Cel} {lr : List Int} {room : Int} {k : Nat} (hv : viewB lc lr = true) (hkv : Kv lc lr k) (hkc : Kc lc k) (hl : lc.length ≤ 40) (hr : lr.length ≤ 40) (r0 : 1 ≤ room) (r1 : room ≤ 256) (hk : 3000 ≤ k) :
    ∃ y n, mark_Run.f k lc lr room 0 0 (List.replicate lc.length false) [] false false false ((boundN lc.length lr.length : Nat) : Int) = some (MS.tup y n) ∧ y.ph = 3 ∧ y.marks.length = lc.length ∧ Inv lc lr y ∧ ∀ M, Closed lc M → Roots lr M → Sub y.marks M := by
  have hO := ok0 lc lr r0 r1
  have h := runFL hv hkv hkc hl hO (boundN lc.length lr.length) (by have := bound_le hl hr; omega) hk
  exact ⟨_, _, h, it_ends hv hkc _ hO (inv0 lc lr) (phi_st0 lc lr), (it_ok hv hkc _ hO).bs.ml, it_inv hv hkc _ hO (inv0 lc lr), fun M hM hR => it_sub hv hkc hM hR _ hO (sub0 lc M)⟩
theorem MarkRooms : atticlaw19_MarkRooms.Pure := by
  rintro ⟨lc, lr⟩ a b ⟨⟨g1, g2⟩, g3, g4⟩ ga gb
  have hG : VG lc := ⟨by have : lc.length * 32 ≤ _ := g1; omega, fun c hc => by have := (g2 c hc).2.1; omega⟩
  have g1' : lc.length * 32 ≤ 140737488351232 := g1
  have g3' : lr.length * 8 ≤ 140737488351232 := g3
  obtain ⟨K1, hK1⟩ := kv_ev lc lr hG
  obtain ⟨K2, hK2⟩ := kc_ev lc (fun c hc => by have := (g2 c hc).2.1; omega)
  obtain ⟨lr', hr1, hr2, hr3⟩ := rev_f lr (by omega) (k := lr.length + 1) (by omega)
  obtain ⟨K3, hK3⟩ := kv_ev lc lr' hG
  obtain ⟨k, hk⟩ : ∃ k, k = K1 + K2 + K3 + lc.length + lr.length + 3000 := ⟨_, rfl⟩
  have hkv := hK1 (k + 2) (by omega)
  have hkv' := hK3 (k + 2) (by omega)
  have hkc := hK2 k (by omega)
  have hkvk := hK1 k (by omega)
  have hkvk' := hK3 k (by omega)
  have ha : 0 ≤ a ∧ a ≤ 255 := by simpa [Lit.wf, IntKind.min, IntKind.max, IntKind.signed, IntKind.bits] using ga
  have hb : 0 ≤ b ∧ b ≤ 255 := by simpa [Lit.wf, IntKind.min, IntKind.max, IntKind.signed, IntKind.bits] using gb
  have w : ∀ z : Int, 0 ≤ z → z ≤ 100000 → wrap64 z = z := fun z h0 h1 => by unfold wrap64; omega
  refine ⟨k + 2, ?_⟩
  show atticlaw19_MarkRooms.f (k + 2) lc lr a b = some true
  have hrev : slices_Reverse_int_int.f (k + 2) lr = some lr' := by
    obtain ⟨l2, q1, q2, q3⟩ := rev_f lr (by omega) (k := k + 2) (by omega)
    have := up (f := fun k => slices_Reverse_int_int.f k lr) (fun k => slices_Reverse_int_int.mono lr k) (show lr.length + 1 ≤ k + 2 by omega) hr1
    exact this
  have hvr : viewB lc lr' = viewB lc lr := view_rev hr3
  unfold atticlaw19_MarkRooms.f
  rw [w a (by omega) (by omega), w b (by omega) (by omega), w (1 + a) (by omega) (by omega), w (1 + b) (by omega) (by omega), new_f hkv (by omega) (by omega) (by omega), Option.bind_some, clone_int.f, if_pos (by omega), Option.bind_some, hrev, Option.bind_some, new_f hkv' (by omega) (by omega) (by omega), Option.bind_some, live_k (by omega), Option.bind_some, if_pos rfl, hvr]
  by_cases hv : viewB lc lr = true
  · simp only [if_pos hv, MS.tup, st0]
    rw [atticlaw19_MarkRooms.j0, bne_self_eq_false, if_neg Bool.false_ne_true, if_pos rfl, atticlaw19_few.f]
    by_cases hl : (lc.length : Int) ≤ 40
    · rw [if_pos hl, Option.bind_some]
      by_cases hr : (lr.length : Int) ≤ 40
      · obtain ⟨y, n, e1, e2, e3, e4, e5⟩ := ends hv hkvk hkc (by omega) (by omega) (room := 1 + a) (by omega) (by omega) (by omega)
        obtain ⟨y', n', f1, f2, f3, f4, f5⟩ := ends (hvr.trans hv) hkvk' hkc (by omega) (show lr'.length ≤ 40 by omega) (room := 1 + b) (by omega) (by omega) (by omega)
        have hm := least e2 e4 e5 f4 f2 f5 (fun r => (hr3 r).symm) (by rw [e3, f3])
        rw [decide_eq_true hr, atticlaw19_MarkRooms.j1, Bool.not_true, if_neg Bool.false_ne_true, bound_f (by omega) (by omega), Option.bind_some, w a (by omega) (by omega), w (1 + a) (by omega) (by omega), e1, Option.bind_some, bound_f (by omega) (by omega), Option.bind_some, w b (by omega) (by omega), w (1 + b) (by omega) (by omega), f1, Option.bind_some]
        simp only [MS.tup]
        exact (if_pos e2).trans ((if_pos f2).trans (by rw [hm, eqB_f _ (by rw [f3]; omega) (by rw [f3]; omega), Option.bind_some]))
      · rw [decide_eq_false hr, atticlaw19_MarkRooms.j1, Bool.not_false, if_pos rfl]
    · rw [if_neg hl, Option.bind_some, atticlaw19_MarkRooms.j1, Bool.not_false, if_pos rfl]
  · simp only [if_neg hv, MS.tup]
    rw [atticlaw19_MarkRooms.j0, bne_self_eq_false, if_neg Bool.false_ne_true, if_neg (by decide), atticlaw19_MarkRooms.j1, if_pos rfl]
end Go.Proofs.Ytnmpmjbkelogaaa.Pure
