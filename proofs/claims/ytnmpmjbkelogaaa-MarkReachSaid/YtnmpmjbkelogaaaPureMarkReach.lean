/- What is marked is reached; within the bound all that is reached is marked: the law's pure part. -/
import Derived.Test.YtnmpmjbkelogaaaPrint
import Derived.Test.YtnmpmjbkelogaaaPureRe19
namespace Go.Proofs.Ytnmpmjbkelogaaa.Pure
open Go.RowKit Go.Proofs.Ytnmpmjbkelogaaa.Print Go.Proofs.YtnmpmjbkelogaaaW.PrintWords Go.Proofs.YtnmpmjbkelogaaaW.PrintMore
set_option linter.unusedSimpArgs false
set_option linter.unusedVariables false

theorem eqB_l0' (l : List Bool) (hl : l.length ≤ 9223372036854775807) : ∀ (m j k : Nat), j + m = l.length → m < k → slices_Equal_bool_bool.l0 k l l (l.length : Int) (j : Int) = some true
  | 0, j, k, hj, hk => by
    obtain ⟨k, rfl⟩ : ∃ k', k = k' + 1 := ⟨k - 1, by omega⟩
    rw [slices_Equal_bool_bool.l0, if_neg (by omega)]
  | m + 1, j, k, hj, hk => by
    obtain ⟨k, rfl⟩ : ∃ k', k = k' + 1 := ⟨k - 1, by omega⟩
    rw [slices_Equal_bool_bool.l0, if_pos (by omega), if_pos (by omega), if_pos (by omega), if_pos (by omega), bne_self_eq_false, if_neg Bool.false_ne_true, wnat (show j < l.length by omega) hl, eqB_l0' l hl m (j + 1) k (by omega) (by omega)]
theorem eqB_f (l : List Bool) (hl : l.length ≤ 9223372036854775807) {k : Nat} (hk : l.length < k) : slices_Equal_bool_bool.f k l l = some true := by
  unfold slices_Equal_bool_bool.f
  rw [if_pos rfl, show (0 : Int) = ((0 : Nat) : Int) from rfl, eqB_l0' l hl l.length 0 k (by omega) hk]
theorem within_l0 {m M : List Bool} (h : Sub m M) (hl : m.length = M.length) (hb : m.length ≤ 9223372036854775806) : ∀ (d j k : Nat), j + d = m.length → d < k → atticlaw19_within.l0 k M m (m.length : Int) (j : Int) = some true
  | 0, j, k, hj, hk => by
    obtain ⟨k, rfl⟩ : ∃ k', k = k' + 1 := ⟨k - 1, by omega⟩
    rw [atticlaw19_within.l0, if_neg (by omega)]
  | d + 1, j, k, hj, hk => by
    obtain ⟨k, rfl⟩ : ∃ k', k = k' + 1 := ⟨k - 1, by omega⟩
    have hlt : j < m.length := by omega
    rw [atticlaw19_within.l0, if_pos (by omega), if_pos (by omega), if_pos (by omega), wnat hlt (by omega), within_l0 h hl hb d (j + 1) k (by omega) (by omega)]
    by_cases hm : rdOf false m (j : Int) = true
    · have hM : rdOf false M (j : Int) = true := h j hm
      rw [if_pos hm, if_neg (by omega), if_pos (by omega), if_pos hM]
    · rw [if_neg hm]
section
variable {lc : List Cel} {lr : List Int} {room : Int} {R : List Bool}
theorem reach_l0' (hv : viewB lc lr = true) (hl : lc.length ≤ 40) (hR : Fin_ lc lr R) (hkv : ∃ K, ∀ k, K ≤ k → Kv lc lr k) (hkc : ∃ K, ∀ k, K ≤ k → Kc lc k) {B : Nat} (hB : B < 1000000) :
    ∀ (m q : Nat) (x : MS), q + m = B → Ok lc lr room x → Inv lc lr x → Sub x.marks R → Phi lc.length lr.length x ≤ m → Ev (fun k => atticlaw19_MarkReach.l0 k room R (B : Int) (q : Int) lc lr x.ph x.at_ x.marks x.stack x.over x.again x.scan) true
  | m, q, x, hq, hO, hI, hs, hp => by
    have hlen : x.marks.length = R.length := by rw [hO.bs.ml, hR.good.len]
    have hml := hO.bs.ml
    have done : x.ph = 3 → Ev (fun k => (slices_Equal_bool_bool.f k x.marks R).bind fun t => (if t = true then ((mark_Check.f k lc lr room x.ph x.at_ x.marks x.stack x.over x.again x.scan).bind fun t => (some (t == 0))) else (some false))) true := fun h3 => by
      have e : x.marks = R := sub_eq hlen hs (hR.good.sub _ (hI.D h3) (hI.r1 (by omega)))
      obtain ⟨K, hK⟩ := hkv
      refine ⟨K + 100, fun k hk => ?_⟩
      obtain ⟨c, c1, c2⟩ := check_f (hK k (by omega)) (by omega) room x
      show (slices_Equal_bool_bool.f k x.marks R).bind _ = _
      rw [← e, eqB_f _ (by omega) (by omega), Option.bind_some, if_pos rfl, c1, Option.bind_some, c2.2 ⟨hv, hO⟩]
      rfl
    match m, hq, hp with
    | 0, hq, hp =>
      have h3 : x.ph = 3 := by
        have a1 := hO.a1
        rcases ph_in hO with h | h | h | h
        · rw [phi0 h] at hp; omega
        · cases hsc : x.scan with
          | false => rw [phi1 h hsc] at hp; omega
          | true => rw [phi1s h hsc] at hp; omega
        · rw [phi2 h] at hp
          unfold furth at a1
          rw [if_neg (by omega), if_neg (by omega), if_pos h] at a1
          omega
        · exact h
      exact Ev.step (fun k => by rw [atticlaw19_MarkReach.l0, if_neg (by omega), if_pos h3]) (done h3)
    | m + 1, hq, hp =>
      refine Ev.late 100 (f := fun k => atticlaw19_MarkReach.j2 k room R (B : Int) (q : Int) false lc lr x.ph x.at_ x.marks x.stack x.over x.again x.scan) (fun k hk => ?_) ?_
      · have hst : ¬ (x.stack.length : Int) > room := by have := hO.bs.sl; omega
        have hw : atticlaw19_within.f k x.marks R = some true := by
          unfold atticlaw19_within.f
          exact within_l0 hs hlen (by omega) x.marks.length 0 k (by omega) (by omega)
        rw [atticlaw19_MarkReach.l0, if_pos (by omega), hw, Option.bind_some, if_pos rfl, if_pos (by omega), decide_eq_false hst]
      · by_cases h3 : x.ph = 3
        · exact Ev.step (fun k => by rw [atticlaw19_MarkReach.j2, if_neg Bool.false_ne_true, if_pos h3]) (done h3)
        · obtain ⟨K, y, hst, hu, hw⟩ := stepping hv hl hkv hkc hO h3
          have hpy := phi_way hv hO hI hw
          obtain ⟨K3, hK3⟩ := reach_l0' hv hl hR hkv hkc hB m (q + 1) y (by omega) hu (inv_way hv hO hI hw) (way_sub hv hR.closed hR.roots hO hs hw) (by omega)
          refine ⟨K + K3 + 1, fun k hk => ?_⟩
          obtain ⟨k, rfl⟩ : ∃ k', k = k' + 1 := ⟨k - 1, by omega⟩
          show atticlaw19_MarkReach.j2 (k + 1) _ _ _ _ _ _ _ _ _ _ _ _ _ _ = _
          rw [atticlaw19_MarkReach.j2, if_neg Bool.false_ne_true, if_neg h3, hst k (by omega), Option.bind_some, wsucc (show q < 1000000000 by omega)]
          exact hK3 k (by omega)
end
theorem MarkReach : atticlaw19_MarkReach.Pure := by
  rintro ⟨lc, lr⟩ a ⟨⟨g1, g2⟩, g3, g4⟩ ga
  have hG : VG lc := ⟨by have : lc.length * 32 ≤ _ := g1; omega, fun c hc => by have := (g2 c hc).2.1; omega⟩
  have g1' : lc.length * 32 ≤ 140737488351232 := g1
  have g3' : lr.length * 8 ≤ 140737488351232 := g3
  have hkv := kv_ev lc lr hG
  have hkc := kc_ev lc (fun c hc => by have := (g2 c hc).2.1; omega)
  obtain ⟨K1, hK1⟩ := id hkv
  obtain ⟨K4, hK4⟩ := rview_f lc lr hG (by omega)
  have ha : 0 ≤ a ∧ a ≤ 255 := by simpa [Lit.wf, IntKind.min, IntKind.max, IntKind.signed, IntKind.bits] using ga
  have w : ∀ z : Int, 0 ≤ z → z ≤ 100000 → wrap64 z = z := fun z h0 h1 => by unfold wrap64; omega
  show ∃ k, atticlaw19_MarkReach.f k lc lr a = some true
  by_cases hgo : viewB lc lr = true ∧ lc.length ≤ 40 ∧ lr.length ≤ 40
  · obtain ⟨hv, hl, hr⟩ := hgo
    have hbd := bound_le hl hr
    obtain ⟨R, hR, hE⟩ := reach_f hv hkc (by omega)
    have h0 := reach_l0' (room := 1 + a) hv hl hR hkv hkc (B := boundN lc.length lr.length) (by omega) (boundN lc.length lr.length) 0 (st0 lc) (by omega) (ok0 lc lr (by omega) (by omega)) (inv0 lc lr) (sub0 lc R) (phi_st0 lc lr)
    obtain ⟨K5, hK5⟩ := h0
    obtain ⟨K6, hK6⟩ := hE
    obtain ⟨k, hk⟩ : ∃ k, k = K1 + K4 + K5 + K6 + 3000 := ⟨_, rfl⟩
    refine ⟨k + 1, ?_⟩
    have h6 : atticref19_Reach.f k lc lr = some R := hK6 k (by omega)
    unfold atticlaw19_MarkReach.f
    rw [w a (by omega) (by omega), w (1 + a) (by omega) (by omega), new_f (hK1 (k + 1) (by omega)) (by omega) (by omega) (by omega), Option.bind_some, live_k (by omega), Option.bind_some, if_pos rfl]
    simp only [if_pos hv, MS.tup, st0]
    rw [if_pos True.intro, atticlaw19_few.f, if_pos (by omega), Option.bind_some, decide_eq_true (show (lr.length : Int) ≤ 40 by omega), atticlaw19_MarkReach.j0, Bool.not_true, if_neg Bool.false_ne_true, h6, Option.bind_some, bound_f hl hr, Option.bind_some]
    exact hK5 k (by omega)
  · obtain ⟨k, hk⟩ : ∃ k, k = K1 + K4 + 3000 := ⟨_, rfl⟩
    refine ⟨k + 1, ?_⟩
    unfold atticlaw19_MarkReach.f
    rw [w a (by omega) (by omega), w (1 + a) (by omega) (by omega), new_f (hK1 (k + 1) (by omega)) (by omega) (by omega) (by omega), Option.bind_some, live_k (by omega), Option.bind_some, if_pos rfl]
    by_cases hv : viewB lc lr = true
    · simp only [if_pos hv, MS.tup, st0]
      rw [if_pos True.intro, atticlaw19_few.f]
      by_cases hl : (lc.length : Int) ≤ 40
      · rw [if_pos hl, Option.bind_some, decide_eq_false (show ¬ (lr.length : Int) ≤ 40 from fun h => hgo ⟨hv, by omega, by omega⟩), atticlaw19_MarkReach.j0, Bool.not_false, if_pos rfl, live_k (by omega), Option.bind_some, if_pos rfl, if_pos rfl]
      · rw [if_neg hl, Option.bind_some, atticlaw19_MarkReach.j0, Bool.not_false, if_pos rfl, live_k (by omega), Option.bind_some, if_pos rfl, if_pos rfl]
    · simp only [if_neg hv, MS.tup]
      have h4 : atticref19_CheckView.f k lc lr = some 190 := (hK4 k (by omega)).trans (by rw [if_neg hv])
      rw [if_neg (by decide), atticlaw19_MarkReach.j0, if_pos rfl, live_k (by omega), Option.bind_some, if_pos rfl, if_neg (by decide), h4, Option.bind_some]
      rfl
end Go.Proofs.Ytnmpmjbkelogaaa.Pure
