/- Until the first scan, as long as nothing had no room, no black cell has a white one: the law's pure part. -/
import Derived.Test.YtnmpmjbkelogaaaPrint
import Derived.Test.YtnmpmjbkelogaaaPureN19
import Derived.Test.YtnmpmjbkelogaaaPureX19
namespace Go.Proofs.Ytnmpmjbkelogaaa.Pure
open Go.RowKit Go.Proofs.Ytnmpmjbkelogaaa.Print Go.Proofs.YtnmpmjbkelogaaaW.PrintWords Go.Proofs.YtnmpmjbkelogaaaW.PrintMore
set_option linter.unusedSimpArgs false
set_option linter.unusedVariables false

theorem index_f (v : Int) (l : List Int) (hl : l.length ≤ 9223372036854775806) : ∀ (m j k : Nat), j + m = l.length → m < k → ∃ r, slices_Index_int_int.l0 k l v (l.length : Int) (j : Int) = some r ∧ (0 ≤ r ↔ v ∈ l.drop j)
  | 0, j, k, hj, hk => by
    obtain ⟨k, rfl⟩ : ∃ k', k = k' + 1 := ⟨k - 1, by omega⟩
    rw [slices_Index_int_int.l0, if_neg (by omega), List.drop_eq_nil_of_le (by omega)]
    exact ⟨-1, rfl, by simp⟩
  | m + 1, j, k, hj, hk => by
    obtain ⟨k, rfl⟩ : ∃ k', k = k' + 1 := ⟨k - 1, by omega⟩
    have hlt : j < l.length := by omega
    rw [slices_Index_int_int.l0, if_pos (by omega), if_pos (by omega), if_pos (by omega), rd_in l j hlt, List.drop_eq_getElem_cons hlt, wnat hlt (by omega)]
    by_cases h : v = l[j]
    · rw [if_pos h]; exact ⟨_, rfl, fun _ => by rw [h]; exact List.mem_cons_self, fun _ => by omega⟩
    · rw [if_neg h]
      obtain ⟨r, h1, h2⟩ := index_f v l hl m (j + 1) k (by omega) (by omega)
      exact ⟨r, h1, h2.trans ⟨fun h' => List.mem_cons_of_mem _ h', fun h' => (List.mem_cons.1 h').resolve_left h⟩⟩
theorem has_f (v : Int) (l : List Int) (hl : l.length ≤ 9223372036854775806) {k : Nat} (hk : l.length < k) : slices_Contains_int_int.f k l v = some (decide (v ∈ l)) := by
  obtain ⟨r, h1, h2⟩ := index_f v l hl l.length 0 k (by omega) hk
  unfold slices_Contains_int_int.f slices_Index_int_int.f
  rw [show (0 : Int) = ((0 : Nat) : Int) from rfl, h1, Option.bind_some]
  rw [List.drop_zero] at h2
  have : (r ≥ ((0 : Nat) : Int)) ↔ v ∈ l := h2
  simp only [this]
/-- What a law's round may lean on. -/
def Nice (lc : List Cel) (x : MS) : Prop := ∀ i : Nat, i < lc.length → on x.marks i → (i : Int) ∉ x.stack → kd lc i ≠ 3 → Fine lc x.marks i
section
variable {lc : List Cel} {lr : List Int} {room b j : Int} {x : MS}
theorem black_l2 {l : List Int} {i : Int} (hl : l.length ≤ 9223372036854775807) (hf : ∀ p ∈ l, p ≠ -1 → on x.marks p.toNat) {r : Bool} (hr : Ev (fun k => atticlaw19_MarkBlack.l1 k room b j lc (lc.length : Int) (wrap64 (i + 1)) lc lr x.ph x.at_ x.marks x.stack x.over x.again x.scan) r) :
    ∀ (m q : Nat), q + m = l.length → Ev (fun k => atticlaw19_MarkBlack.l2 k room b j lc (lc.length : Int) i l (l.length : Int) (q : Int) lc lr x.ph x.at_ x.marks x.stack x.over x.again x.scan) r
  | 0, q, hq => Ev.step (fun k => by rw [atticlaw19_MarkBlack.l2, if_neg (by omega)]) hr
  | m + 1, q, hq => by
    have hlt : q < l.length := by omega
    refine Ev.step (fun k => ?_) (black_l2 hl hf hr m (q + 1) (by omega))
    rw [atticlaw19_MarkBlack.l2, if_pos (by omega), if_pos (by omega), if_pos (by omega), rd_in l q hlt, wnat hlt hl]
    by_cases h0 : l[q] ≥ 0
    · rw [if_pos h0]
      by_cases h1 : l[q] < (x.marks.length : Int)
      · have hm : rdOf false x.marks l[q] = true := hf _ (List.getElem_mem hlt) (by omega)
        rw [if_pos h1, if_pos h0, if_pos hm]
      · rw [if_neg h1]
    · rw [if_neg h0]
theorem black_l1 (hG : VG lc) (hml : x.marks.length = lc.length) (hsl : x.stack.length ≤ 256) (hA : Nice lc x) {r : Bool}
    (hr : Ev (fun k => (mark_Step.f k lc lr room x.ph x.at_ x.marks x.stack x.over x.again x.scan).bind fun y => atticlaw19_MarkBlack.l0 k room b (wrap64 (j + 1)) lc lr y.1 y.2.1 y.2.2.1 y.2.2.2.1 y.2.2.2.2.1 y.2.2.2.2.2.1 y.2.2.2.2.2.2.1) r) :
    ∀ (m i : Nat), i + m = lc.length → Ev (fun k => atticlaw19_MarkBlack.l1 k room b j lc (lc.length : Int) (i : Int) lc lr x.ph x.at_ x.marks x.stack x.over x.again x.scan) r
  | 0, i, hi => Ev.step (fun k => by rw [atticlaw19_MarkBlack.l1, if_neg (by omega)]) hr
  | m + 1, i, hi => by
    have hlt : i < lc.length := by omega
    have ih := black_l1 hG hml hsl hA hr m (i + 1) (by omega)
    have hw : wrap64 ((i : Int) + 1) = ((i + 1 : Nat) : Int) := wnat hlt (by have := hG.1; omega)
    rw [← hw] at ih
    have skip : ∀ u v, Ev (fun k => atticlaw19_MarkBlack.j4 k room b j lc (lc.length : Int) (i : Int) true lc lr x.ph x.at_ x.marks x.stack x.over x.again x.scan u v) r := fun u v => Ev.step (fun k => by rw [atticlaw19_MarkBlack.j4, if_pos rfl]) ih
    by_cases hk : lc[i].f0 = 1
    · by_cases hm : rdOf false x.marks (i : Int) = true
      · by_cases hs : (i : Int) ∈ x.stack
        · refine Ev.late 300 (fun k hk' => ?_) (skip lc[i].f0 lc[i].f1)
          rw [atticlaw19_MarkBlack.l1, if_pos (by omega), if_pos (by omega), if_pos (by omega), rdT_in lc i hlt, if_pos hk, if_neg (by omega), if_pos (by omega), if_pos hm, has_f _ _ (by omega) (by omega), Option.bind_some, decide_eq_true hs]
        · have h3 : kd lc i ≠ 3 := by rw [kd_in hlt]; omega
          have hf := hA i hlt hm hs h3
          have hf' : ∀ p ∈ lc[i].f1, p ≠ -1 → on x.marks p.toNat := fun p hp hne => hf p (by
            rw [cnt_in lc _ i hlt, if_neg (by omega), if_neg (by omega)]
            exact List.mem_filter.2 ⟨hp, by simpa using hne⟩)
          have hc := hG.2 _ (List.getElem_mem hlt)
          refine Ev.late 300 (fun k hk' => ?_) (Ev.step (g := fun k => atticlaw19_MarkBlack.j4 k room b j lc (lc.length : Int) (i : Int) false lc lr x.ph x.at_ x.marks x.stack x.over x.again x.scan lc[i].f0 lc[i].f1) (f := fun k => atticlaw19_MarkBlack.l2 k room b j lc (lc.length : Int) (i : Int) lc[i].f1 (lc[i].f1.length : Int) ((0 : Nat) : Int) lc lr x.ph x.at_ x.marks x.stack x.over x.again x.scan) (fun k => ?_) (black_l2 (l := lc[i].f1) hc hf' ih lc[i].f1.length 0 (by omega)))
          · rw [atticlaw19_MarkBlack.l1, if_pos (by omega), if_pos (by omega), if_pos (by omega), rdT_in lc i hlt, if_pos hk, if_neg (by omega), if_pos (by omega), if_pos hm, has_f _ _ (by omega) (by omega), Option.bind_some, decide_eq_false hs]
          · rw [atticlaw19_MarkBlack.j4, if_neg Bool.false_ne_true]; rfl
      · refine Ev.step (fun k => ?_) (skip lc[i].f0 lc[i].f1)
        rw [atticlaw19_MarkBlack.l1, if_pos (by omega), if_pos (by omega), if_pos (by omega), rdT_in lc i hlt, if_pos hk, if_neg (by omega), if_pos (by omega), if_neg hm]
    · refine Ev.step (fun k => ?_) (skip lc[i].f0 lc[i].f1)
      rw [atticlaw19_MarkBlack.l1, if_pos (by omega), if_pos (by omega), if_pos (by omega), rdT_in lc i hlt, if_neg hk]
theorem black_l0 (hv : viewB lc lr = true) (hG : VG lc) (hl : lc.length ≤ 40) (hkv : ∃ K, ∀ k, K ≤ k → Kv lc lr k) (hkc : ∃ K, ∀ k, K ≤ k → Kc lc k) {B : Nat} (hB : B < 1000000) :
    ∀ (m q : Nat) (x : MS), q + m = B → Ok lc lr room x → Inv lc lr x → Phi lc.length lr.length x ≤ m → Ev (fun k => atticlaw19_MarkBlack.l0 k room (B : Int) (q : Int) lc lr x.ph x.at_ x.marks x.stack x.over x.again x.scan) true
  | m, q, x, hq, hO, hI, hp => by
    have hph : ¬ x.ph > 1 → x.ph = 0 ∨ x.ph = 1 := fun h => by have := ph_in hO; omega
    match m, hq, hp with
    | 0, hq, hp =>
      have h1 : x.ph > 1 := by
        refine Classical.byContradiction fun h => ?_
        rcases hph h with h | h
        · rw [phi0 h] at hp; omega
        · cases hs : x.scan with
          | false => rw [phi1 h hs] at hp; omega
          | true => rw [phi1s h hs] at hp; omega
      exact Ev.step (f := fun _ => some true) (fun k => by rw [atticlaw19_MarkBlack.l0, if_neg (by omega), if_pos h1]) (Ev.now _)
    | m + 1, hq, hp =>
      have yes : Ev (fun k => atticlaw19_MarkBlack.j2 k room (B : Int) (q : Int) true lc lr x.ph x.at_ x.marks x.stack x.over x.again x.scan) true := Ev.step (f := fun _ => some true) (fun k => by rw [atticlaw19_MarkBlack.j2, if_pos rfl]) (Ev.now _)
      by_cases h1 : x.ph > 1
      · exact Ev.step (fun k => by rw [atticlaw19_MarkBlack.l0, if_pos (by omega), if_pos h1]) yes
      · cases ho : x.over with
        | true => rw [ho] at yes; exact Ev.step (fun k => by rw [atticlaw19_MarkBlack.l0, if_pos (by omega), if_neg h1, if_pos rfl]) yes
        | false =>
          cases hsc : x.scan with
          | true => rw [ho, hsc] at yes; exact Ev.step (fun k => by rw [atticlaw19_MarkBlack.l0, if_pos (by omega), if_neg h1, if_neg Bool.false_ne_true]) yes
          | false =>
            have h3 : x.ph ≠ 3 := by omega
            have hA : Nice lc x := by
              rcases hI.A (by rcases hph h1 with h | h; exact .inl h; exact .inr ⟨h, hsc⟩) with h | h
              · rw [ho] at h; cases h
              · exact fun i hi hm hs hk => h i hi (fun h => h) hm hs hk
            obtain ⟨K, y, hst, hu, hw⟩ := stepping hv hl hkv hkc hO h3
            have hpy := phi_way hv hO hI hw
            have ih := black_l0 hv hG hl hkv hkc hB m (q + 1) y (by omega) hu (inv_way hv hO hI hw) (by omega)
            have next : Ev (fun k => (mark_Step.f k lc lr room x.ph x.at_ x.marks x.stack x.over x.again x.scan).bind fun z => atticlaw19_MarkBlack.l0 k room (B : Int) (wrap64 ((q : Int) + 1)) lc lr z.1 z.2.1 z.2.2.1 z.2.2.2.1 z.2.2.2.2.1 z.2.2.2.2.2.1 z.2.2.2.2.2.2.1) true := by
              rw [wsucc (show q < 1000000000 by omega)]
              obtain ⟨K3, hK3⟩ := ih
              refine ⟨K + K3, fun k hk => ?_⟩
              show (mark_Step.f k lc lr room x.ph x.at_ x.marks x.stack x.over x.again x.scan).bind _ = _
              rw [hst k (by omega), Option.bind_some]
              exact hK3 k (by omega)
            have hs256 : x.stack.length ≤ 256 := by have := hO.bs.sl; have := hO.r1; omega
            have h := black_l1 (lr := lr) (room := room) (b := (B : Int)) (j := (q : Int)) (x := x) hG hO.bs.ml hs256 hA next lc.length 0 (by omega)
            rw [ho, hsc] at h
            refine Ev.step (fun k => ?_) (Ev.step (f := fun k => atticlaw19_MarkBlack.l1 k room (B : Int) (q : Int) lc (lc.length : Int) ((0 : Nat) : Int) lc lr x.ph x.at_ x.marks x.stack false x.again false) (g := fun k => atticlaw19_MarkBlack.j2 k room (B : Int) (q : Int) false lc lr x.ph x.at_ x.marks x.stack false x.again false) (fun k => ?_) h)
            · rw [atticlaw19_MarkBlack.l0, if_pos (by omega), if_neg h1, if_neg Bool.false_ne_true]
            · rw [atticlaw19_MarkBlack.j2, if_neg Bool.false_ne_true]; rfl
end
theorem MarkBlack : atticlaw19_MarkBlack.Pure := by
  rintro ⟨lc, lr⟩ a ⟨⟨g1, g2⟩, g3, g4⟩ ga
  have hG : VG lc := ⟨by have : lc.length * 32 ≤ _ := g1; omega, fun c hc => by have := (g2 c hc).2.1; omega⟩
  have g1' : lc.length * 32 ≤ 140737488351232 := g1
  have g3' : lr.length * 8 ≤ 140737488351232 := g3
  have hkv := kv_ev lc lr hG
  have hkc := kc_ev lc (fun c hc => by have := (g2 c hc).2.1; omega)
  obtain ⟨K1, hK1⟩ := id hkv
  obtain ⟨K4, hK4⟩ := rview_f lc lr hG (by omega)
  have ha : 0 ≤ a ∧ a ≤ 255 := by simpa [Lit.wf, IntKind.min, IntKind.max, IntKind.signed, IntKind.bits] using ga
  have w : ∀ z : Int, 0 ≤ z → z ≤ 100000 → wrap64 z = z := fun z h0 h1 => by unfold wrap64; omega
  show ∃ k, atticlaw19_MarkBlack.f k lc lr a = some true
  by_cases hgo : viewB lc lr = true ∧ lc.length ≤ 40 ∧ lr.length ≤ 40
  · obtain ⟨hv, hl, hr⟩ := hgo
    have hbd := bound_le hl hr
    have h0 := black_l0 (room := 1 + a) hv hG hl hkv hkc (B := boundN lc.length lr.length) (by omega) (boundN lc.length lr.length) 0 (st0 lc) (by omega) (ok0 lc lr (by omega) (by omega)) (inv0 lc lr) (phi_st0 lc lr)
    obtain ⟨K5, hK5⟩ := h0
    obtain ⟨k, hk⟩ : ∃ k, k = K1 + K4 + K5 + 3000 := ⟨_, rfl⟩
    refine ⟨k + 1, ?_⟩
    unfold atticlaw19_MarkBlack.f
    rw [w a (by omega) (by omega), w (1 + a) (by omega) (by omega), new_f (hK1 (k + 1) (by omega)) (by omega) (by omega) (by omega), Option.bind_some, live_k (by omega), Option.bind_some, if_pos rfl]
    simp only [if_pos hv, MS.tup, st0]
    rw [if_pos True.intro, atticlaw19_few.f, if_pos (by omega), Option.bind_some, decide_eq_true (show (lr.length : Int) ≤ 40 by omega), atticlaw19_MarkBlack.j0, Bool.not_true, if_neg Bool.false_ne_true, bound_f hl hr, Option.bind_some]
    exact hK5 k (by omega)
  · obtain ⟨k, hk⟩ : ∃ k, k = K1 + K4 + 3000 := ⟨_, rfl⟩
    refine ⟨k + 1, ?_⟩
    unfold atticlaw19_MarkBlack.f
    rw [w a (by omega) (by omega), w (1 + a) (by omega) (by omega), new_f (hK1 (k + 1) (by omega)) (by omega) (by omega) (by omega), Option.bind_some, live_k (by omega), Option.bind_some, if_pos rfl]
    by_cases hv : viewB lc lr = true
    · simp only [if_pos hv, MS.tup, st0]
      rw [if_pos True.intro, atticlaw19_few.f]
      by_cases hl : (lc.length : Int) ≤ 40
      · rw [if_pos hl, Option.bind_some, decide_eq_false (show ¬ (lr.length : Int) ≤ 40 from fun h => hgo ⟨hv, by omega, by omega⟩), atticlaw19_MarkBlack.j0, Bool.not_false, if_pos rfl, live_k (by omega), Option.bind_some, if_pos rfl, if_pos rfl]
      · rw [if_neg hl, Option.bind_some, atticlaw19_MarkBlack.j0, Bool.not_false, if_pos rfl, live_k (by omega), Option.bind_some, if_pos rfl, if_pos rfl]
    · simp only [if_neg hv, MS.tup]
      have h4 : atticref19_CheckView.f k lc lr = some 190 := (hK4 k (by omega)).trans (by rw [if_neg hv])
      rw [if_neg (by decide), atticlaw19_MarkBlack.j0, if_pos rfl, live_k (by omega), Option.bind_some, if_pos rfl, if_neg (by decide), h4, Option.bind_some]
      rfl
end Go.Proofs.Ytnmpmjbkelogaaa.Pure
