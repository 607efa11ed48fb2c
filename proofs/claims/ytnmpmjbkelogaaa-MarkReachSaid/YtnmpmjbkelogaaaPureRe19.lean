/- The document's reach: the least closed set with the roots. -/
import Derived.Test.YtnmpmjbkelogaaaPrint
import Derived.Test.YtnmpmjbkelogaaaPureN19
import Derived.Test.YtnmpmjbkelogaaaPureL19
import Derived.Test.YtnmpmjbkelogaaaPureW19
namespace Go.Proofs.Ytnmpmjbkelogaaa.Pure
open Go.RowKit Go.Proofs.Ytnmpmjbkelogaaa.Print Go.Proofs.YtnmpmjbkelogaaaW.PrintWords Go.Proofs.YtnmpmjbkelogaaaW.PrintMore
set_option linter.unusedSimpArgs false
set_option linter.unusedVariables false

/-- Marks of so many cells, within every closed set with the roots. -/
structure Good (lc : List Cel) (lr : List Int) (m : List Bool) : Prop where
  len : m.length = lc.length
  sub : ∀ M, Closed lc M → Roots lr M → Sub m M
structure Fin_ (lc : List Cel) (lr : List Int) (M : List Bool) : Prop where
  good : Good lc lr M
  closed : Closed lc M
  roots : Roots lr M
theorem sub_set {m : List Bool} {i : Nat} (hi : i < m.length) : Sub m (m.set i true) := fun j hj => (set_getD m i j hi).2 (.inr hj)
section
variable {lc : List Cel} {lr : List Int}
theorem Good.set {m : List Bool} (hm : Good lc lr m) {p : Int} (p0 : 0 ≤ p) (p1 : p < (lc.length : Int)) (h : ∀ M, Closed lc M → Roots lr M → on M p.toNat) : Good lc lr (m.set p.toNat true) := by
  refine ⟨by rw [List.length_set]; exact hm.len, fun M hc hr j hj => ?_⟩
  rcases (set_getD m p.toNat j (by rw [hm.len]; omega)).1 hj with rfl | hj
  · exact h M hc hr
  · exact hm.sub M hc hr j hj
/-- What the loops of a pass may end with. -/
def Ends (lc : List Cel) (lr : List Int) (g : Nat → Option (List Bool)) : Prop := ∃ M, Fin_ lc lr M ∧ Ev g M
theorem Ends.step {g f : Nat → Option (List Bool)} (h : ∀ k, g (k + 1) = f k) (k : Ends lc lr f) : Ends lc lr g := by
  obtain ⟨M, hM, hE⟩ := k
  exact ⟨M, hM, Ev.step h hE⟩
theorem Ends.late {g f : Nat → Option (List Bool)} (n : Nat) (h : ∀ k, n ≤ k → g (k + 1) = f k) (k : Ends lc lr f) : Ends lc lr g := by
  obtain ⟨M, hM, hE⟩ := k
  exact ⟨M, hM, Ev.late n h hE⟩
theorem reach_l3 {u i : Nat} {l : List Int} (hll : l.length ≤ 9223372036854775806) (hl : ∀ p ∈ l, isThere lc p = true ∧ ∀ M, Closed lc M → Roots lr M → on M p.toNat)
    (next : ∀ m more, Good lc lr m → Roots lr m → (more = false → unm m ≤ u ∧ ∀ j, j < i + 1 → on m j → Fine lc m j) → (more = true → unm m < u) → Ends lc lr (fun k => atticref19_Reach.l2 k m more (wrap64 ((i : Int) + 1)) lc lr)) :
    ∀ (d q : Nat) (m : List Bool) (more : Bool), q + d = l.length → Good lc lr m → Roots lr m → (more = false → unm m ≤ u ∧ (∀ j, j < i → on m j → Fine lc m j) ∧ l = cnt lc m i ∧ ∀ p ∈ l.take q, on m p.toNat) → (more = true → unm m < u) →
      Ends lc lr (fun k => atticref19_Reach.l3 k m more (i : Int) l (q : Int) lc lr)
  | 0, q, m, more, hq, hg, hr, h0, h1 => by
    refine Ends.step (fun k => by rw [atticref19_Reach.l3, if_neg (by omega)]) (next m more hg hr (fun hm => ?_) h1)
    obtain ⟨a, b, c, d⟩ := h0 hm
    refine ⟨a, fun j hj ho => ?_⟩
    by_cases e : j = i
    · subst e
      intro p hp
      rw [← c] at hp
      exact d p (by rw [List.take_of_length_le (by omega)]; exact hp)
    · exact b j (by omega) ho
  | d + 1, q, m, more, hq, hg, hr, h0, h1 => by
    have hlt : q < l.length := by omega
    obtain ⟨ht, hM⟩ := hl _ (List.getElem_mem hlt)
    obtain ⟨t0, t1, _⟩ := there_in ht
    have hlen := hg.len
    by_cases hb : rdOf false m l[q] = true
    · refine Ends.step (fun k => ?_) (reach_l3 hll hl next d (q + 1) m more (by omega) hg hr (fun hm => ?_) h1)
      · rw [atticref19_Reach.l3, if_pos (by omega), if_pos (by omega), rd_in l q hlt, if_pos t0, if_pos (by omega), if_pos hb, wnat hlt (by omega)]
      · obtain ⟨a, b, c, e⟩ := h0 hm
        refine ⟨a, b, c, fun p hp => ?_⟩
        rw [List.take_succ_eq_append_getElem hlt] at hp
        rcases List.mem_append.1 hp with hp | hp
        · exact e p hp
        · rw [List.mem_singleton.1 hp]; exact hb
    · have hf : m.getD l[q].toNat false = false := by cases hbb : m.getD l[q].toNat false with | false => rfl | true => exact absurd hbb hb
      have hu := unm_set m l[q].toNat (by omega) hf
      have hu2 : unm (m.set l[q].toNat true) < u := by
        cases hmo : more with
        | false => have := (h0 hmo).1; omega
        | true => have := h1 hmo; omega
      refine Ends.step (fun k => ?_) (reach_l3 hll hl next d (q + 1) (m.set l[q].toNat true) true (by omega) (hg.set t0 t1 hM) (fun r hrr => sub_set (by omega) _ (hr r hrr)) (fun h => by cases h) (fun _ => hu2))
      rw [atticref19_Reach.l3, if_pos (by omega), if_pos (by omega), rd_in l q hlt, if_pos t0, if_pos (by omega), if_neg hb, wnat hlt (by omega)]
theorem reach_l2 (hv : viewB lc lr = true) (hkc : ∃ K, ∀ k, K ≤ k → Kc lc k) {u : Nat} (again : ∀ m, Good lc lr m → Roots lr m → unm m < u → Ends lc lr (fun k => atticref19_Reach.l1 k m true lc lr)) :
    ∀ (d i : Nat) (m : List Bool) (more : Bool), i + d = lc.length → Good lc lr m → Roots lr m → (more = false → unm m ≤ u ∧ ∀ j, j < i → on m j → Fine lc m j) → (more = true → unm m < u) →
      Ends lc lr (fun k => atticref19_Reach.l2 k m more (i : Int) lc lr)
  | 0, i, m, more, hi, hg, hr, h0, h1 => by
    have hlen := hg.len
    refine Ends.step (f := fun k => atticref19_Reach.l1 k m more lc lr) (fun k => by rw [atticref19_Reach.l2, if_neg (by omega)]) ?_
    cases more with
    | true => exact again m hg hr (h1 rfl)
    | false => exact ⟨m, ⟨hg, fun j hj ho => (h0 rfl).2 j (by omega) ho, hr⟩, Ev.step (f := fun _ => some m) (fun k => by rw [atticref19_Reach.l1, if_neg Bool.false_ne_true]) (Ev.now _)⟩
  | d + 1, i, m, more, hi, hg, hr, h0, h1 => by
    obtain ⟨v1, v2, v3⟩ := view_in hv
    have hlt : i < lc.length := by omega
    have hlen := hg.len
    have hw : wrap64 ((i : Int) + 1) = ((i + 1 : Nat) : Int) := wnat hlt (by omega)
    have ih := reach_l2 hv hkc again d (i + 1)
    by_cases hb : rdOf false m (i : Int) = true
    · obtain ⟨K, hK⟩ := hkc
      obtain ⟨c1, c2⟩ := hK K (Nat.le_refl _) _ (List.getElem_mem hlt)
      have hcl : (cnt lc m i).length ≤ lc[i].f1.length := cnt_len lc m i hlt
      refine Ends.late K (f := fun k => atticref19_Reach.l3 k m more (i : Int) (cnt lc m i) ((0 : Nat) : Int) lc lr) (fun k hk => ?_) (reach_l3 (u := u) (by omega) (fun p hp => ⟨cnt_there hv m i p hp, fun M hc hr' => ?_⟩) (fun m more hg hr h0 h1 => ?_) (cnt lc m i).length 0 m more (by omega) hg hr (fun hm => ⟨(h0 hm).1, (h0 hm).2, rfl, fun p hp => ?_⟩) h1)
      · obtain ⟨d1, d2⟩ := hK k hk _ (List.getElem_mem hlt)
        rw [atticref19_Reach.l2, if_pos (by omega), if_pos (by omega), if_pos hb, rcounts_f lc lr m i k hlt hlen hv (by omega) (by omega), Option.bind_some]
        rfl
      · have hs := hg.sub M hc hr'
        exact hc i hlt (hs i hb) p (cnt_mono hs hlt p hp)
      · rw [hw]; exact ih m more (by omega) hg hr h0 h1
      · rw [List.take_zero] at hp; cases hp
    · refine Ends.step (fun k => ?_) (ih m more (by omega) hg hr (fun hm => ⟨(h0 hm).1, fun j hj ho => ?_⟩) h1)
      · rw [atticref19_Reach.l2, if_pos (by omega), if_pos (by omega), if_neg hb, hw]
      · by_cases e : j = i
        · subst e; exact absurd ho hb
        · exact (h0 hm).2 j (by omega) ho
theorem reach_l1 (hv : viewB lc lr = true) (hkc : ∃ K, ∀ k, K ≤ k → Kc lc k) : ∀ (u : Nat) (m : List Bool), Good lc lr m → Roots lr m → unm m ≤ u → Ends lc lr (fun k => atticref19_Reach.l1 k m true lc lr)
  | u, m, hg, hr, hu => by
    refine Ends.step (f := fun k => atticref19_Reach.l2 k m false ((0 : Nat) : Int) lc lr) (fun k => by rw [atticref19_Reach.l1, if_pos rfl]; rfl) (reach_l2 (u := u) hv hkc (fun m' hg' hr' hu' => ?_) lc.length 0 m false (by omega) hg hr (fun _ => ⟨hu, fun j hj => by omega⟩) (fun h => by cases h))
    match u, hu' with
    | u + 1, hu' => exact reach_l1 hv hkc u m' hg' hr' (by omega)
theorem reach_l0 (hv : viewB lc lr = true) (hkc : ∃ K, ∀ k, K ≤ k → Kc lc k) (hl : lr.length ≤ 9223372036854775806) : ∀ (d i : Nat) (m : List Bool), i + d = lr.length → Good lc lr m → (∀ r ∈ lr.take i, on m r.toNat) → Ends lc lr (fun k => atticref19_Reach.l0 k m (i : Int) lc lr)
  | 0, i, m, hi, hg, hr => by
    rw [List.take_of_length_le (by omega)] at hr
    exact Ends.step (fun k => by rw [atticref19_Reach.l0, if_neg (by omega)]) (reach_l1 hv hkc (unm m) m hg hr (Nat.le_refl _))
  | d + 1, i, m, hi, hg, hr => by
    obtain ⟨v1, v2, v3⟩ := view_in hv
    have hlt : i < lr.length := by omega
    have hlen := hg.len
    obtain ⟨t0, t1, _⟩ := there_in (v3 _ (List.getElem_mem hlt))
    refine Ends.step (fun k => ?_) (reach_l0 hv hkc hl d (i + 1) (m.set lr[i].toNat true) (by omega) (hg.set t0 t1 fun M _ hR => hR _ (List.getElem_mem hlt)) fun r hrr => ?_)
    · rw [atticref19_Reach.l0, if_pos (by omega), if_pos (by omega), rd_in lr i hlt, if_pos t0, if_pos (by omega), wnat hlt (by omega)]
    · rw [List.take_succ_eq_append_getElem hlt] at hrr
      rcases List.mem_append.1 hrr with hrr | hrr
      · exact sub_set (by omega) _ (hr r hrr)
      · rw [List.mem_singleton.1 hrr]; exact (set_getD m lr[i].toNat lr[i].toNat (by omega)).2 (.inl rfl)
theorem reach_f (hv : viewB lc lr = true) (hkc : ∃ K, ∀ k, K ≤ k → Kc lc k) (hl : lr.length ≤ 9223372036854775806) : Ends lc lr (fun k => atticref19_Reach.f k lc lr) := by
  obtain ⟨v1, v2, v3⟩ := view_in hv
  obtain ⟨M, hM, hE⟩ := reach_l0 hv hkc hl lr.length 0 (List.replicate lc.length false) (by omega) ⟨by simp, fun M _ _ => sub0 lc M⟩ (fun r hr => by rw [List.take_zero] at hr; cases hr)
  refine ⟨M, hM, ?_⟩
  obtain ⟨K, hK⟩ := hE
  refine ⟨K, fun k hk => ?_⟩
  have := hK k hk
  show atticref19_Reach.f k lc lr = some M
  unfold atticref19_Reach.f
  rw [if_pos (by omega), if_pos (by omega), Int.toNat_natCast]
  exact this
end
end Go.Proofs.Ytnmpmjbkelogaaa.Pure
