/- What the small machine's operations do, the model's do: maps; all of them (the session's own). -/
import Derived.Test.YtchjiocljlbhkaaMill6
namespace Go.Proofs.YtchjiocljlbhkaaW.Mill
open Go Go.RowKit
set_option linter.unusedVariables false
set_option linter.unusedSimpArgs false
section
variable {P : Program} {base : Nat} {w0 w : World} {ρ : Rho} {s : AS}
/-! ### maps -/
theorem mapRel.length : ∀ {l : List (Value × Value × Nat)} {l' : List MapEntry}, mapRel ρ l l' → l'.length = l.length
  | [], [], _ => rfl
  | (_, _, _) :: _, _ :: _, ⟨_, _, _, _, h⟩ => by simp [mapRel.length h]
theorem mapRel.get : ∀ {l : List (Value × Value × Nat)} {l' : List MapEntry}, mapRel ρ l l' → ∀ (i : Nat) {k v : Value} {b : Nat}, l[i]? = some (k, v, b) → ∃ e, l'[i]? = some e ∧ plainV k = true ∧ e.key = k ∧ VR ρ v e.val ∧ e.born = b
  | [], [], _, i, k, v, b, h => by simp at h
  | (_, _, _) :: _, e :: _, ⟨a, b, c, d, h⟩, 0, k, v, q, hh => by simp at hh; obtain ⟨rfl, rfl, rfl⟩ := hh; exact ⟨e, rfl, a, b, c, d⟩
  | (_, _, _) :: _, _ :: _, ⟨_, _, _, _, h⟩, i + 1, k, v, b, hh => mapRel.get h i (by simpa using hh)
theorem mapRel.set {k v : Value} {b : Nat} {e : MapEntry} (h1 : plainV k = true) (h2 : e.key = k) (h3 : VR ρ v e.val) (h4 : e.born = b) : ∀ {l : List (Value × Value × Nat)} {l' : List MapEntry}, mapRel ρ l l' → ∀ (i : Nat), mapRel ρ (l.set i (k, v, b)) (l'.set i e)
  | [], [], _, i => trivial
  | (_, _, _) :: _, _ :: _, ⟨_, _, _, _, h⟩, 0 => ⟨h1, h2, h3, h4, h⟩
  | (_, _, _) :: _, _ :: _, ⟨a, b, c, d, h⟩, i + 1 => ⟨a, b, c, d, mapRel.set h1 h2 h3 h4 h i⟩
theorem mapRel.push {k v : Value} {b : Nat} {e : MapEntry} (h1 : plainV k = true) (h2 : e.key = k) (h3 : VR ρ v e.val) (h4 : e.born = b) : ∀ {l : List (Value × Value × Nat)} {l' : List MapEntry}, mapRel ρ l l' → mapRel ρ (l ++ [(k, v, b)]) (l' ++ [e])
  | [], [], _ => ⟨h1, h2, h3, h4, trivial⟩
  | (_, _, _) :: _, _ :: _, ⟨a, b, c, d, h⟩ => ⟨a, b, c, d, mapRel.push h1 h2 h3 h4 h⟩
theorem mapRel.erase : ∀ {l : List (Value × Value × Nat)} {l' : List MapEntry}, mapRel ρ l l' → ∀ (i : Nat), mapRel ρ (l.eraseIdx i) (l'.eraseIdx i)
  | [], [], _, i => trivial
  | (_, _, _) :: _, _ :: _, ⟨_, _, _, _, h⟩, 0 => h
  | (_, _, _) :: _, _ :: _, ⟨a, b, c, d, h⟩, i + 1 => ⟨a, b, c, d, mapRel.erase h i⟩
theorem sameNow_equal {kt : TypeId} {d : TypeDesc} {a b : Value} {r : Bool} (hd : P.underlying kt = some d) (h : Instr.sameNow d a b = some r) (w : World) : (Op.equal kt a b).run P w = .ok r w := by
  unfold Instr.sameNow at h
  split at h
  · rename_i k n k' n'
    by_cases e : k = k'
    · rw [if_pos e] at h; cases h; subst e
      exact (run_equalIn_int w 9999 kt k _ n n' hd).trans (by simp)
    · rw [if_neg e] at h; cases h
  · cases h
    rename_i a b
    have e : Op.equal kt (.string a) (.string b) = Op.equalIn (9999 + 1) kt (.string a) (.string b) := rfl
    rw [e, Op.equalIn]
    simp only [Sem.run_bind, run_underlying hd, Result.andThen, Sem.run_pure]
  · cases h; exact run_equalIn_bool' w 9999 kt _ _ hd
  · cases h
/-- What the search in a map comes to. -/
def FindR (es : List (Value × Value × Nat)) (es' : List MapEntry) (i0 : Nat) : Option (Nat × Value) → Option (Nat × Value) → Prop
  | none, none => True
  | some (i, v), some (j, v') => ∃ q k b e, i = i0 + q ∧ j = i ∧ es[q]? = some (k, v, b) ∧ es'[q]? = some e ∧ v' = e.val
  | _, _ => False
theorem FindR.step {es : List (Value × Value × Nat)} {es' : List MapEntry} {i0 : Nat} {x : Value × Value × Nat} {e : MapEntry} : ∀ {r r' : Option (Nat × Value)}, FindR es es' (i0 + 1) r r' → FindR (x :: es) (e :: es') i0 r r'
  | none, none, _ => trivial
  | some (i, v), some (j, v'), ⟨q, k, b, e, h1, h2, h3, h4, h5⟩ => ⟨q + 1, k, b, e, by omega, h2, by simpa using h3, by simpa using h4, h5⟩
theorem findNow_ok {kt : TypeId} {d : TypeDesc} {k : Value} (hd : P.underlying kt = some d) : ∀ {es : List (Value × Value × Nat)} {es' : List MapEntry} {i : Nat} {r r' : Option (Nat × Value)}, mapRel ρ es es' → aFind P kt k es i = some r → Instr.findNow d k es' i = some r' → FindR es es' i r r'
  | [], [], i, r, r', _, h, h' => by cases h; cases h'; trivial
  | (key, v, b) :: es, e :: es', i, r, r', ⟨a, hb, c, dd, hh⟩, h, h' => by
    subst hb
    unfold aFind at h
    unfold Instr.findNow at h'
    cases hc : calm P (Op.equal kt k e.key) with
    | none => rw [hc] at h; cases h
    | some q =>
      rw [hc] at h
      have h1 := calm_run hc default
      cases hs : Instr.sameNow d k e.key with
      | none => rw [hs] at h'; cases h'
      | some q' =>
        rw [hs] at h'
        have h2 := sameNow_equal hd hs (default : World)
        rw [h1] at h2
        have e1 : q = q' := by injection h2
        subst e1
        cases q with
        | true => cases h; cases h'; exact ⟨0, _, _, e, rfl, rfl, rfl, rfl, rfl⟩
        | false => exact (findNow_ok hd hh h h').step
theorem findAsking_ok {kt : TypeId} {k : Value} : ∀ {es : List (Value × Value × Nat)} {es' : List MapEntry} {i : Nat} {r : Option (Nat × Value)}, mapRel ρ es es' → aFind P kt k es i = some r → ∃ r', (Instr.findAsking kt k es' i).run P w = .ok r' w ∧ FindR es es' i r r'
  | [], [], i, r, _, h => by cases h; exact ⟨none, rfl, trivial⟩
  | (key, v, b) :: es, e :: es', i, r, ⟨a, hb, c, dd, hh⟩, h => by
    subst hb
    unfold aFind at h
    cases hc : calm P (Op.equal kt k e.key) with
    | none => rw [hc] at h; cases h
    | some q =>
      rw [hc] at h
      have h1 := calm_run hc w
      cases q with
      | true => cases h; exact ⟨some (i, e.val), by simp [Instr.findAsking, h1], 0, _, _, e, rfl, rfl, rfl, rfl, rfl⟩
      | false =>
        obtain ⟨r', h2, h3⟩ := findAsking_ok hh h
        exact ⟨r', by simp [Instr.findAsking, h1, h2], h3.step⟩
theorem findKey_ok {kt : TypeId} {d : TypeDesc} {k : Value} {es : List (Value × Value × Nat)} {es' : List MapEntry} {r : Option (Nat × Value)} (hd : P.underlying kt = some d) (hm : mapRel ρ es es') (h : aFind P kt k es 0 = some r) : ∃ r', (Instr.findKey kt k es').run P w = .ok r' w ∧ FindR es es' 0 r r' := by
  cases hf : Instr.findNow d k es' 0 with
  | some r' => exact ⟨r', by simp [Instr.findKey, run_underlying hd, hf], findNow_ok hd hm h hf⟩
  | none =>
    obtain ⟨r', h1, h2⟩ := findAsking_ok (w := w) hm h
    exact ⟨r', by simp [Instr.findKey, run_underlying hd, hf, h1], h2⟩
theorem check_run {kt : TypeId} {b : Bool} {k : Value} (h : (calm P (Instr.checkKey b 10000 kt k)).isSome = true) (w : World) : (Instr.checkKey b 10000 kt k).run P w = .ok () w := by
  obtain ⟨u, hu⟩ := Option.isSome_iff_exists.1 h
  exact calm_run hu w
theorem mapTO_und {t kt et : TypeId} (h : mapTO P t = some (kt, et)) : P.underlying t = some (.map kt et) ∧ ∃ d, P.underlying kt = some d := by
  unfold mapTO at h
  cases hd : P.underlying t with
  | none => rw [hd] at h; cases h
  | some d =>
    rw [hd] at h
    cases d with
    | map k e => obtain ⟨d, h1, h2⟩ := Option.map_eq_some_iff.1 h; cases h2; exact ⟨rfl, d, h1⟩
    | _ => cases h
theorem own_map (h : HR P base w0 ρ s w) {b clock : Nat} {es : List (Value × Value × Nat)} {x : Ren} (hb : s.get b = some (.map es clock)) (hx : ρ b = some x) :
    ∃ es' : Array MapEntry, w.heap[x.r]? = some (.map es' clock) ∧ base ≤ x.r ∧ mapRel ρ es es'.toList := by
  obtain ⟨x', hx', hok⟩ := h.obj b _ hb
  rw [hx] at hx'; cases hx'
  exact hok
theorem upd_setObj {w : World} {r : Nat} {o O : Obj} (h : w.heap[r]? = some o) : Upd w { w with heap := w.heap.setIfInBounds r O } r O :=
  ⟨rfl, rfl, rfl, by simp, by simp [(Array.getElem?_eq_some_iff.1 h).1], fun k hk => by simp [Array.getElem?_setIfInBounds, Ne.symm hk]⟩
theorem run_setMap {w : World} {r clock : Nat} {es : Array MapEntry} (h : w.heap[r]? = some (.map es clock)) (O : Obj) : (setObj r O).run P w = .ok () { w with heap := w.heap.setIfInBounds r O } := by
  simp [setObj, Sem.run, h]
theorem run_getMap {w : World} {r clock : Nat} {es : Array MapEntry} (h : w.heap[r]? = some (.map es clock)) : (getObj r).run P w = .ok (.map es clock) w := by
  simp [getObj, Sem.run, h]
theorem isEmpty_ok {α β : Type} {es : List α} {es' : Array β} (h : es'.toList.length = es.length) : es'.isEmpty = es.isEmpty := by
  cases es with
  | nil =>
    have : es' = #[] := Array.eq_empty_of_size_eq_zero (by simpa using h)
    subst this; rfl
  | cons x es =>
    have : es'.isEmpty = false := by
      rw [Bool.eq_false_iff]
      intro hh
      rw [Array.isEmpty_iff] at hh
      subst hh
      simp at h
    rw [this]; rfl
theorem lookup_ok (h : HR P base w0 ρ s w) {t : TypeId} {m m' k k' v : Value} {ok : Bool} (hm : VR ρ m m') (hk : VR ρ k k') (hl : aLookup P s t m k ok = some v) : ∃ v', (Instr.lookup t m' k' ok).run P w = .ok v' w ∧ VR ρ v v' := by
  unfold aLookup at hl
  cases ht : mapTO P t with
  | none => rw [ht] at hl; cases hl
  | some q =>
    obtain ⟨kt, et⟩ := q
    rw [ht] at hl
    obtain ⟨hu, d, hd⟩ := mapTO_und ht
    simp only at hl
    obtain ⟨es, hes, hl⟩ := Option.bind_eq_some_iff.1 hl
    obtain ⟨z, hz, hl⟩ := Option.bind_eq_some_iff.1 hl
    obtain ⟨⟨hp, hck⟩, hl⟩ := ite_some hl
    have hckr := check_run hck
    obtain ⟨r, hr, hl⟩ := Option.map_eq_some_iff.1 hl
    obtain ⟨hzr, hzp⟩ := run_zero hz w
    have hkk := (hk.plain hp).symm
    subst hkk
    have hes' : ∃ es' : Array MapEntry, ((m' = .map none ∧ es' = #[]) ∨ ∃ r clock, m' = .map (some r) ∧ w.heap[r]? = some (.map es' clock)) ∧ mapRel ρ es es'.toList := by
      cases hm with
      | map0 => cases hes; exact ⟨#[], .inl ⟨rfl, rfl⟩, trivial⟩
      | map hx =>
        rename_i b x
        simp only at hes
        cases hg : s.get b with
        | none => rw [hg] at hes; cases hes
        | some ob =>
          rw [hg] at hes
          cases ob with
          | map es0 clock =>
            cases hes
            obtain ⟨es', h1, h2, h3⟩ := own_map h hg hx
            exact ⟨es', .inr ⟨_, clock, rfl, h1⟩, h3⟩
          | _ => cases hes
      | _ => cases hes
    obtain ⟨es', he1, he2⟩ := hes'
    have hemp := isEmpty_ok he2.length
    obtain ⟨r', hf1, hf2⟩ := findKey_ok (w := w) hd he2 hr
    have hrun0 : r' = none → (Instr.lookup t m' k ok).run P w = .ok (if ok = true then .tuple #[z, .bool false] else z) w := by
      rintro rfl
      rcases he1 with ⟨rfl, rfl⟩ | ⟨rr, clock, rfl, hh⟩
      · simp only [Instr.lookup, Sem.run_bind, run_underlying hu, Result.andThen, Sem.run_pure, hemp, hckr, hf1, hzr]
      · simp only [Instr.lookup, Sem.run_bind, run_underlying hu, Result.andThen, run_getMap hh, Sem.run_pure, hemp, hckr, hf1, hzr]
    have hrun1 : ∀ i u, r' = some (i, u) → (Instr.lookup t m' k ok).run P w = .ok (if ok = true then .tuple #[u, .bool true] else u) w := by
      rintro i u rfl
      rcases he1 with ⟨rfl, rfl⟩ | ⟨rr, clock, rfl, hh⟩
      · simp only [Instr.lookup, Sem.run_bind, run_underlying hu, Result.andThen, Sem.run_pure, hemp, hckr, hf1]
      · simp only [Instr.lookup, Sem.run_bind, run_underlying hu, Result.andThen, run_getMap hh, Sem.run_pure, hemp, hckr, hf1]
    cases r with
    | none =>
      cases r' with
      | some q => cases q; exact hf2.elim
      | none =>
        have := hrun0 rfl
        refine ⟨_, this, ?_⟩
        subst hl
        cases ok with
        | true => exact .tuple (.cons (.of_plain hzp) (.cons (.bool _) .nil))
        | false => exact .of_plain hzp
    | some q =>
      obtain ⟨i, v0⟩ := q
      cases r' with
      | none => exact hf2.elim
      | some q' =>
        obtain ⟨j, v0'⟩ := q'
        obtain ⟨qq, k0, b0, e, h1, h2, h3, h4, h5⟩ := hf2
        obtain ⟨e', g1, g2, g3, g4, g5⟩ := he2.get qq h3
        rw [h4] at g1; cases g1
        subst h5
        have := hrun1 _ _ rfl
        refine ⟨_, this, ?_⟩
        subst hl
        cases ok with
        | true => exact .tuple (.cons g4 (.cons (.bool _) .nil))
        | false => exact g4
/-- The entry of a key, there or made. -/
theorem entry_ok (h : HR P base w0 ρ s w) {t : TypeId} {m m' k k' v : Value} {new : Option Value} {s' : AS} (hm : VR ρ m m') (hk : VR ρ k k') (hl : aEntry P s t m k new = some (v, s')) :
    (∀ x x', new = some x → VR ρ x x' → ∃ w', (Instr.mapUpdate t m' k' x').run P w = .ok () w' ∧ HR P base w0 ρ s' w') ∧
    (new = none → ∃ v' w', (Instr.mapEntry t m' k').run P w = .ok v' w' ∧ HR P base w0 ρ s' w' ∧ VR ρ v v') := by
  unfold aEntry at hl
  cases ht : mapTO P t with
  | none => rw [ht] at hl; cases hl
  | some q =>
    obtain ⟨kt, et⟩ := q
    rw [ht] at hl
    obtain ⟨hu, d, hd⟩ := mapTO_und ht
    cases hm with
    | map hx =>
      rename_i b x
      simp only at hl
      cases hg : s.get b with
      | none => rw [hg] at hl; cases hl
      | some ob =>
        rw [hg] at hl
        cases ob with
        | map es clock =>
          cases hz : zeroO P et with
          | none => rw [hz] at hl; cases hl
          | some z =>
            rw [hz] at hl
            simp only at hl
            obtain ⟨⟨hp, hck⟩, hl⟩ := ite_some hl
            have hckr := check_run hck
            obtain ⟨r, hr, hl⟩ := Option.bind_eq_some_iff.1 hl
            obtain ⟨hzr, hzp⟩ := run_zero hz w
            have hkk := (hk.plain hp).symm
            subst hkk
            obtain ⟨es', e1, e2, e3⟩ := own_map h hg hx
            obtain ⟨r', hf1, hf2⟩ := findKey_ok (w := w) hd e3 hr
            cases r with
            | none =>
              cases r' with
              | some q => cases q; exact hf2.elim
              | none =>
                simp only at hl; cases hl
                refine ⟨fun y y' hy hv => ?_, fun hn => ?_⟩
                · subst hy
                  refine ⟨_, ?_, h.upd hg rfl hx (upd_setObj e1) rfl ⟨es'.push { key := k, val := y', born := clock }, (upd_setObj e1).at_, e2, by rw [Array.toList_push]; exact mapRel.push (e := { key := k, val := y', born := clock }) hp rfl hv rfl e3⟩⟩
                  simp only [Instr.mapUpdate, Sem.run_bind, run_underlying hu, Result.andThen, run_getMap e1, hckr, hf1, run_setMap e1]
                · subst hn
                  refine ⟨.tuple #[z, goInt clock], _, ?_, h.upd hg rfl hx (upd_setObj e1) rfl ⟨es'.push { key := k, val := z, born := clock }, (upd_setObj e1).at_, e2, by rw [Array.toList_push]; exact mapRel.push (e := { key := k, val := z, born := clock }) hp rfl (.of_plain hzp) rfl e3⟩, .tuple (.cons (.of_plain hzp) (.cons (.int _ _) .nil))⟩
                  simp only [Instr.mapEntry, Sem.run_bind, run_underlying hu, Result.andThen, run_getMap e1, hckr, hf1, run_setMap e1, hzr, Sem.run_pure]
            | some q =>
              obtain ⟨i, v0⟩ := q
              cases r' with
              | none => exact hf2.elim
              | some q' =>
                obtain ⟨j, v0'⟩ := q'
                obtain ⟨qq, k0, b0, e, h1, h2, h3, h4, h5⟩ := hf2
                subst h2
                have hq : j = qq := by omega
                subst hq
                simp only [h3] at hl
                obtain ⟨hsb, hl⟩ := ite_some hl
                cases hl
                obtain ⟨e', g1, g2, g3, g4, g5⟩ := e3.get j h3
                rw [h4] at g1; cases g1
                subst h5
                have hget : es'[j]? = some e := by rw [← Array.getElem?_toList]; exact h4
                have hj : j < es'.size := (Array.getElem?_eq_some_iff.1 hget).1
                have hkeep : (Instr.keyThatStays (((es'[j]?).map (·.key)).getD k) k).run P w = .ok k w := by
                  simp only [hget, Option.map_some, Option.getD_some, Instr.keyThatStays, g3, hsb, if_true]; rfl
                have hmod : ∀ f : MapEntry → MapEntry, (es'.modify j f).toList = es'.toList.set j (f e) := by
                  intro f
                  apply List.ext_getElem?
                  intro i
                  rw [Array.getElem?_toList, Array.getElem?_modify, List.getElem?_set, Array.getElem?_toList]
                  by_cases hi : j = i
                  · rw [if_pos hi, if_pos hi, if_pos (by simpa using hj)]; subst hi; rw [hget]; rfl
                  · rw [if_neg hi, if_neg hi]
                refine ⟨fun y y' hy hv => ?_, fun hn => ?_⟩
                · subst hy
                  refine ⟨_, ?_, h.upd hg rfl hx (upd_setObj e1) rfl ⟨es'.modify j fun e => { e with key := k, val := y' }, (upd_setObj e1).at_, e2, by rw [hmod]; exact mapRel.set (e := { e with key := k, val := y' }) hp rfl hv g5 e3 j⟩⟩
                  simp only [Instr.mapUpdate, Sem.run_bind, run_underlying hu, Result.andThen, run_getMap e1, hckr, hf1, hkeep, run_setMap e1]
                · subst hn
                  refine ⟨.tuple #[e.val, goInt b0], _, ?_, h.upd hg rfl hx (upd_setObj e1) rfl ⟨es'.modify j fun e => { e with key := k }, (upd_setObj e1).at_, e2, by rw [hmod]; exact mapRel.set (e := { e with key := k }) hp rfl g4 g5 e3 j⟩, .tuple (.cons g4 (.cons (.int _ _) .nil))⟩
                  simp only [Instr.mapEntry, Sem.run_bind, run_underlying hu, Result.andThen, run_getMap e1, hckr, hf1, hkeep, run_setMap e1, Sem.run_pure]
                  simp only [hget, Option.map_some, Option.getD_some, g5]
        | _ => cases hl
    | _ => cases hl
theorem entryStore_ok (h : HR P base w0 ρ s w) {t : TypeId} {m m' st st' v v' : Value} {s' : AS} (hm : VR ρ m m') (hs : VR ρ st st') (hv : VR ρ v v') (hl : aEntryStore s m st v = some s') : ∃ w', (Instr.entryStore t m' st' v').run P w = .ok () w' ∧ HR P base w0 ρ s' w' := by
  unfold aEntryStore at hl
  cases hm with
  | map hx =>
    rename_i b x
    cases hs with
    | int kk n =>
      simp only at hl
      cases hg : s.get b with
      | none => rw [hg] at hl; cases hl
      | some ob =>
        rw [hg] at hl
        cases ob with
        | map es clock =>
          simp only at hl
          obtain ⟨es', e1, e2, e3⟩ := own_map h hg hx
          have hidx : es'.findIdx? (fun e => (e.born : Int) == n) = es.findIdx? (fun e => decide ((e.2.2 : Int) = n)) := by
            rw [show es'.findIdx? (fun e => (e.born : Int) == n) = es'.toList.findIdx? (fun e => (e.born : Int) == n) from by cases es'; simp]
            clear hg hl e1 hx
            generalize es'.toList = l at e3
            induction es generalizing l with
            | nil => cases l with
              | nil => rfl
              | cons _ _ => exact e3.elim
            | cons q es ih =>
              obtain ⟨k, u, bo⟩ := q
              cases l with
              | nil => exact e3.elim
              | cons e l =>
                obtain ⟨_, _, _, hb, hh⟩ := e3
                rw [List.findIdx?_cons, List.findIdx?_cons, ih l hh, hb]
                by_cases hn : (bo : Int) = n <;> simp [hn]
          cases hi : es.findIdx? (fun e => decide ((e.2.2 : Int) = n)) with
          | none => rw [hi] at hl; cases hl
          | some i =>
            rw [hi] at hl
            simp only at hl
            cases hgi : es[i]? with
            | none => rw [hgi] at hl; cases hl
            | some q =>
              obtain ⟨k, u, bo⟩ := q
              rw [hgi] at hl
              cases hl
              obtain ⟨e, g1, g2, g3, g4, g5⟩ := e3.get i hgi
              have hget : es'[i]? = some e := by rw [← Array.getElem?_toList]; exact g1
              have hj : i < es'.size := (Array.getElem?_eq_some_iff.1 hget).1
              have hmod : ∀ f : MapEntry → MapEntry, (es'.modify i f).toList = es'.toList.set i (f e) := by
                intro f
                apply List.ext_getElem?
                intro q
                rw [Array.getElem?_toList, Array.getElem?_modify, List.getElem?_set, Array.getElem?_toList]
                by_cases hi : i = q
                · rw [if_pos hi, if_pos hi, if_pos (by simpa using hj)]; subst hi; rw [hget]; rfl
                · rw [if_neg hi, if_neg hi]
              refine ⟨_, ?_, h.upd hg rfl hx (upd_setObj e1) rfl ⟨es'.modify i fun e => { e with val := v' }, (upd_setObj e1).at_, e2, by rw [hmod]; exact mapRel.set (e := { e with val := v' }) g2 g3 hv g5 e3 i⟩⟩
              simp only [Instr.entryStore, Sem.run_bind, Result.andThen, run_getMap e1, asInt, asIntOf, Sem.run_pure, hidx, hi, run_setMap e1]
        | _ => cases hl
    | _ => cases hl
  | _ => cases hl
theorem delete_ok (h : HR P base w0 ρ s w) {t ty : TypeId} {ts : List TypeId} {m m' k k' : Value} {s' : AS} (hm : VR ρ m m') (hk : VR ρ k k') (hl : aDelete P s t m k = some s') : ∃ w', (Builtin.delete_ (t :: ts).toArray ty #[m', k']).run P w = .ok (.tuple #[]) w' ∧ HR P base w0 ρ s' w' := by
  unfold aDelete at hl
  cases ht : mapTO P t with
  | none => rw [ht] at hl; cases hl
  | some q =>
    obtain ⟨kt, et⟩ := q
    rw [ht] at hl
    obtain ⟨hu, d, hd⟩ := mapTO_und ht
    cases hm with
    | map hx =>
      rename_i b x
      simp only at hl
      cases hg : s.get b with
      | none => rw [hg] at hl; cases hl
      | some ob =>
        rw [hg] at hl
        cases ob with
        | map es clock =>
          simp only at hl
          obtain ⟨⟨hp, hck⟩, hl⟩ := ite_some hl
          have hckr := check_run hck
          obtain ⟨r, hr, hl⟩ := Option.map_eq_some_iff.1 hl
          have hkk := (hk.plain hp).symm
          subst hkk
          obtain ⟨es', e1, e2, e3⟩ := own_map h hg hx
          have hemp := isEmpty_ok e3.length
          obtain ⟨r', hf1, hf2⟩ := findKey_ok (w := w) hd e3 hr
          cases r with
          | none =>
            cases r' with
            | some q => cases q; exact hf2.elim
            | none =>
              subst hl
              have hu2 := upd_setObj (O := .map es' clock) e1
              refine ⟨{ w with heap := w.heap.setIfInBounds x.r (.map es' clock) }, by simp [Builtin.delete_, run_underlying hu, run_getMap e1, hemp, hckr, hf1, run_setMap e1], ?_⟩
              have : ({ w with heap := w.heap.setIfInBounds x.r (.map es' clock) } : World) = w := by
                have : w.heap.setIfInBounds x.r (.map es' clock) = w.heap := by
                  apply Array.ext_getElem?; intro i
                  rw [Array.getElem?_setIfInBounds]
                  by_cases hi : x.r = i
                  · rw [if_pos hi, if_pos (Array.getElem?_eq_some_iff.1 e1).1, ← hi, e1]
                  · rw [if_neg hi]
                rw [this]
              rw [this]; exact h
          | some q =>
            obtain ⟨i, v0⟩ := q
            cases r' with
            | none => exact hf2.elim
            | some q' =>
              obtain ⟨j, v0'⟩ := q'
              obtain ⟨qq, k0, b0, e, h1, h2, h3, h4, h5⟩ := hf2
              subst h2
              simp only at hl
              subst hl
              have hj : j < es'.size := by have := (List.getElem?_eq_some_iff.1 h4).1; simp at this; omega
              refine ⟨_, ?_, h.upd hg rfl hx (upd_setObj e1) rfl ⟨es'.eraseIdxIfInBounds j, (upd_setObj e1).at_, e2, by rw [Array.eraseIdxIfInBounds, dif_pos hj, Array.toList_eraseIdx]; exact mapRel.erase e3 j⟩⟩
              simp [Builtin.delete_, run_underlying hu, run_getMap e1, hemp, hckr, hf1, run_setMap e1]
        | _ => cases hl
    | _ => cases hl
end
end Go.Proofs.YtchjiocljlbhkaaW.Mill
