/- What the small machine's operations do, the model's do: all of them (the session's own). -/
import Derived.Test.YtchjiocljlbhkaaMill7
import Derived.Laws.RangeString
namespace Go.Proofs.YtchjiocljlbhkaaW.Mill
open Go Go.RowKit
set_option linter.unusedVariables false
set_option linter.unusedSimpArgs false
section
variable {P : Program} {base : Nat} {w0 w : World} {ρ : Rho} {s : AS}
def ER (ρ : Rho) (ev : Operand → Option Value) (ρr : Operand → Value) : Prop := ∀ x v, ev x = some v → VR ρ v (ρr x)
theorem evs_ok {ev : Operand → Option Value} {ρr : Operand → Value} (he : ER ρ ev ρr) : ∀ {l : List Operand} {vs : List Value}, evs ev l = some vs → VRs ρ vs (l.map ρr)
  | [], vs, h => by cases h; exact .nil
  | x :: l, vs, h => by
    obtain ⟨v, hv, h⟩ := Option.bind_eq_some_iff.1 h
    obtain ⟨vs', hvs, h⟩ := Option.map_eq_some_iff.1 h
    subst h
    exact .cons (he _ _ hv) (evs_ok he hvs)
theorem evParts_ok {ev : Operand → Option Value} {ρr : Operand → Value} (he : ER ρ ev ρr) : ∀ {l : List (Nat × Operand)} {vs : List (Nat × Value)}, evParts ev l = some vs → PR ρ vs (l.map fun p => (p.1, ρr p.2))
  | [], vs, h => by cases h; trivial
  | (i, x) :: l, vs, h => by
    obtain ⟨v, hv, h⟩ := Option.bind_eq_some_iff.1 h
    obtain ⟨vs', hvs, h⟩ := Option.map_eq_some_iff.1 h
    subst h
    exact ⟨rfl, he _ _ hv, evParts_ok he hvs⟩
theorem int_ok {v v' : Value} {i : Int} (h : VR ρ v v') (hi : intOf v = some i) : ∃ k, v' = .int k i := by
  cases h <;> first | (simp [intOf] at hi; done) | (cases hi; exact ⟨_, rfl⟩)
theorem evInt_ok {ev : Operand → Option Value} {ρr : Operand → Value} (he : ER ρ ev ρr) {x : Option Operand} {i : Option Int} (h : evInt ev x = some i) : IR i (x.map ρr) := by
  cases x with
  | none => cases h; trivial
  | some x =>
    obtain ⟨v, hv, h⟩ := Option.bind_eq_some_iff.1 h
    obtain ⟨j, hj, h⟩ := Option.map_eq_some_iff.1 h
    subst h
    obtain ⟨k, hk⟩ := int_ok (he _ _ hv) hj
    exact ⟨k, hk⟩
theorem equal_unfold (t : TypeId) (a b : Value) : Op.equal t a b = Op.equalIn (9999 + 1) t a b := rfl
theorem nil_equal {t : TypeId} {x x' y : Value} {b : Bool} (hx : VR ρ x x') (hn : nilKind P t y = true) (hi : isNil x = some b) (hk : sameForm x y = true) (w : World) :
    (Op.equal t x' y).run P w = .ok b w := by
  rw [equal_unfold, Op.equalIn]
  cases y with
  | pointer a =>
    cases a with
    | some a => simp [nilKind] at hn
    | none =>
      cases hu : P.underlying t with
      | none => simp [nilKind, hu] at hn
      | some d =>
        cases d with
        | pointer e =>
          cases hx with
          | ptr0 => cases hi; simp [run_underlying hu]
          | ptr h => cases hi; simp [run_underlying hu]
          | _ => simp [sameForm] at hk
        | _ => simp [nilKind, hu] at hn
  | slice a n c =>
    cases a with
    | some a => simp [nilKind] at hn
    | none =>
      cases n with
      | succ n => simp [nilKind] at hn
      | zero =>
      cases c with
      | succ n => simp [nilKind] at hn
      | zero =>
      cases hu : P.underlying t with
      | none => simp [nilKind, hu] at hn
      | some d =>
        cases d with
        | slice e =>
          cases hx with
          | slice0 => cases hi; simp [run_underlying hu]
          | slice h1 h2 h3 h4 h5 => cases hi; simp [run_underlying hu]
          | sliceX h1 h2 h3 => cases hi; simp [run_underlying hu]
          | _ => simp [sameForm] at hk
        | _ => simp [nilKind, hu] at hn
  | map a =>
    cases a with
    | some a => simp [nilKind] at hn
    | none =>
      cases hu : P.underlying t with
      | none => simp [nilKind, hu] at hn
      | some d =>
        cases d with
        | map k e =>
          cases hx with
          | map0 => cases hi; simp [run_underlying hu]
          | map h => cases hi; simp [run_underlying hu]
          | _ => simp [sameForm] at hk
        | _ => simp [nilKind, hu] at hn
  | nilFunc =>
    cases hu : P.underlying t with
    | none => simp [nilKind, hu] at hn
    | some d =>
      cases d with
      | func k e v =>
        cases hx with
        | nilFunc => cases hi; simp [run_underlying hu]
        | func h => cases hi; simp [run_underlying hu]
        | yield h => cases hi; simp [run_underlying hu]
        | _ => simp [sameForm] at hk
      | _ => simp [nilKind, hu] at hn
  | _ => simp [nilKind] at hn
theorem bin_ok {op : BinOp} {t : TypeId} {xo yo : Operand} {x y x' y' v : Value} (hx : VR ρ x x') (hy : VR ρ y y') (h : aBin P op t xo yo x y = some v) :
    ∃ v', (do eqGuard op t xo yo x' y'; binOp op t x' y' : Sem Value).run P w = .ok v' w ∧ VR ρ v v' := by
  unfold aBin at h
  by_cases hp : plainV x = true ∧ plainV y = true
  · rw [if_pos hp] at h
    rw [hx.plain hp.1, hy.plain hp.2]
    obtain ⟨h1, h2⟩ := calmV_run (ρ := ρ) h w
    exact ⟨v, h1, h2⟩
  · rw [if_neg hp] at h
    obtain ⟨⟨hn, hkk⟩, h⟩ := ite_some h
    have hyp : plainV y = true := by
      cases y <;> first | (simp [nilKind] at hn; done) | skip
      · rename_i a; cases a <;> first | rfl | (simp [nilKind] at hn)
      · rename_i a n c; cases a <;> cases n <;> cases c <;> first | rfl | (simp [nilKind] at hn)
      · rename_i a; cases a <;> first | rfl | (simp [nilKind] at hn)
      · rfl
    rw [hy.plain hyp]
    have hguard : ∀ op, (eqGuard op t xo yo x' y).run P w = .ok () w := by
      intro op
      unfold eqGuard
      cases op <;> (try (simp; done)) <;> (cases y <;> first | (simp [nilKind] at hn; done) | (cases hx <;> simp))
    cases op with
    | eql =>
      obtain ⟨b, hb, h⟩ := Option.map_eq_some_iff.1 h
      subst h
      refine ⟨.bool b, ?_, .bool b⟩
      have he := nil_equal hx hn hb hkk w
      simp only [Sem.run_bind, hguard, Result.andThen]
      have : binOp .eql t x' y = (do pure (.bool (← Op.equal t x' y))) := by
        cases y <;> first | (simp [nilKind] at hn; done) | (cases hx <;> first | rfl | (simp [sameForm] at hkk; done))
      rw [this]
      simp [he]
    | neq =>
      obtain ⟨b, hb, h⟩ := Option.map_eq_some_iff.1 h
      subst h
      refine ⟨.bool !b, ?_, .bool _⟩
      have he := nil_equal hx hn hb hkk w
      simp only [Sem.run_bind, hguard, Result.andThen]
      have : binOp .neq t x' y = (do pure (.bool (!(← Op.equal t x' y)))) := by
        cases y <;> first | (simp [nilKind] at hn; done) | (cases hx <;> first | rfl | (simp [sameForm] at hkk; done))
      rw [this]
      simp [he]
    | _ => cases h
theorem len_ok (h : HR P base w0 ρ s w) {t ty : TypeId} {ts : List TypeId} {x x' v : Value} (hx : VR ρ x x') (hl : aLen P s t x = some v) : ∃ v', (Builtin.len_ (t :: ts).toArray ty #[x']).run P w = .ok v' w ∧ VR ρ v v' := by
  unfold aLen at hl
  cases hu : P.underlying t with
  | none => rw [hu] at hl; cases hl
  | some d =>
    rw [hu] at hl
    cases d with
    | string =>
      cases hx with
      | string b => cases hl; exact ⟨_, by simp [Builtin.len_, run_underlying hu, goInt], .int _ _⟩
      | _ => cases hl
    | slice e =>
      cases hx with
      | slice0 => cases hl; exact ⟨_, by simp [Builtin.len_, run_underlying hu, goInt], .int _ _⟩
      | slice h1 h2 h3 h4 h5 => cases hl; exact ⟨_, by simp [Builtin.len_, run_underlying hu, goInt], .int _ _⟩
      | sliceX h1 h2 h3 => cases hl; exact ⟨_, by simp [Builtin.len_, run_underlying hu, goInt], .int _ _⟩
      | _ => cases hl
    | array n e =>
      have hl' : v = .int .i64 n := by cases hx <;> (cases hl; rfl)
      subst hl'
      exact ⟨_, by simp [Builtin.len_, run_underlying hu, goInt], .int _ _⟩
    | map k e =>
      cases hx with
      | map0 => cases hl; exact ⟨_, by simp [Builtin.len_, run_underlying hu, goInt], .int _ _⟩
      | map hr =>
        rename_i b xx
        simp only at hl
        cases hg : s.get b with
        | none => rw [hg] at hl; cases hl
        | some ob =>
          rw [hg] at hl
          cases ob with
          | map es clock =>
            cases hl
            obtain ⟨es', e1, e2, e3⟩ := own_map h hg hr
            have hlen : es'.size = es.length := by rw [← Array.length_toList]; exact e3.length
            exact ⟨_, by simp [Builtin.len_, run_underlying hu, goInt, run_getMap e1, hlen], .int _ _⟩
          | _ => cases hl
      | _ => cases hl
    | _ => cases hl
theorem cap_ok {t ty : TypeId} {ts : List TypeId} {x x' v : Value} (hx : VR ρ x x') (hl : aCap P t x = some v) : ∃ v', (Builtin.cap_ (t :: ts).toArray ty #[x']).run P w = .ok v' w ∧ VR ρ v v' := by
  unfold aCap at hl
  cases hu : P.underlying t with
  | none => rw [hu] at hl; cases hl
  | some d =>
    rw [hu] at hl
    cases d with
    | slice e =>
      cases hx with
      | slice0 => cases hl; exact ⟨_, by simp [Builtin.cap_, run_underlying hu, goInt], .int _ _⟩
      | sliceX h1 h2 h3 => cases hl; exact ⟨_, by simp [Builtin.cap_, run_underlying hu, goInt], .int _ _⟩
      | _ => cases hl
    | _ => cases hl
theorem VRs.plainV : ∀ {l l' : List Value}, VRs ρ l l' → l.all Mill.plainV = true → l' = l
  | _, _, .nil, _ => rfl
  | _, _, .cons h t, hp => by
    simp only [List.all_cons, Bool.and_eq_true] at hp
    rw [h.plain hp.1, VRs.plainV t hp.2]
theorem builtin_ok (h : HR P base w0 ρ s w) {b : Builtin} {ts : Array TypeId} {ty : TypeId} {cs : Array Bool} {xs : List Value} {xs' : Array Value} {v : Value} {s' : AS} (hx : VRs ρ xs xs'.toList) (hb : aBuiltin P s b ts ty xs = some (v, s')) :
    ∃ v' w' ρ', (builtin b ts ty cs xs').run P w = .ok (.value v') w' ∧ HR P base w0 ρ' s' w' ∧ VR ρ' v v' ∧ ρ.le ρ' := by
  have hxs : xs' = xs'.toList.toArray := by simp
  have hts : ts = ts.toList.toArray := by simp
  rw [hxs, hts]
  generalize hq : ts.toList = tl at *
  generalize xs'.toList = xl at *
  clear hxs hts
  unfold aBuiltin at hb
  rw [hq] at hb
  cases b with
  | len =>
    cases tl with
    | nil => cases hb
    | cons t tl =>
      cases hx with
      | nil => cases hb
      | cons h1 h2 =>
        cases h2 with
        | cons _ _ => cases hb
        | nil =>
          obtain ⟨u, hu, hb⟩ := Option.map_eq_some_iff.1 hb
          cases hb
          obtain ⟨v', e1, e2⟩ := len_ok (ty := ty) (ts := tl) h h1 hu
          exact ⟨v', w, ρ, by simp only [builtin, Sem.run_bind, e1, Result.andThen, Sem.run_pure], h, e2, Rho.le_refl ρ⟩
  | cap =>
    cases tl with
    | nil => cases hb
    | cons t tl =>
      cases hx with
      | nil => cases hb
      | cons h1 h2 =>
        cases h2 with
        | cons _ _ => cases hb
        | nil =>
          obtain ⟨u, hu, hb⟩ := Option.map_eq_some_iff.1 hb
          cases hb
          obtain ⟨v', e1, e2⟩ := cap_ok (w := w) (ty := ty) (ts := tl) h1 hu
          exact ⟨v', w, ρ, by simp only [builtin, Sem.run_bind, e1, Result.andThen, Sem.run_pure], h, e2, Rho.le_refl ρ⟩
  | append =>
    cases tl with
    | nil => cases hb
    | cons t tl =>
      cases tl with
      | nil => cases hb
      | cons u tl =>
        cases hx with
        | nil => cases hb
        | cons h1 h2 =>
          cases h2 with
          | nil => cases hb
          | cons h2 h3 =>
            cases h3 with
            | cons _ _ => cases hb
            | nil =>
              obtain ⟨v', w', ρ', e1, e2, e3, e4⟩ := append_ok (ty := ty) (ts := tl) h h1 h2 hb
              exact ⟨v', w', ρ', by simp only [builtin, Sem.run_bind, e1, Result.andThen, Sem.run_pure], e2, e3, e4⟩
  | copy =>
    cases tl with
    | nil => cases hb
    | cons t tl =>
      cases hx with
      | nil => cases hb
      | cons h1 h2 =>
        cases h2 with
        | nil => cases hb
        | cons h2 h3 =>
          cases h3 with
          | cons _ _ => cases hb
          | nil =>
            obtain ⟨v', w', e1, e2, e3⟩ := copy_ok (ty := ty) (ts := tl) h h1 h2 hb
            exact ⟨v', w', ρ, by simp only [builtin, Sem.run_bind, e1, Result.andThen, Sem.run_pure], e2, e3, Rho.le_refl ρ⟩
  | clear =>
    cases tl with
    | nil => cases hb
    | cons t tl =>
      cases hx with
      | nil => cases hb
      | cons h1 h2 =>
        cases h2 with
        | cons _ _ => cases hb
        | nil =>
          obtain ⟨u, hu, hb⟩ := Option.map_eq_some_iff.1 hb
          cases hb
          obtain ⟨w', e1, e2⟩ := clear_ok (ty := ty) (ts := tl) h h1 hu
          exact ⟨.tuple #[], w', ρ, by simp only [builtin, Sem.run_bind, e1, Result.andThen, Sem.run_pure], e2, .tuple .nil, Rho.le_refl ρ⟩
  | delete =>
    cases tl with
    | nil => cases hb
    | cons t tl =>
      cases hx with
      | nil => cases hb
      | cons h1 h2 =>
        cases h2 with
        | nil => cases hb
        | cons h2 h3 =>
          cases h3 with
          | cons _ _ => cases hb
          | nil =>
            obtain ⟨u, hu, hb⟩ := Option.map_eq_some_iff.1 hb
            cases hb
            obtain ⟨w', e1, e2⟩ := delete_ok (ty := ty) (ts := tl) h h1 h2 hu
            exact ⟨.tuple #[], w', ρ, by simp only [builtin, Sem.run_bind, e1, Result.andThen, Sem.run_pure], e2, .tuple .nil, Rho.le_refl ρ⟩
  | min =>
    have hb' : (if xs.all plainV = true then (calmV P (Builtin.min_ ts ty xs.toArray)).map (·, s) else none) = some (v, s') := by
      cases tl <;> exact hb
    obtain ⟨hp, hb'⟩ := ite_some hb'
    obtain ⟨u, hu, hb'⟩ := Option.map_eq_some_iff.1 hb'
    cases hb'
    rw [hx.plainV hp]
    obtain ⟨e1, e2⟩ := calmV_run (ρ := ρ) hu w
    exact ⟨v, w, ρ, by simp only [builtin, Sem.run_bind, ← hq, Array.toArray_toList, e1, Result.andThen, Sem.run_pure], h, e2, Rho.le_refl ρ⟩
  | max =>
    have hb' : (if xs.all plainV = true then (calmV P (Builtin.max_ ts ty xs.toArray)).map (·, s) else none) = some (v, s') := by
      cases tl <;> exact hb
    obtain ⟨hp, hb'⟩ := ite_some hb'
    obtain ⟨u, hu, hb'⟩ := Option.map_eq_some_iff.1 hb'
    cases hb'
    rw [hx.plainV hp]
    obtain ⟨e1, e2⟩ := calmV_run (ρ := ρ) hu w
    exact ⟨v, w, ρ, by simp only [builtin, Sem.run_bind, ← hq, Array.toArray_toList, e1, Result.andThen, Sem.run_pure], h, e2, Rho.le_refl ρ⟩
  | _ => cases tl <;> (try (rename_i a b; cases b)) <;> cases hb

/-! ### the operations -/
def Does (P : Program) (o : Oper) (ρr : Operand → Value) (w : World) (v : Value) (w' : World) : Prop :=
  (execOp ρr o).run P w = .ok (.value v) w' ∨ ((execOp ρr o).run P w = .ok .skip w' ∧ v = undef)
theorem fieldO_und {t : TypeId} {i : Nat} {f : Field} (h : fieldO P t i = some f) : ∃ fs : Array Field, P.underlying t = some (.struct fs) ∧ fs[i]? = some f := by
  unfold fieldO at h
  cases hd : P.underlying t with
  | none => rw [hd] at h; cases h
  | some d => rw [hd] at h; cases d <;> first | (cases h; done) | exact ⟨_, rfl, h⟩
theorem aop_ok (h : HR P base w0 ρ s w) {ev : Operand → Option Value} {ρr : Operand → Value} (he : ER ρ ev ρr) (o : Oper) {v : Value} {s' : AS} (ha : aop P ev s o.op = some (v, s')) :
    ∃ v' w' ρ', Does P o ρr w v' w' ∧ HR P base w0 ρ' s' w' ∧ VR ρ' v v' ∧ ρ.le ρ' := by
  have val : ∀ {x : Sem Value} {v' : Value} {w' : World}, x.run P w = .ok v' w' → (do pure (Next.value (← x)) : Sem Next).run P w = .ok (.value v') w' := fun hx => by simp [hx]
  have unit : ∀ {x : Sem Unit} {w' : World}, x.run P w = .ok () w' → (do x; pure Next.skip : Sem Next).run P w = .ok .skip w' := fun hx => by simp [hx]
  have stay : ∀ {x : Sem Value} {v' : Value}, (execOp ρr o = do pure (Next.value (← x))) → x.run P w = .ok v' w → VR ρ v v' → s' = s → ∃ v' w' ρ', Does P o ρr w v' w' ∧ HR P base w0 ρ' s' w' ∧ VR ρ' v v' ∧ ρ.le ρ' := fun e hx hv hs => ⟨_, w, ρ, .inl (by rw [e]; exact val hx), hs ▸ h, hv, Rho.le_refl ρ⟩
  obtain ⟨dst, op, ty, pos, after, guard⟩ := o
  simp only at ha
  cases op with
  | move x =>
    obtain ⟨u, hu, ha⟩ := Option.map_eq_some_iff.1 ha
    cases ha
    exact ⟨ρr x, w, ρ, .inl rfl, h, he _ _ hu, Rho.le_refl ρ⟩
  | assign x =>
    obtain ⟨u, hu, ha⟩ := Option.map_eq_some_iff.1 ha
    cases ha
    exact ⟨ρr x, w, ρ, .inl rfl, h, he _ _ hu, Rho.le_refl ρ⟩
  | pick c a b =>
    simp only [aop] at ha
    cases hc : ev c with
    | none => rw [hc] at ha; cases ha
    | some cv =>
      rw [hc] at ha
      cases cv with
      | bool t =>
        obtain ⟨u, hu, ha⟩ := Option.map_eq_some_iff.1 ha
        cases ha
        have hcb : ρr c = .bool t := (he _ _ hc).plain rfl
        cases t with
        | true => exact ⟨ρr a, w, ρ, .inl (by simp [execOp, hcb, asBool]), h, he _ _ (by simpa using hu), Rho.le_refl ρ⟩
        | false => exact ⟨ρr b, w, ρ, .inl (by simp [execOp, hcb, asBool]), h, he _ _ (by simpa using hu), Rho.le_refl ρ⟩
      | _ => cases ha
  | alloc e =>
    obtain ⟨z, hz, ha⟩ := Option.map_eq_some_iff.1 ha
    obtain ⟨h1, h2⟩ := run_zero hz w
    obtain ⟨a', w', ρ', e1, e2, e3, e4⟩ := newVar_ok h e (v := z) (v' := z) (.of_plain h2)
    cases ha
    exact ⟨.pointer (some a'), w', ρ', .inl (val (by simp [Instr.alloc, h1, e1])), e2, e3, e4⟩
  | box e x =>
    obtain ⟨u, hu, ha⟩ := Option.map_eq_some_iff.1 ha
    obtain ⟨a', w', ρ', e1, e2, e3, e4⟩ := newVar_ok h e (he _ _ hu)
    cases ha
    exact ⟨.pointer (some a'), w', ρ', .inl (val (by simp [Instr.box, e1])), e2, e3, e4⟩
  | build t parts =>
    obtain ⟨ps, hps, ha⟩ := Option.bind_eq_some_iff.1 ha
    obtain ⟨u, hu, ha⟩ := Option.map_eq_some_iff.1 ha
    cases ha
    have hpr := evParts_ok he hps
    obtain ⟨v', e1, e2⟩ := build_ok (w := w) (parts' := parts.map fun p => (p.1, ρr p.2)) (by rw [Array.toList_map]; exact hpr) hu
    exact stay rfl e1 e2 rfl
  | buildSlice t len parts =>
    obtain ⟨ps, hps, ha⟩ := Option.bind_eq_some_iff.1 ha
    have hpr := evParts_ok he hps
    obtain ⟨v', w', ρ', e1, e2, e3, e4⟩ := buildSlice_ok h (parts' := parts.map fun p => (p.1, ρr p.2)) (by rw [Array.toList_map]; exact hpr) ha
    exact ⟨v', w', ρ', .inl (val e1), e2, e3, e4⟩
  | load t a =>
    obtain ⟨av, hav, ha⟩ := Option.bind_eq_some_iff.1 ha
    obtain ⟨u, hu, ha⟩ := Option.map_eq_some_iff.1 ha
    cases ha
    obtain ⟨v', e1, e2⟩ := load_ok h (he _ _ hav) hu
    exact stay rfl e1 e2 rfl
  | store t a x =>
    obtain ⟨av, hav, ha⟩ := Option.bind_eq_some_iff.1 ha
    obtain ⟨xv, hxv, ha⟩ := Option.bind_eq_some_iff.1 ha
    obtain ⟨u, hu, ha⟩ := Option.map_eq_some_iff.1 ha
    cases ha
    obtain ⟨w', e1, e2⟩ := store_ok h (he _ _ hav) (he _ _ hxv) hu
    exact ⟨undef, w', ρ, .inr ⟨unit e1, rfl⟩, e2, .tuple .nil, Rho.le_refl ρ⟩
  | nilCheck x =>
    obtain ⟨u, hu, ha⟩ := Option.bind_eq_some_iff.1 ha
    have hv := he _ _ hu
    cases u with
    | pointer a =>
      cases a with
      | none => cases ha
      | some a =>
        cases ha
        refine ⟨ρr x, w, ρ, .inl ?_, h, hv, Rho.le_refl ρ⟩
        generalize hq : ρr x = y at hv ⊢
        cases hv
        simp [execOp, hq]
    | func fn first cap =>
      cases fn with
      | func f =>
        cases ha
        refine ⟨ρr x, w, ρ, .inl ?_, h, hv, Rho.le_refl ρ⟩
        generalize hq : ρr x = y at hv ⊢
        cases hv
        simp [execOp, hq]
      | _ => cases ha
    | _ => cases ha
  | binOp op t x y yt =>
    obtain ⟨xv, hxv, ha⟩ := Option.bind_eq_some_iff.1 ha
    obtain ⟨yv, hyv, ha⟩ := Option.bind_eq_some_iff.1 ha
    obtain ⟨u, hu, ha⟩ := Option.map_eq_some_iff.1 ha
    cases ha
    obtain ⟨v', e1, e2⟩ := bin_ok (w := w) (he _ _ hxv) (he _ _ hyv) hu
    exact stay rfl e1 e2 rfl
  | unOp op t x =>
    obtain ⟨xv, hxv, ha⟩ := Option.bind_eq_some_iff.1 ha
    obtain ⟨hp, ha⟩ := ite_some ha
    obtain ⟨u, hu, ha⟩ := Option.map_eq_some_iff.1 ha
    cases ha
    obtain ⟨e1, e2⟩ := calmV_run (ρ := ρ) hu w
    exact stay (x := Op.unary op (ρr x)) rfl (by rw [(he _ _ hxv).plain hp]; exact e1) e2 rfl
  | convert src dst x =>
    obtain ⟨xv, hxv, ha⟩ := Option.bind_eq_some_iff.1 ha
    obtain ⟨v', w', ρ', e1, e2, e3, e4⟩ := convert_ok h (he _ _ hxv) ha
    exact ⟨v', w', ρ', .inl (val e1), e2, e3, e4⟩
  | makeInterface t x =>
    obtain ⟨xv, hxv, ha⟩ := Option.bind_eq_some_iff.1 ha
    cases hd : P.underlying t with
    | none => rw [hd] at ha; cases ha
    | some d =>
      rw [hd] at ha
      have : v = .iface t xv ∧ s' = s ∧ (Instr.makeInterface t (ρr x)).run P w = .ok (.iface t (ρr x)) w := by
        cases d <;> first | (cases ha; exact ⟨rfl, rfl, by simp [Instr.makeInterface, run_underlying hd]⟩) | (cases ha; done)
      obtain ⟨rfl, rfl, hr⟩ := this
      exact stay rfl hr (.iface (he _ _ hxv)) rfl
  | makeFunc fn first cap =>
    simp only [aop] at ha
    cases fn with
    | func f =>
      cases hf : first.toList with
      | cons _ _ => rw [hf] at ha; cases ha
      | nil =>
        rw [hf] at ha
        obtain ⟨vs, hvs, ha⟩ := Option.map_eq_some_iff.1 ha
        cases ha
        have hfe : first = #[] := by cases first; simp at hf; subst hf; rfl
        subst hfe
        have := evs_ok he hvs
        exact stay (x := Instr.makeFunc (.func f) (#[].map ρr) (cap.map ρr)) (v' := .func (.func f) #[] (cap.map ρr)) rfl (by simp [Instr.makeFunc]) (.func (by simpa using this)) rfl
    | _ => cases ha
  | makeMap t r =>
    have key : HR P base w0 (ρ.set s.size ⟨w.heap.size, 0, 0, 0⟩) (s.push (.map [] 0)) (w.alloc (.map #[] 0)) ∧ ρ.le (ρ.set s.size ⟨w.heap.size, 0, 0, 0⟩) :=
      ⟨h.push ⟨#[], heap_alloc_new .., h.big, trivial⟩, Rho.le_set _ h.fresh⟩
    have hres : v = .map (some s.size) ∧ s' = s.push (.map [] 0) ∧ (Instr.makeMap t (r.map ρr)).run P w = .ok (.map (some w.heap.size)) (w.alloc (.map #[] 0)) := by
      cases r with
      | none => cases ha; exact ⟨rfl, rfl, by simp [Instr.makeMap]⟩
      | some hh =>
        obtain ⟨u, hu, ha⟩ := Option.bind_eq_some_iff.1 ha
        obtain ⟨i, hi, ha⟩ := Option.bind_eq_some_iff.1 ha
        obtain ⟨q, hq, ha⟩ := Option.map_eq_some_iff.1 ha
        cases ha
        obtain ⟨kt, et⟩ := q
        obtain ⟨k, hk⟩ := int_ok (he _ _ hu) hi
        exact ⟨rfl, rfl, by simp [Instr.makeMap, run_underlying (mapTO_und hq).1, hk, asInt, asIntOf]⟩
    obtain ⟨rfl, rfl, hr⟩ := hres
    exact ⟨.map (some w.heap.size), _, _, .inl (val hr), key.1, .map (Rho.set_self ρ _ _), key.2⟩
  | makeSlice t l c =>
    obtain ⟨lv, hlv, ha⟩ := Option.bind_eq_some_iff.1 ha
    obtain ⟨cv, hcv, ha⟩ := Option.bind_eq_some_iff.1 ha
    obtain ⟨li, hli, ha⟩ := Option.bind_eq_some_iff.1 ha
    obtain ⟨ci, hci, ha⟩ := Option.bind_eq_some_iff.1 ha
    obtain ⟨kl, hkl⟩ := int_ok (he _ _ hlv) hli
    obtain ⟨kc, hkc⟩ := int_ok (he _ _ hcv) hci
    obtain ⟨v', w', ρ', e1, e2, e3, e4⟩ := makeSlice_ok (kl := kl) (kc := kc) h ha
    exact ⟨v', w', ρ', .inl (val (x := Instr.makeSlice t (ρr l) (ρr c)) (by rw [hkl, hkc]; exact e1)), e2, e3, e4⟩
  | slice t x lo hi mx =>
    obtain ⟨xv, hxv, ha⟩ := Option.bind_eq_some_iff.1 ha
    have hv := he _ _ hxv
    have gen : ((evInt ev lo).bind fun lo => (evInt ev hi).bind fun hi => (evInt ev mx).bind fun mx => (aSlice P s t xv lo hi mx).map (·, s)) = some (v, s') → ∃ v' w' ρ', Does P ⟨dst, .slice t x lo hi mx, ty, pos, after, guard⟩ ρr w v' w' ∧ HR P base w0 ρ' s' w' ∧ VR ρ' v v' ∧ ρ.le ρ' := by
      intro ha
      obtain ⟨l, hl, ha⟩ := Option.bind_eq_some_iff.1 ha
      obtain ⟨hh, hhi, ha⟩ := Option.bind_eq_some_iff.1 ha
      obtain ⟨m, hm, ha⟩ := Option.bind_eq_some_iff.1 ha
      obtain ⟨u, hu, ha⟩ := Option.map_eq_some_iff.1 ha
      cases ha
      obtain ⟨v', e1, e2⟩ := slice_ok h hv (evInt_ok he hl) (evInt_ok he hhi) (evInt_ok he hm) hu
      exact stay rfl e1 e2 rfl
    cases xv with
    | string b =>
      have hb : ρr x = .string b := hv.plain rfl
      simp only at ha
      obtain ⟨u, hu, ha⟩ := Option.map_eq_some_iff.1 ha
      cases ha
      have key : calmV P (Instr.sliceAt t (.string b) (lo.map ρr) (hi.map ρr) (mx.map ρr)) = some v := by
        cases mx with
        | some _ => cases lo <;> cases hi <;> cases hu
        | none =>
          cases lo with
          | none =>
            cases hi with
            | none => exact hu
            | some hh =>
              obtain ⟨hv, hhv, hu⟩ := Option.bind_eq_some_iff.1 hu
              obtain ⟨hp, hu⟩ := ite_some hu
              rw [Option.map_some, (he _ _ hhv).plain hp]; exact hu
          | some l =>
            cases hi with
            | none =>
              obtain ⟨lv, hlv, hu⟩ := Option.bind_eq_some_iff.1 hu
              obtain ⟨hp, hu⟩ := ite_some hu
              rw [Option.map_some, (he _ _ hlv).plain hp]; exact hu
            | some hh =>
              obtain ⟨lv, hlv, hu⟩ := Option.bind_eq_some_iff.1 hu
              obtain ⟨hv, hhv, hu⟩ := Option.bind_eq_some_iff.1 hu
              obtain ⟨hp, hu⟩ := ite_some hu
              rw [Option.map_some, Option.map_some, (he _ _ hlv).plain hp.1, (he _ _ hhv).plain hp.2]; exact hu
      obtain ⟨e1, e2⟩ := calmV_run (ρ := ρ) key w
      exact stay (x := Instr.sliceAt t (ρr x) (lo.map ρr) (hi.map ρr) (mx.map ρr)) rfl (by rw [hb]; exact e1) e2 rfl
    | _ => exact gen ha
  | fieldAddr t x i =>
    obtain ⟨xv, hxv, ha⟩ := Option.bind_eq_some_iff.1 ha
    have hv := he _ _ hxv
    generalize hq : ρr x = y at hv
    cases hv with
    | ptr hr =>
      rename_i b o xx
      cases hf : fieldO P t i with
      | none => rw [hf] at ha; cases ha
      | some f =>
        rw [hf] at ha
        obtain ⟨fs, hu, hfs⟩ := fieldO_und hf
        simp only at ha
        cases hn : sizeO P f.type with
        | none => rw [hn] at ha; cases ha
        | some n =>
          rw [hn] at ha
          cases n with
          | zero => cases ha
          | succ n =>
            cases ha
            refine stay (x := Instr.fieldAt t (ρr x) i) (v' := .pointer (some ⟨xx.r, o + f.offset + xx.d, none⟩)) rfl ?_ (.ptr hr) rfl
            simp only [Instr.fieldAt, Sem.run_bind, run_underlying hu, Result.andThen, hfs, hq, Instr.sureAddr, Sem.run_pure, fieldPlace, run_sizeOf hn, add_addr]
            simp [Nat.add_right_comm]
    | _ => cases ha
  | field t x i =>
    obtain ⟨xv, hxv, ha⟩ := Option.bind_eq_some_iff.1 ha
    have hv := he _ _ hxv
    generalize hq : ρr x = y at hv
    cases hv with
    | agg hr =>
      cases hf : fieldO P t i with
      | none => rw [hf] at ha; cases ha
      | some f =>
        rw [hf] at ha
        obtain ⟨fs, hu, hfs⟩ := fieldO_und hf
        obtain ⟨u, hup, ha⟩ := Option.map_eq_some_iff.1 ha
        cases ha
        obtain ⟨v', e1, e2⟩ := part_ok (w := w) hr hup
        exact stay (x := Instr.field t (ρr x) i) rfl (by simp [Instr.field, run_underlying hu, hfs, hq, asAgg, e1]) e2 rfl
    | _ => cases ha
  | indexAddr t x i =>
    obtain ⟨xv, hxv, ha⟩ := Option.bind_eq_some_iff.1 ha
    obtain ⟨iv, hiv, ha⟩ := Option.bind_eq_some_iff.1 ha
    obtain ⟨j, hj, ha⟩ := Option.bind_eq_some_iff.1 ha
    obtain ⟨u, hu, ha⟩ := Option.map_eq_some_iff.1 ha
    cases ha
    obtain ⟨k, hk⟩ := int_ok (he _ _ hiv) hj
    obtain ⟨v', e1, e2⟩ := indexAddr_ok (w := w) (k := k) (he _ _ hxv) hu
    exact stay (x := Instr.indexAt t (ρr x) (ρr i)) rfl (by rw [hk]; exact e1) e2 rfl
  | index t x i =>
    obtain ⟨xv, hxv, ha⟩ := Option.bind_eq_some_iff.1 ha
    obtain ⟨iv, hiv, ha⟩ := Option.bind_eq_some_iff.1 ha
    have hv := he _ _ hxv
    have hvi := he _ _ hiv
    generalize hq : ρr x = y at hv
    generalize hqi : ρr i = yi at hvi
    cases hd : P.underlying t with
    | none => rw [hd] at ha; cases ha
    | some d =>
      rw [hd] at ha
      cases d with
      | array n e =>
        cases hv with
        | agg hr =>
          cases hvi with
          | int k j =>
            simp only at ha
            obtain ⟨hc, ha⟩ := ite_some ha
            obtain ⟨q, hsz, ha⟩ := Option.bind_eq_some_iff.1 ha
            obtain ⟨u, hu, ha⟩ := Option.map_eq_some_iff.1 ha
            cases ha
            obtain ⟨v', e1, e2⟩ := part_ok (w := w) hr hu
            exact stay (x := Instr.index t (ρr x) (ρr i)) rfl (by rw [hq, hqi]; simp [Instr.index, run_underlying hd, asIntOf, hc, run_sizeOf hsz, e1]) e2 rfl
          | _ => cases ha
        | _ => cases ha
      | string =>
        cases hv with
        | string b =>
          cases hvi with
          | int k j =>
            obtain ⟨u, hu, ha⟩ := Option.map_eq_some_iff.1 ha
            cases ha
            obtain ⟨e1, e2⟩ := calmV_run (ρ := ρ) hu w
            exact stay (x := Instr.index t (ρr x) (ρr i)) rfl (by rw [hq, hqi]; exact e1) e2 rfl
          | _ => cases ha
        | _ => cases ha
      | _ => cases ha
  | lookup t m k ok =>
    obtain ⟨mv, hmv, ha⟩ := Option.bind_eq_some_iff.1 ha
    obtain ⟨kv, hkv, ha⟩ := Option.bind_eq_some_iff.1 ha
    obtain ⟨u, hu, ha⟩ := Option.map_eq_some_iff.1 ha
    cases ha
    obtain ⟨v', e1, e2⟩ := lookup_ok h (he _ _ hmv) (he _ _ hkv) hu
    exact stay rfl e1 e2 rfl
  | mapUpdate t m k x =>
    obtain ⟨mv, hmv, ha⟩ := Option.bind_eq_some_iff.1 ha
    obtain ⟨kv, hkv, ha⟩ := Option.bind_eq_some_iff.1 ha
    obtain ⟨xv, hxv, ha⟩ := Option.bind_eq_some_iff.1 ha
    obtain ⟨u, hu, ha⟩ := Option.map_eq_some_iff.1 ha
    cases ha
    obtain ⟨w', e1, e2⟩ := (entry_ok (v := u.1) (s' := u.2) h (he _ _ hmv) (he _ _ hkv) hu).1 xv (ρr x) rfl (he _ _ hxv)
    exact ⟨undef, w', ρ, .inr ⟨unit e1, rfl⟩, e2, .tuple .nil, Rho.le_refl ρ⟩
  | mapEntry t m k =>
    obtain ⟨mv, hmv, ha⟩ := Option.bind_eq_some_iff.1 ha
    obtain ⟨kv, hkv, ha⟩ := Option.bind_eq_some_iff.1 ha
    obtain ⟨v', w', e1, e2, e3⟩ := (entry_ok h (he _ _ hmv) (he _ _ hkv) ha).2 rfl
    exact ⟨v', w', ρ, .inl (val e1), e2, e3, Rho.le_refl ρ⟩
  | entryStore t m st x =>
    obtain ⟨mv, hmv, ha⟩ := Option.bind_eq_some_iff.1 ha
    obtain ⟨sv, hsv, ha⟩ := Option.bind_eq_some_iff.1 ha
    obtain ⟨xv, hxv, ha⟩ := Option.bind_eq_some_iff.1 ha
    obtain ⟨u, hu, ha⟩ := Option.map_eq_some_iff.1 ha
    cases ha
    obtain ⟨w', e1, e2⟩ := entryStore_ok (t := t) h (he _ _ hmv) (he _ _ hsv) (he _ _ hxv) hu
    exact ⟨undef, w', ρ, .inr ⟨unit e1, rfl⟩, e2, .tuple .nil, Rho.le_refl ρ⟩
  | range t x =>
    obtain ⟨xv, hxv, ha⟩ := Option.bind_eq_some_iff.1 ha
    have hv := he _ _ hxv
    generalize hq : ρr x = y at hv
    cases hd : P.underlying t with
    | none => rw [hd] at ha; cases ha
    | some d =>
      rw [hd] at ha
      cases d with
      | string =>
        cases hv with
        | string b =>
          cases ha
          refine ⟨.pointer (some ⟨w.heap.size, 0, none⟩), w.alloc (.stringIter b 0), ρ.set s.size ⟨w.heap.size, 0, 0, 0⟩, .inl (val (x := Instr.range t (ρr x)) ?_), h.push ⟨heap_alloc_new .., h.big, rfl⟩, .ptr (o := 0) (Rho.set_self ρ _ _), Rho.le_set _ h.fresh⟩
          rw [hq]
          simp [Instr.range, run_underlying hd]
        | _ => cases ha
      | _ => cases ha
  | next it isS =>
    cases isS with
    | false => cases ha
    | true =>
      obtain ⟨xv, hxv, ha⟩ := Option.bind_eq_some_iff.1 ha
      have hv := he _ _ hxv
      generalize hq : ρr it = y at hv
      cases hv with
      | ptr hr =>
        rename_i b o xx
        cases o with
        | succ o => cases ha
        | zero =>
          simp only at ha
          cases hg : s.get b with
          | none => rw [hg] at ha; cases ha
          | some ob =>
            rw [hg] at ha
            cases ob with
            | iter c pos =>
              obtain ⟨xx', hx', hok⟩ := h.obj b _ hg
              rw [hr] at hx'; cases hx'
              obtain ⟨k1, k2, k3⟩ := hok
              have hget : (getObj xx.r).run P w = .ok (.stringIter c pos) w := by simp [getObj, Sem.run, k1]
              have hset : ∀ O, (setObj xx.r O).run P w = .ok () { w with heap := w.heap.setIfInBounds xx.r O } := fun O => by simp [setObj, Sem.run, k1]
              simp only at ha
              by_cases hp : pos < c.size
              · rw [if_pos hp] at ha; cases ha
                refine ⟨.tuple #[.bool true, goInt pos, .int .i32 (Utf8.decode c pos).1], _, ρ, .inl (val (x := Instr.next (ρr it) true ty) ?_), h.upd hg rfl hr (upd_setObj k1) rfl ⟨(upd_setObj k1).at_, k2, k3⟩, .tuple (.cons (.bool _) (.cons (.int _ _) (.cons (.int _ _) .nil))), Rho.le_refl ρ⟩
                rw [hq]
                simp [Instr.next, k3, hget, hp, hset]
              · rw [if_neg hp] at ha; cases ha
                refine stay (x := Instr.next (ρr it) true ty) (v' := .tuple #[.bool false]) rfl ?_ (.tuple (.cons (.bool _) .nil)) rfl
                rw [hq]
                simp [Instr.next, k3, hget, hp]
            | _ => cases ha
      | _ => cases ha
  | extract x i =>
    obtain ⟨xv, hxv, ha⟩ := Option.bind_eq_some_iff.1 ha
    have hv := he _ _ hxv
    generalize hq : ρr x = y at hv
    cases hv with
    | tuple hr =>
      obtain ⟨u, hu, ha⟩ := Option.map_eq_some_iff.1 ha
      cases ha
      obtain ⟨v', e1, e2⟩ := hr.get i (by rw [Array.getElem?_toList]; exact hu)
      exact stay (x := Instr.extract (ρr x) i) rfl (by rw [hq]; simp only [Instr.extract]; rw [← Array.getElem?_toList, e1]; rfl) e2 rfl
    | _ => cases ha
  | _ => cases ha
end
end Go.Proofs.YtchjiocljlbhkaaW.Mill
