/- What the small machine's walk does, the model's does: regions, code, calls (the session's own). -/
import Derived.Test.YtchjiocljlbhkaaMill8
import Derived.OwnWalkIn
namespace Go.Proofs.YtchjiocljlbhkaaW.Mill
open Go Go.RowKit
set_option linter.unusedVariables false
set_option linter.unusedSimpArgs false
def FR (rd : Option Nat) : Fence := { Fence.wide with round := rd }
def DR (ρ : Rho) : List Nat → List Deferred → Prop
  | [], [] => True
  | b :: l, d :: ds => (∃ x, ρ b = some x ∧ d = { target := .collected x.r, args := #[] }) ∧ DR ρ l ds
  | _, _ => False
theorem DR.mono {ρ ρ' : Rho} (hl : ρ.le ρ') : ∀ {l : List Nat} {ds : List Deferred}, DR ρ l ds → DR ρ' l ds
  | [], [], _ => trivial
  | _ :: _, _ :: _, ⟨⟨x, h1, h2⟩, h⟩ => ⟨⟨x, hl _ _ h1, h2⟩, DR.mono hl h⟩
def RdR (ρ : Rho) : Option Nat → Option Nat → Prop
  | none, none => True
  | some b, some l => ∃ x, ρ b = some x ∧ x.r = l
  | _, _ => False
theorem RdR.mono {ρ ρ' : Rho} (hl : ρ.le ρ') : ∀ {a b : Option Nat}, RdR ρ a b → RdR ρ' a b
  | none, none, _ => trivial
  | some _, some _, ⟨x, h1, h2⟩ => ⟨x, hl _ _ h1, h2⟩
section
variable (P : Program) (base : Nat) (w0 : World)
structure SR (rd : Option Nat) (ρ : Rho) (a : AA) (s : AS) (ra : Act) (w : World) : Prop where
  h : HR P base w0 ρ s w
  n : ra.tmps.size = a.n
  t : ∀ t v, a.tm.get t = some v → t < a.n ∧ VR ρ v (ra.tmps.getD t undef)
  d : DR ρ a.df ra.defers
  r : RdR ρ a.rd rd
def AExit.real : AExit → Exit
  | .normal => .normal
  | .exit id => .exit id
  | .goto l => .goto l
  | .ret => .ret
/-- The code leads from a state to a state, in the model. -/
def AEx (c : Code) (a : AA) (s : AS) (e : AExit) (a' : AA) (s' : AS) : Prop :=
  ∀ (rd : Option Nat) (ρ : Rho) (ra : Act) (w : World), SR P base w0 rd ρ a s ra w →
    c.wpIn (FR rd) 0 P (fun e' ra' w' => e' = e.real ∧ ∃ ρ', SR P base w0 rd ρ' a' s' ra' w' ∧ ρ.le ρ') ra w
/-- The call comes to this, in the model. -/
def ACall (f : FuncId) (xs : List Value) (s : AS) (v : Value) (s' : AS) : Prop :=
  ∀ (ρ : Rho) (args : Array Value) (w : World), HR P base w0 ρ s w → VRs ρ xs args.toList →
    CallsIn Fence.wide 0 P f args w (fun e w' => ∃ rv ρ', e = .returned rv ∧ HR P base w0 ρ' s' w' ∧ VR ρ' v rv ∧ ρ.le ρ')
/-- The same of a round of a range over a function. -/
def ARound (l : Nat) (xs : List Value) (s : AS) (v : Value) (s' : AS) : Prop :=
  ∀ (ρ : Rho) (args : Array Value) (w : World) (x : Ren), HR P base w0 ρ s w → VRs ρ xs args.toList → ρ l = some x →
    ∃ fn tmps assign body, (Instr.yield x.r args).run P w = .ok (.round x.r fn tmps assign body) w ∧
      RoundIn Fence.wide 0 P x.r fn tmps assign body w (fun e w' => ∃ rv ρ', e = .returned rv ∧ HR P base w0 ρ' s' w' ∧ VR ρ' v rv ∧ ρ.le ρ')
def Callable (f : FuncId) : Prop := ∃ fn, P.funcs[f]? = some fn ∧ (fn.name == "runtime.NumGoroutine") = false ∧ fn.body.isNone = false
inductive StepV (ops : Array Oper) (o : Oper) (a : AA) (s : AS) : Value → AS → Prop
  | off : wantedA ops a o = some false → StepV ops o a s undefV s
  | op {v : Value} {s' : AS} : wantedA ops a o = some true → aop P a.ev s o.op = some (v, s') → StepV ops o a s v s'
  | bi {b : Builtin} {args : Array Operand} {ts : Array TypeId} {xs : List Value} {v : Value} {s' : AS} : wantedA ops a o = some true → o.op = .call ⟨.builtin b, args, ts⟩ → evs a.ev args.toList = some xs → aBuiltin P s b ts o.type xs = some (v, s') → StepV ops o a s v s'
  | call {f : Operand} {args : Array Operand} {ts : Array TypeId} {g : FuncId} {xs : List Value} {v : Value} {s' : AS} : wantedA ops a o = some true → o.op = .call ⟨.value f, args, ts⟩ → aCallee a.ev f args = some (.func g, xs) → Callable P g → ACall P base w0 g xs s v s' → StepV ops o a s v s'
  | round {f : Operand} {args : Array Operand} {ts : Array TypeId} {l : Nat} {xs : List Value} {v : Value} {s' : AS} : wantedA ops a o = some true → o.op = .call ⟨.value f, args, ts⟩ → aCallee a.ev f args = some (.yield l, xs) → ARound P base w0 l xs s v s' → StepV ops o a s v s'
def StepR (ops : Array Oper) (o : Oper) (a : AA) (s : AS) (a' : AA) (s' : AS) : Prop := ∃ v, StepV P base w0 ops o a s v s' ∧ a' = a.put o.dst v
inductive StepsR (ops : Array Oper) : List Oper → AA → AS → AA → AS → Prop
  | nil {a : AA} {s : AS} : StepsR ops [] a s a s
  | cons {o : Oper} {l : List Oper} {a a' a'' : AA} {s s' s'' : AS} : StepR P base w0 ops o a s a' s' → StepsR ops l a' s' a'' s'' → StepsR ops (o :: l) a s a'' s''
end
section
variable {P : Program} {base : Nat} {w0 : World} {rd : Option Nat} {ρ : Rho} {a a' : AA} {s s' : AS} {ra : Act} {w : World}
theorem SR.ev (h : SR P base w0 rd ρ a s ra w) : ER ρ a.ev ra.eval := by
  intro x v hx
  cases x with
  | tmp t => exact (h.t t v hx).2
  | const c =>
    simp only [AA.ev] at hx
    cases hp : plainV c with
    | false => simp [hp] at hx
    | true => simp [hp] at hx; subst hx; exact .of_plain hp
  | global g => cases hx
  | func f => cases hx; exact .func .nil
theorem SR.move (h : SR P base w0 rd ρ a s ra w) {ρ' : Rho} {s' : AS} {w' : World} (hl : ρ.le ρ') (hh : HR P base w0 ρ' s' w') : SR P base w0 rd ρ' a s' ra w' :=
  ⟨hh, h.n, fun t v ht => ⟨(h.t t v ht).1, (h.t t v ht).2.mono hl⟩, h.d.mono hl, h.r.mono hl⟩
theorem SR.put (h : SR P base w0 rd ρ a s ra w) (d : Option Tmp) {v v' : Value} (hv : VR ρ v v') : SR P base w0 rd ρ (a.put d v) s (ra.put d v') w := by
  cases d with
  | none => exact h
  | some d =>
    unfold AA.put Act.put
    simp only
    cases hb : Nat.blt d a.n with
    | false =>
      have : ¬ d < a.n := by intro hh; rw [← Nat.blt_eq, hb] at hh; cases hh
      have e : ra.tmps.setIfInBounds d v' = ra.tmps := by
        apply Array.ext_getElem?; intro i; rw [Array.getElem?_setIfInBounds]
        by_cases hi : d = i
        · subst hi; rw [if_pos rfl, if_neg (by rw [h.n]; exact this)]; exact (Array.getElem?_eq_none (by rw [h.n]; exact Nat.le_of_not_lt this)).symm
        · rw [if_neg hi]
      rw [e]; exact h
    | true =>
      have hd : d < a.n := by rw [← Nat.blt_eq]; exact hb
      refine ⟨h.h, by simpa using h.n, fun t u ht => ?_, h.d, h.r⟩
      simp only [cond_true] at ht ⊢
      rw [Tr.get_set] at ht
      by_cases e : t = d
      · subst e
        rw [if_pos rfl] at ht; cases ht
        refine ⟨hd, ?_⟩
        have : (ra.tmps.setIfInBounds t v').getD t undef = v' := by simp [Array.getD, h.n, hd]
        rw [this]; exact hv
      · rw [if_neg e] at ht
        obtain ⟨h1, h2⟩ := h.t t u ht
        refine ⟨h1, ?_⟩
        have : (ra.tmps.setIfInBounds d v').getD t undef = ra.tmps.getD t undef := by
          simp only [Array.getD_eq_getD_getElem?, Array.getElem?_setIfInBounds, if_neg (Ne.symm e)]
        rw [this]; exact h2
theorem wanted_ok (h : SR P base w0 rd ρ a s ra w) {ops : Array Oper} {o : Oper} {b : Bool} (hw : wantedA ops a o = some b) : Region.wanted o (yielded ops ra.tmps) = b := by
  unfold wantedA at hw
  unfold Region.wanted
  cases hg : o.guard with
  | none => rw [hg] at hw; cases hw; rfl
  | some q =>
    obtain ⟨j, want⟩ := q
    rw [hg] at hw
    simp only at hw ⊢
    unfold yielded
    cases hd : (ops[j]?).bind (·.dst) with
    | none => rw [hd] at hw; cases hw
    | some d =>
      rw [hd] at hw
      simp only [Option.bind_some] at hw ⊢
      cases ht : a.tm.get d with
      | none => rw [ht] at hw; cases hw
      | some v =>
        rw [ht] at hw
        obtain ⟨hlt, hv⟩ := h.t d v ht
        have hget : ra.tmps[d]? = some (ra.tmps.getD d undef) := by
          rw [Array.getD_eq_getD_getElem?, Array.getElem?_eq_getElem (by rw [h.n]; exact hlt)]; rfl
        rw [hget]
        generalize ra.tmps.getD d undef = v' at hv
        cases hv <;> first | (cases hw; done) | (cases hw; simp)
theorem FR_fn (rd : Option Nat) (f : FuncId) : (FR rd).fn f := trivial
/-- An operation's step. -/
theorem step_core {ops : Array Oper} {o : Oper} {i : Nat} {v : Value} (hi : ops[i]? = some o) (hs : StepV P base w0 ops o a s v s') (h : SR P base w0 rd ρ a s ra w) {K : Act → World → Prop} {Q : Exit → Act → World → Prop}
    (hK : ∀ ρ' v' w', HR P base w0 ρ' s' w' → VR ρ' v v' → ρ.le ρ' → K (ra.put o.dst v') w') : wpOpIn (FR rd) 0 P ops Q i K ra w := by
  unfold wpOpIn
  rw [hi]
  simp only
  have plainOp : (∀ c, o.op ≠ .defer c) → o.semAt (FR rd).round ra.eval = execOp ra.eval o := fun hd => Oper.semAt_plain (FR rd) ra.eval o hd
  cases hs with
  | off hw =>
    rw [wanted_ok h hw]
    exact ⟨fun f _ => FR_fn rd f, hK ρ _ _ h.h (.tuple .nil) (Rho.le_refl ρ)⟩
  | op hw ha =>
    rw [wanted_ok h hw]
    rw [if_pos rfl]
    obtain ⟨v', w', ρ', hdo, hh, hv, hl⟩ := aop_ok h.h h.ev o ha
    refine ⟨fun f _ => FR_fn rd f, ?_⟩
    rw [plainOp (by intro c hc; rw [hc] at ha; cases ha)]
    rcases hdo with hdo | ⟨hdo, rfl⟩
    · rw [hdo]; exact hK ρ' _ _ hh hv hl
    · rw [hdo]; exact hK ρ' _ _ hh hv hl
  | bi hw ho hx hb =>
    rename_i b args ts xs
    rw [wanted_ok h hw, if_pos rfl]
    refine ⟨fun f _ => FR_fn rd f, ?_⟩
    rw [plainOp (by intro c hc; rw [hc] at ho; cases ho)]
    have hxs := evs_ok h.ev hx
    obtain ⟨v', w', ρ', hr, hh, hv, hl⟩ := builtin_ok (cs := args.map fun | .const _ => true | _ => false) (xs' := args.map ra.eval) h.h (by rw [Array.toList_map]; exact hxs) hb
    have : (execOp ra.eval o).run P w = .ok (.value v') w' := by
      unfold execOp
      rw [ho]
      simp only [resolve, Sem.run_bind, Sem.run_pure, Result.andThen, invoke]
      exact hr
    rw [this]
    exact hK ρ' _ _ hh hv hl
  | call hw ho hc hcall hA =>
    rename_i f args ts g xs
    rw [wanted_ok h hw, if_pos rfl]
    refine ⟨fun f _ => FR_fn rd f, ?_⟩
    rw [plainOp (by intro c hc; rw [hc] at ho; cases ho)]
    unfold aCallee at hc
    cases hf : a.ev f with
    | none => rw [hf] at hc; cases hc
    | some fv =>
      rw [hf] at hc
      cases fv with
      | func fn first cap =>
        cases fn with
        | func g' =>
          simp only at hc
          obtain ⟨hfirst, hc⟩ := ite_some hc
          obtain ⟨ys, hys, hc⟩ := Option.map_eq_some_iff.1 hc
          cases hc
          have hfv := h.ev _ _ hf
          obtain ⟨cap', hcap, hfe⟩ : ∃ cap', VRs ρ cap.toList cap'.toList ∧ ra.eval f = .func (.func g) #[] cap' := by
            generalize ra.eval f = u at hfv
            cases hfv with
            | func hh => exact ⟨_, hh, rfl⟩
          have hargs := evs_ok h.ev hys
          obtain ⟨fn, h1, h2, h3⟩ := hcall
          have hrun : (execOp ra.eval o).run P w = .ok (.enter g ((args.map ra.eval) ++ cap')) w := by
            unfold execOp
            rw [ho]
            simp only [resolve, Sem.run_bind, hfe, Deferred.ofValue, Sem.run_pure, Result.andThen, invoke, callFunc, run_program, h1, h2, h3]
            simp
          rw [hrun]
          refine ⟨fun hd => (by cases hd), ?_⟩
          have := hA ρ ((args.map ra.eval) ++ cap') w h.h (by rw [Array.toList_append, Array.toList_map]; exact VRs.append hcap hargs)
          refine CallsIn.mono (F := FR rd) this ?_
          rintro e w' ⟨rv, ρ', rfl, hh, hv, hl⟩
          exact hK ρ' _ _ hh hv hl
        | yield l => simp only at hc; obtain ⟨_, hc⟩ := ite_some hc; obtain ⟨_, _, hc⟩ := Option.map_eq_some_iff.1 hc; cases hc
        | _ => cases hc
      | _ => cases hc
  | round hw ho hc hA =>
    rename_i f args ts l xs
    rw [wanted_ok h hw, if_pos rfl]
    refine ⟨fun f _ => FR_fn rd f, ?_⟩
    rw [plainOp (by intro c hc; rw [hc] at ho; cases ho)]
    unfold aCallee at hc
    cases hf : a.ev f with
    | none => rw [hf] at hc; cases hc
    | some fv =>
      rw [hf] at hc
      cases fv with
      | func fn first cap =>
        cases fn with
        | func g' => simp only at hc; obtain ⟨_, hc⟩ := ite_some hc; obtain ⟨_, _, hc⟩ := Option.map_eq_some_iff.1 hc; cases hc
        | yield l' =>
          simp only at hc
          obtain ⟨hfirst, hc⟩ := ite_some hc
          obtain ⟨ys, hys, hc⟩ := Option.map_eq_some_iff.1 hc
          cases hc
          have hfv := h.ev _ _ hf
          obtain ⟨x, hx, hfe⟩ : ∃ x, ρ l = some x ∧ ra.eval f = .func (.yield x.r) #[] #[] := by
            generalize ra.eval f = u at hfv
            cases hfv with
            | yield hh => exact ⟨_, hh, rfl⟩
          have hargs := evs_ok h.ev hys
          obtain ⟨fn, tmps, assign, body, hy, hR⟩ := hA ρ (args.map ra.eval) w x h.h (by rw [Array.toList_map]; exact hargs) hx
          have hrun : (execOp ra.eval o).run P w = .ok (.round x.r fn tmps assign body) w := by
            unfold execOp
            rw [ho]
            simp only [resolve, Sem.run_bind, hfe, Deferred.ofValue, Sem.run_pure, Result.andThen, invoke]
            simpa using hy
          rw [hrun]
          refine ⟨fun hd => (by cases hd), ?_⟩
          refine RoundIn.mono (F := FR rd) hR ?_
          rintro e w' ⟨rv, ρ', rfl, hh, hv, hl⟩
          exact hK ρ' _ _ hh hv hl
        | _ => cases hc
      | _ => cases hc
theorem step_ok {ops : Array Oper} {o : Oper} {i : Nat} (hi : ops[i]? = some o) (hs : StepR P base w0 ops o a s a' s') (h : SR P base w0 rd ρ a s ra w) {K : Act → World → Prop} {Q : Exit → Act → World → Prop}
    (hK : ∀ ρ' ra' w', SR P base w0 rd ρ' a' s' ra' w' → ρ.le ρ' → K ra' w') : wpOpIn (FR rd) 0 P ops Q i K ra w := by
  obtain ⟨v, hv, rfl⟩ := hs
  exact step_core hi hv h (fun ρ' v' w' hh hv' hl => hK ρ' _ _ ((h.move hl hh).put _ hv') hl)
theorem steps_ok {ops : Array Oper} : ∀ {l : List Oper} {a a' : AA} {s s' : AS}, StepsR P base w0 ops l a s a' s' → ∀ (k : Nat), ops.toList.drop k = l → ∀ {ρ : Rho} {ra : Act} {w : World}, SR P base w0 rd ρ a s ra w →
    ∀ {Q : Exit → Act → World → Prop}, (∀ ρ' ra' w', SR P base w0 rd ρ' a' s' ra' w' → ρ.le ρ' → Q .normal ra' w') → wpOpsIn (FR rd) 0 P ops Q ((List.range ops.size).drop k) ra w := by
  intro l
  induction l with
  | nil =>
    intro a a' s s' hs k hk ρ ra w h Q hQ
    cases hs
    have : (List.range ops.size).drop k = [] := by
      apply List.drop_eq_nil_of_le
      have := List.drop_eq_nil_iff.1 hk
      simpa using this
    rw [this]
    exact hQ ρ ra w h (Rho.le_refl ρ)
  | cons o l ih =>
    intro a a' s s' hs k hk ρ ra w h Q hQ
    cases hs with
    | cons h1 h2 =>
      have hlt : k < ops.toList.length := by
        rcases Nat.lt_or_ge k ops.toList.length with e | e
        · exact e
        · rw [List.drop_eq_nil_of_le e] at hk; cases hk
      have hget : ops[k]? = some o := by
        rw [← Array.getElem?_toList, ← List.head?_drop, hk]; rfl
      have hdrop : (List.range ops.size).drop k = k :: (List.range ops.size).drop (k + 1) := by
        rw [List.drop_eq_getElem_cons (by simpa using hlt)]; simp
      rw [hdrop, wpOpsIn_cons]
      refine step_ok hget h1 h (fun ρ' ra' w' h' hl => ih h2 (k + 1) ?_ h' (fun ρ'' ra'' w'' h'' hl' => hQ ρ'' ra'' w'' h'' (Rho.le_trans hl hl')))
      rw [← List.drop_drop, hk]; rfl
theorem ex_region {id : Nat} {ops : Array Oper} (hs : StepsR P base w0 ops ops.toList a s a' s') : AEx P base w0 (.region id ops false) a s .normal a' s' := by
  intro rd ρ ra w h
  have := steps_ok (rd := rd) hs 0 rfl h (Q := fun e' ra' w' => e' = Exit.normal ∧ ∃ ρ', SR P base w0 rd ρ' a' s' ra' w' ∧ ρ.le ρ') (fun ρ' ra' w' h' hl => ⟨rfl, ρ', h', hl⟩)
  exact wpIn_region this
theorem ex_skip : AEx P base w0 .skip a s .normal a s := fun rd ρ ra w h => wpIn_skip ⟨rfl, ρ, h, Rho.le_refl ρ⟩
theorem ex_label {l : Nat} : AEx P base w0 (.label l) a s .normal a s := fun rd ρ ra w h => wpIn_label ⟨rfl, ρ, h, Rho.le_refl ρ⟩
theorem ex_exit {id : Nat} : AEx P base w0 (.exit id) a s (.exit id) a s := fun rd ρ ra w h => wpIn_exit ⟨rfl, ρ, h, Rho.le_refl ρ⟩
theorem ex_goto {l : Nat} : AEx P base w0 (.goto l) a s (.goto l) a s := fun rd ρ ra w h => wpIn_goto ⟨rfl, ρ, h, Rho.le_refl ρ⟩
theorem ex_ret : AEx P base w0 .ret a s .ret a s := fun rd ρ ra w h => wpIn_ret ⟨rfl, ρ, h, Rho.le_refl ρ⟩
theorem ex_seq {x y : Code} {e : AExit} {a1 : AA} {s1 : AS} (h1 : AEx P base w0 x a s .normal a1 s1) (h2 : AEx P base w0 y a1 s1 e a' s') : AEx P base w0 (.seq x y) a s e a' s' := by
  intro rd ρ ra w h
  refine wpIn_seq (wpIn_mono (h1 rd ρ ra w h) ?_)
  rintro e1 ra1 w1 ⟨rfl, ρ1, hs1, hl1⟩
  refine wpIn_mono (h2 rd ρ1 ra1 w1 hs1) ?_
  rintro e2 ra2 w2 ⟨rfl, ρ2, hs2, hl2⟩
  exact ⟨rfl, ρ2, hs2, Rho.le_trans hl1 hl2⟩
theorem ex_seq_out {x y : Code} {e : AExit} (he : e ≠ .normal) (h1 : AEx P base w0 x a s e a' s') : AEx P base w0 (.seq x y) a s e a' s' := by
  intro rd ρ ra w h
  refine wpIn_seq (wpIn_mono (h1 rd ρ ra w h) ?_)
  rintro e1 ra1 w1 ⟨rfl, ρ1, hs1, hl1⟩
  cases e with
  | normal => exact absurd rfl he
  | exit id => exact ⟨rfl, ρ1, hs1, hl1⟩
  | goto l => exact ⟨rfl, ρ1, hs1, hl1⟩
  | ret => exact ⟨rfl, ρ1, hs1, hl1⟩
theorem ex_cond {c : Operand} {x y : Code} {b : Bool} {e : AExit} (hc : a.ev c = some (.bool b)) (h1 : AEx P base w0 (if b = true then x else y) a s e a' s') : AEx P base w0 (.cond c x y) a s e a' s' := by
  intro rd ρ ra w h
  have hcb : ra.eval c = .bool b := (h.ev _ _ hc).plain rfl
  exact wpIn_cond hcb (h1 rd ρ ra w h)
theorem ex_block_here {id : Nat} {x : Code} (h1 : AEx P base w0 x a s (.exit id) a' s') : AEx P base w0 (.block id x) a s .normal a' s' := by
  intro rd ρ ra w h
  refine wpIn_block (wpIn_mono (h1 rd ρ ra w h) ?_)
  rintro e1 ra1 w1 ⟨rfl, ρ1, hs1, hl1⟩
  simp only [AExit.real, Exit.inBlock, if_true]
  exact ⟨trivial, ρ1, hs1, hl1⟩
theorem ex_block {id : Nat} {x : Code} {e : AExit} (he : e ≠ .exit id) (h1 : AEx P base w0 x a s e a' s') : AEx P base w0 (.block id x) a s e a' s' := by
  intro rd ρ ra w h
  refine wpIn_block (wpIn_mono (h1 rd ρ ra w h) ?_)
  rintro e1 ra1 w1 ⟨rfl, ρ1, hs1, hl1⟩
  cases e with
  | normal => exact ⟨rfl, ρ1, hs1, hl1⟩
  | exit j =>
    have : j ≠ id := fun hh => he (by rw [hh])
    simp only [AExit.real, Exit.inBlock, if_neg this]
    exact ⟨trivial, ρ1, hs1, hl1⟩
  | goto l => exact ⟨rfl, ρ1, hs1, hl1⟩
  | ret => exact ⟨rfl, ρ1, hs1, hl1⟩
inductive LoopR (P : Program) (base : Nat) (w0 : World) (c : Code) : AA → AS → AExit → AA → AS → Prop
  | out {a a' : AA} {s s' : AS} {e : AExit} : e ≠ .normal → AEx P base w0 c a s e a' s' → LoopR P base w0 c a s e a' s'
  | round {a a1 a' : AA} {s s1 s' : AS} {e : AExit} : AEx P base w0 c a s .normal a1 s1 → LoopR P base w0 c a1 s1 e a' s' → LoopR P base w0 c a s e a' s'
theorem ex_loop {c : Code} {e : AExit} (h : LoopR P base w0 c a s e a' s') : AEx P base w0 (.loop c) a s e a' s' := by
  intro rd ρ ra w hsr b k cs hro hb hr
  suffices key : ∀ {a a' : AA} {s s' : AS} {e : AExit}, LoopR P base w0 c a s e a' s' → ∀ (ρ : Rho) (ra : Act) (w : World), SR P base w0 rd ρ a s ra w →
      ∃ e' ra' w', (e' = e.real ∧ ∃ ρ', SR P base w0 rd ρ' a' s' ra' w' ∧ ρ.le ρ') ∧ ArrivesIn (Machine.fenced P (FR rd)) P (lone (b.atR ra (.code c :: .inLoop c :: k)) cs w) b k cs e' ra' w' by
    obtain ⟨e', ra', w', hq, harr⟩ := key h ρ ra w hsr
    exact ⟨e', ra', w', hq, .of_steps (.one (fenced_calm hb hr rfl) stepR_loop) harr⟩
  clear h hsr
  intro a a' s s' e h
  induction h with
  | @out a1 a2 s1 s2 e0 he h1 =>
    intro ρ ra w hsr
    obtain ⟨e1, ra1, w1, ⟨rfl, hq⟩, harr⟩ := h1 rd ρ ra w hsr b (.inLoop c :: k) cs hro hb hr
    refine ⟨_, ra1, w1, ⟨rfl, hq⟩, .pass (x := .inLoop c) rfl (fun _ _ => .inl ?_) harr⟩
    cases e0 <;> first | exact absurd rfl he | (intro hh; cases hh)
  | round h1 h2 ih =>
    intro ρ ra w hsr
    obtain ⟨e1, ra1, w1, ⟨rfl, ρ1, hs1, hl1⟩, harr⟩ := h1 rd ρ ra w hsr b (.inLoop c :: k) cs hro hb hr
    obtain ⟨e2, ra2, w2, ⟨rfl, ρ2, hs2, hl2⟩, harr2⟩ := ih ρ1 ra1 w1 hs1
    exact ⟨_, ra2, w2, ⟨rfl, ρ2, hs2, Rho.le_trans hl1 hl2⟩, .of_steps (StepsIn.trans harr (.one (fenced_calm hb hr rfl) stepR_inLoop)) harr2⟩
end
end Go.Proofs.YtchjiocljlbhkaaW.Mill
