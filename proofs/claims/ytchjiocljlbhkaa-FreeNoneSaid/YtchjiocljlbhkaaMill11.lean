/- What the small machine computes, the model computes (the session's own). -/
import Derived.Test.YtchjiocljlbhkaaMill10
namespace Go.Proofs.YtchjiocljlbhkaaW.Mill
open Go Go.RowKit
set_option linter.unusedVariables false
set_option linter.unusedSimpArgs false
section
variable {P : Program} {base : Nat} {w0 : World}
theorem veq1_eq {a b : Value} (h : veq1 a b = true) : a = b := by
  cases a <;> cases b <;> first | (simp [veq1] at h; done) | skip
  · simp [veq1] at h; rw [h]
  · simp [veq1] at h; rw [h.1, h.2]
  · rename_i a b; simp only [veq1, beq_iff_eq] at h; have := Array.ext' h; cases a; cases b; simp at this; rw [this]
  · rename_i a b; cases a <;> cases b <;> simp [veq1] at h <;> simp [h]
  · rename_i a n c b m d; cases a <;> cases b <;> simp [veq1] at h <;> simp [h]
  · simp [veq1] at h; rw [h]
  · rfl
  · rfl
theorem veqs_eq : ∀ {a b : List Value}, veqs a b = true → a = b
  | [], [], _ => rfl
  | a :: l, b :: m, h => by
    simp only [veqs, Bool.and_eq_true] at h
    rw [veq1_eq h.1, veqs_eq h.2]
  | [], _ :: _, h => by cases h
  | _ :: _, [], h => by cases h
theorem veq_eq {a b : Value} (h : veq a b = true) : a = b := by
  unfold veq at h
  split at h
  · rw [Array.ext' (veqs_eq h)]
  · rw [Array.ext' (veqs_eq h)]
  · simp only [Bool.and_eq_true, beq_iff_eq, Array.isEmpty_iff] at h
    obtain ⟨⟨⟨rfl, rfl⟩, rfl⟩, h⟩ := h
    rw [Array.ext' (veqs_eq h)]
  · exact veq1_eq h
structure CallOK (P : Program) (base : Nat) (w0 : World) (call : Calling) : Prop where
  f : ∀ f xs s v s', call (.func f) xs s = some (v, s') → Callable P f ∧ ACall P base w0 f xs s v s'
  l : ∀ l xs s v s', call (.yield l) xs s = some (v, s') → ARound P base w0 l xs s v s'
theorem aCallee_kind {ev : Operand → Option Value} {f : Operand} {args : Array Operand} {c : Fn × List Value} (h : aCallee ev f args = some c) : (∃ g, c.1 = .func g) ∨ (∃ l, c.1 = .yield l) := by
  unfold aCallee at h
  split at h
  · split at h
    · obtain ⟨_, h⟩ := ite_some h; obtain ⟨_, _, h⟩ := Option.map_eq_some_iff.1 h; cases h; exact .inl ⟨_, rfl⟩
    · obtain ⟨_, h⟩ := ite_some h; obtain ⟨_, _, h⟩ := Option.map_eq_some_iff.1 h; cases h; exact .inr ⟨_, rfl⟩
    · cases h
  · cases h
theorem stepVF_ok {call : Calling} (hc : CallOK P base w0 call) {ops : Array Oper} {o : Oper} {a : AA} {s s' : AS} {v : Value} (h : stepVF P call ops o a s = some (v, s')) : StepV P base w0 ops o a s v s' := by
  unfold stepVF at h
  cases hw : wantedA ops a o with
  | none => rw [hw] at h; cases h
  | some b =>
    rw [hw] at h
    cases b with
    | false => cases h; exact .off hw
    | true =>
      simp only at h
      split at h
      · rename_i b args ts ho
        obtain ⟨xs, hx, h⟩ := Option.bind_eq_some_iff.1 h
        exact .bi hw ho hx h
      · rename_i f args ts ho
        obtain ⟨c, hcc, h⟩ := Option.bind_eq_some_iff.1 h
        obtain ⟨fn, xs⟩ := c
        rcases aCallee_kind hcc with ⟨g, e⟩ | ⟨l, e⟩
        · simp only at e h; subst e
          obtain ⟨h1, h2⟩ := hc.f _ _ _ _ _ h
          exact .call hw ho hcc h1 h2
        · simp only at e h; subst e
          exact .round hw ho hcc (hc.l _ _ _ _ _ h)
      · exact .op hw h
theorem stepsO_ok {call : Calling} (hc : CallOK P base w0 call) {ops : Array Oper} : ∀ {l : List Oper} {a a' : AA} {s s' : AS}, stepsO P call ops l a s = some (a', s') → StepsR P base w0 ops l a s a' s'
  | [], a, a', s, s', h => by cases h; exact .nil
  | o :: l, a, a', s, s', h => by
    obtain ⟨r, hr, h⟩ := Option.bind_eq_some_iff.1 h
    exact .cons ⟨r.1, stepVF_ok hc hr, rfl⟩ (stepsO_ok hc h)
theorem trace_ok {call : Calling} {ops : Array Oper} : ∀ {l : List Oper} {a : AA} {s : AS} {t : List (AA × AS × Value)}, trace P call ops l a s = some t →
    t.length = l.length + 1 ∧ (∃ v, t[0]? = some (a, s, v)) ∧ ∀ (i : Nat) (o : Oper), l[i]? = some o → ∃ ai si vi aj sj vj, t[i]? = some (ai, si, vi) ∧ t[i + 1]? = some (aj, sj, vj) ∧ stepVF P call ops o ai si = some (vi, sj) ∧ aj = ai.put o.dst vi
  | [], a, s, t, h => by cases h; exact ⟨rfl, ⟨_, rfl⟩, fun i o hi => by simp at hi⟩
  | o :: l, a, s, t, h => by
    obtain ⟨r, hr, h⟩ := Option.bind_eq_some_iff.1 h
    obtain ⟨t', ht, h⟩ := Option.map_eq_some_iff.1 h
    subst h
    obtain ⟨h1, ⟨v0, h2⟩, h3⟩ := trace_ok ht
    refine ⟨by simp [h1], ⟨_, rfl⟩, fun i o' hi => ?_⟩
    cases i with
    | zero =>
      simp at hi; subst hi
      exact ⟨a, s, r.1, _, _, v0, rfl, by simpa using h2, hr, rfl⟩
    | succ i =>
      obtain ⟨ai, si, vi, aj, sj, vj, e1, e2, e3, e4⟩ := h3 i o' (by simpa using hi)
      exact ⟨ai, si, vi, aj, sj, vj, by simpa using e1, by simpa using e2, e3, e4⟩
theorem only_same {s s' : AS} {v : Value} {o : Option Value} (h : o.map (·, s) = some (v, s')) : s' = s := by
  obtain ⟨u, _, h⟩ := Option.map_eq_some_iff.1 h
  cases h; rfl
theorem aop_calm {ev : Operand → Option Value} {s s' : AS} {v : Value} {o : Oper} (he : effB P o = false) (h : aop P ev s o.op = some (v, s')) : s' = s := by
  unfold effB at he
  cases ho : o.op <;> rw [ho] at he h <;> simp only [aop] at h <;> first | (cases he; done) | skip
  all_goals (try (exact only_same h))
  case call c => cases h
  case pick c a b => split at h <;> first | exact only_same h | cases h
  case build t ps => obtain ⟨_, _, h⟩ := Option.bind_eq_some_iff.1 h; exact only_same h
  case load t a => obtain ⟨_, _, h⟩ := Option.bind_eq_some_iff.1 h; exact only_same h
  case nilCheck x => obtain ⟨u, _, h⟩ := Option.bind_eq_some_iff.1 h; split at h <;> first | (cases h; rfl) | cases h
  case binOp op t x y yt => obtain ⟨_, _, h⟩ := Option.bind_eq_some_iff.1 h; obtain ⟨_, _, h⟩ := Option.bind_eq_some_iff.1 h; exact only_same h
  case unOp op t x => obtain ⟨_, _, h⟩ := Option.bind_eq_some_iff.1 h; exact only_same (ite_some h).2
  case convert src dst x =>
    have he' : (match P.underlying dst with | some (.slice _) => true | _ => false) = false := he
    obtain ⟨u, _, h⟩ := Option.bind_eq_some_iff.1 h
    unfold aConvert at h
    split at h
    · split at h
      · split at h <;> first | (cases h; rfl) | cases h
      · cases h
    · split at h
      · split at h
        · obtain ⟨_, _, h⟩ := Option.bind_eq_some_iff.1 h
          obtain ⟨_, _, h⟩ := Option.map_eq_some_iff.1 h
          cases h; rfl
        · cases h
      · cases h
    · split at h
      · rw [‹P.underlying dst = some (TypeDesc.slice _)›] at he'; cases he'
      · exact only_same h
    · exact only_same (ite_some h).2
  case makeInterface t x => obtain ⟨u, _, h⟩ := Option.bind_eq_some_iff.1 h; split at h <;> first | (cases h; rfl) | cases h
  case makeFunc fn first cap => split at h <;> first | cases h | (obtain ⟨_, _, h⟩ := Option.map_eq_some_iff.1 h; cases h; rfl)
  case slice t x lo hi mx =>
    obtain ⟨u, _, h⟩ := Option.bind_eq_some_iff.1 h
    split at h
    · exact only_same h
    · obtain ⟨_, _, h⟩ := Option.bind_eq_some_iff.1 h; obtain ⟨_, _, h⟩ := Option.bind_eq_some_iff.1 h; obtain ⟨_, _, h⟩ := Option.bind_eq_some_iff.1 h; exact only_same h
  case fieldAddr t x i =>
    obtain ⟨u, _, h⟩ := Option.bind_eq_some_iff.1 h
    split at h
    · split at h <;> first | (cases h; rfl) | cases h
    · cases h
  case field t x i =>
    obtain ⟨u, _, h⟩ := Option.bind_eq_some_iff.1 h
    split at h
    · exact only_same h
    · cases h
  case indexAddr t x i => obtain ⟨_, _, h⟩ := Option.bind_eq_some_iff.1 h; obtain ⟨_, _, h⟩ := Option.bind_eq_some_iff.1 h; obtain ⟨_, _, h⟩ := Option.bind_eq_some_iff.1 h; exact only_same h
  case index t x i =>
    obtain ⟨_, _, h⟩ := Option.bind_eq_some_iff.1 h; obtain ⟨_, _, h⟩ := Option.bind_eq_some_iff.1 h
    split at h
    · obtain ⟨_, h⟩ := ite_some h; obtain ⟨_, _, h⟩ := Option.bind_eq_some_iff.1 h; exact only_same h
    · exact only_same h
    · cases h
  case lookup t m k ok => obtain ⟨_, _, h⟩ := Option.bind_eq_some_iff.1 h; obtain ⟨_, _, h⟩ := Option.bind_eq_some_iff.1 h; exact only_same h
  case extract x i =>
    obtain ⟨_, _, h⟩ := Option.bind_eq_some_iff.1 h
    split at h
    · exact only_same h
    · cases h
theorem bi_calm {s s' : AS} {v : Value} {b : Builtin} {ts : Array TypeId} {ty : TypeId} {xs : List Value} (hb : b = .len ∨ b = .cap ∨ b = .min ∨ b = .max) (h : aBuiltin P s b ts ty xs = some (v, s')) : s' = s := by
  unfold aBuiltin at h
  generalize ts.toList = tl at h
  rcases hb with rfl | rfl | rfl | rfl
  · cases tl with
    | nil => cases h
    | cons t tl => cases xs with
      | nil => cases h
      | cons x xs => cases xs with
        | nil => exact only_same h
        | cons _ _ => cases h
  · cases tl with
    | nil => cases h
    | cons t tl => cases xs with
      | nil => cases h
      | cons x xs => cases xs with
        | nil => exact only_same h
        | cons _ _ => cases h
  · cases tl <;> exact only_same (ite_some h).2
  · cases tl <;> exact only_same (ite_some h).2
theorem stepVF_calm {call : Calling} {ops : Array Oper} {o : Oper} {a : AA} {s s' : AS} {v : Value} (he : effB P o = false) (h : stepVF P call ops o a s = some (v, s')) : s' = s := by
  unfold stepVF at h
  cases hw : wantedA ops a o with
  | none => rw [hw] at h; cases h
  | some b =>
    rw [hw] at h
    cases b with
    | false => cases h; rfl
    | true =>
      simp only at h
      split at h
      · rename_i b args ts ho
        obtain ⟨xs, hx, h⟩ := Option.bind_eq_some_iff.1 h
        unfold effB at he
        rw [ho] at he
        refine bi_calm ?_ h
        cases b <;> first | (cases he; done) | simp
      · rename_i f args ts ho
        unfold effB at he
        rw [ho] at he; cases he
      · exact aop_calm he h
theorem ranges_all {n : Nat} {p : Nat → Bool} (h : ranges n p = true) : ∀ i, i < n → p i = true := fun i hi => List.all_eq_true.1 h i (List.mem_range.2 hi)
theorem all_ranges {n : Nat} {p : Nat → Bool} (h : ∀ i, i < n → p i = true) : ranges n p = true := List.all_eq_true.2 fun i hi => h i (List.mem_range.1 hi)
theorem ex_drawF {call : Calling} (hc : CallOK P base w0 call) (hm : P.follows .mixedOrders = true) {id : Nat} {ops : Array Oper} {a : AA} {s : AS} {t : List (AA × AS × Value)} {x : AA × AS × Value} (ht : trace P call ops ops.toList a s = some t) (hd : drawnB P call ops t = true) (hx : t[ops.size]? = some x) :
    AEx P base w0 (.region id ops true) a s .normal x.1 x.2.1 := by
  obtain ⟨h1, ⟨v0, h2⟩, h3⟩ := trace_ok ht
  rw [Array.length_toList] at h1
  let d : AA × AS × Value := (⟨.nil, 0, [], none⟩, .empty, undefV)
  have hget : ∀ i y, t[i]? = some y → t.getD i d = y := fun i y hy => by rw [List.getD_eq_getElem?_getD, hy]; rfl
  have hstep : ∀ (i : Nat) (o : Oper), ops[i]? = some o → stepVF P call ops o (t.getD i d).1 (t.getD i d).2.1 = some ((t.getD i d).2.2, (t.getD (i + 1) d).2.1) ∧ (t.getD (i + 1) d).1 = (t.getD i d).1.put o.dst (t.getD i d).2.2 := by
    intro i o ho
    obtain ⟨ai, si, vi, aj, sj, vj, e1, e2, e3, e4⟩ := h3 i o (by rw [Array.getElem?_toList]; exact ho)
    rw [hget i _ e1, hget (i + 1) _ e2]
    exact ⟨e3, e4⟩
  unfold drawnB at hd
  simp only [Bool.and_eq_true] at hd
  obtain ⟨⟨d1, d2⟩, d3⟩ := hd
  have heff : ∀ (i : Nat) (o : Oper), ops[i]? = some o → effAt P ops i = effB P o := fun i o ho => by unfold effAt; rw [ho]
  have hpair : ∀ (i j : Nat) (o o' : Oper), ops[i]? = some o → ops[j]? = some o' → i ≠ j →
      (∀ dd, o.dst = some dd → o'.dst = some dd → False) ∧ (∀ tt, o.dst = some tt → tt ∈ looks ops o' → (precB ops i j = true ∧ i < j) ∨ (precB ops j i = true ∧ j < i)) ∧ (i < j → effAt P ops i = true → effAt P ops j = true → precB ops i j = true) := by
    intro i j o o' ho ho' hij
    have := ranges_all (ranges_all d2 i (Array.getElem?_eq_some_iff.1 ho).1) j (Array.getElem?_eq_some_iff.1 ho').1
    have hne : Nat.beq i j = false := by rw [Bool.eq_false_iff]; intro hh; exact hij (Nat.eq_of_beq_eq_true hh)
    rw [hne, ho, ho'] at this
    simp only [Bool.false_or, Bool.and_eq_true] at this
    obtain ⟨⟨p1, p2⟩, p3⟩ := this
    refine ⟨fun dd e1 e2 => ?_, fun tt e1 e2 => ?_, fun hlt e1 e2 => ?_⟩
    · rw [e1, e2] at p1; simp [Nat.beq_refl] at p1
    · rw [e1] at p2
      simp only [Bool.or_eq_true, Bool.and_eq_true, Bool.not_eq_true'] at p2
      rcases p2 with (p2 | p2) | p2
      · rw [List.contains_iff_mem.2 e2] at p2; cases p2
      · exact .inl ⟨p2.1, by rw [← Nat.blt_eq]; exact p2.2⟩
      · exact .inr ⟨p2.1, by rw [← Nat.blt_eq]; exact p2.2⟩
    · simp only [e1, e2, Bool.not_true, Bool.or_false, Bool.or_eq_true, Bool.not_eq_true'] at p3
      rcases p3 with p3 | p3
      · rw [← Nat.blt_eq, p3] at hlt; cases hlt
      · exact p3
  have hD : Drawn P base w0 ops (fun i => (t.getD i d).1) (fun i => (t.getD i d).2.1) (fun i => (t.getD i d).2.2) (effAt P ops) := by
    refine ⟨fun i o ho => ⟨stepVF_ok hc (hstep i o ho).1, (hstep i o ho).2⟩, fun i o ho he => ?_, fun i j hij hj e1 e2 => ?_, fun j o ho e he hb => ?_, fun i j o o' dd ho ho' e1 e2 => ?_, fun i j o o' tt ho ho' e1 e2 hij => (hpair i j o o' ho ho' hij).2.1 tt e1 e2⟩
    · rw [heff i o ho] at he
      refine ⟨stepVF_calm he (hstep i o ho).1, fun k hk hall => ?_⟩
      have := ranges_all d3 i (Array.getElem?_eq_some_iff.1 ho).1
      rw [heff i o ho, he, Bool.false_or] at this
      have := ranges_all this k (by omega)
      rw [ho] at this
      have hcond : (ranges ops.size fun j => !effAt P ops j || ((!precB ops j i || Nat.blt j k) && (!precB ops i j || Nat.ble k j))) = true := by
        refine all_ranges fun j hj => ?_
        cases hej : effAt P ops j with
        | false => rfl
        | true =>
          obtain ⟨g1, g2⟩ := hall j hj hej
          simp only [Bool.or_eq_true, Bool.and_eq_true, Bool.not_eq_true']
          refine .inr ⟨?_, ?_⟩
          · cases hp : precB ops j i with
            | false => exact .inl rfl
            | true => exact .inr (by rw [Nat.blt_eq]; exact g1 hp)
          · cases hp : precB ops i j with
            | false => exact .inl rfl
            | true => exact .inr (Nat.ble_eq_true_of_le (g2 hp))
      rw [hcond] at this
      simp only [Bool.not_true, Bool.false_or] at this
      split at this
      · rename_i u s2 hst
        have e2 := stepVF_calm he hst
        have e3 := veq_eq this
        subst e2
        have := stepVF_ok hc hst
        rw [e3] at this
        exact this
      · cases this
    · have hio : ops[i]? = some ops[i] := Array.getElem?_eq_getElem (by omega)
      have hjo : ops[j]? = some ops[j] := Array.getElem?_eq_getElem hj
      exact (hpair i j _ _ hio hjo (by omega)).2.2 hij e1 e2
    · have := ranges_all d1 j (Array.getElem?_eq_some_iff.1 ho).1
      rw [ho] at this
      have := List.all_eq_true.1 this e he
      rw [hb] at this
      simp only [Bool.not_true, Bool.false_or] at this
      rw [← Nat.blt_eq]; exact this
    · rcases Nat.decEq i j with hij | hij
      · exact ((hpair i j o o' ho ho' hij).1 dd e1 e2).elim
      · exact hij
  have := ex_draw (id := id) hm hD
  rw [hget 0 _ h2, hget _ _ hx] at this
  exact this

/-! ### code and calls -/
theorem loopF_ok {f : AA → AS → Out} {c : Code} (hf : ∀ a s e a' s', f a s = some (e, a', s') → AEx P base w0 c a s e a' s') : ∀ (n : Nat) {a a' : AA} {s s' : AS} {e : AExit}, loopF f n a s = some (e, a', s') → LoopR P base w0 c a s e a' s'
  | 0, a, a', s, s', e, h => by cases h
  | n + 1, a, a', s, s', e, h => by
    unfold loopF at h
    split at h
    · rename_i a1 s1 h1
      exact .round (hf _ _ _ _ _ h1) (loopF_ok hf n h)
    · rename_i r hne
      refine .out (fun he => ?_) (hf _ _ _ _ _ h)
      subst he
      exact hne _ _ h
theorem jump_wp {rd : Option Nat} {c : Code} {e : AExit} {Q : Exit → Act → World → Prop} {ra : Act} {w : World} (hj : jumpOf (some c) = some e) (hQ : Q e.real ra w) : c.wpIn (FR rd) 0 P Q ra w := by
  unfold jumpOf at hj
  cases c <;> first | (cases hj; done) | (cases hj; exact wpIn_ret hQ) | (cases hj; exact wpIn_exit hQ) | (cases hj; exact wpIn_goto hQ)
theorem run_getLoop {w : World} {r : Nat} {L : Loop} (h : w.heap[r]? = some (.loop L)) : (Instr.getLoop r).run P w = .ok L w := by
  have : (getObj r).run P w = .ok (.loop L) w := by simp [getObj, Sem.run, h]
  simp [Instr.getLoop, this]
theorem run_setLoop {w : World} {r : Nat} {L : Loop} (h : w.heap[r]? = some (.loop L)) (O : Obj) : (setObj r O).run P w = .ok () { w with heap := w.heap.setIfInBounds r O } := by
  simp [setObj, Sem.run, h]
theorem own_loop {ρ : Rho} {s : AS} {w : World} (h : HR P base w0 ρ s w) {l : Nat} {st : LoopState} {pend : Option Code} {tm : Tr Value} {n : Nat} {ps : List Tmp} {assign body : Code} {dfr : Nat} {x : Ren} (hb : s.get l = some (.loop st pend tm n ps assign body dfr)) (hx : ρ l = some x) :
    ∃ L : Loop, w.heap[x.r]? = some (.loop L) ∧ base ≤ x.r ∧ L.state = st ∧ L.pending = pend ∧ L.tmps.size = n ∧ (∀ t v, tm.get t = some v → t < n ∧ VR ρ v (L.tmps.getD t undef)) ∧ L.params.toList = ps ∧ L.assign = assign ∧ L.body = body ∧ ∃ y, ρ dfr = some y ∧ y.r = L.defers := by
  obtain ⟨x', hx', hok⟩ := h.obj l _ hb
  rw [hx] at hx'; cases hx'
  exact hok
theorem upd_loop {ρ : Rho} {s : AS} {w : World} (h : HR P base w0 ρ s w) {l : Nat} {st : LoopState} {pend : Option Code} {tm : Tr Value} {n : Nat} {ps : List Tmp} {assign body : Code} {dfr : Nat} {x : Ren} (hb : s.get l = some (.loop st pend tm n ps assign body dfr)) (hx : ρ l = some x) {L : Loop} (hL : w.heap[x.r]? = some (.loop L)) (st' : LoopState) (pend' : Option Code) :
    HR P base w0 ρ (s.put l (.loop st' pend' tm n ps assign body dfr)) { w with heap := w.heap.setIfInBounds x.r (.loop { L with state := st', pending := pend' }) } := by
  obtain ⟨L', h1, h2, h3, h4, h5, h6, h7, h8, h9, h10⟩ := own_loop h hb hx
  rw [hL] at h1; cases h1
  exact h.upd hb rfl hx (upd_setObj hL) rfl ⟨_, (upd_setObj hL).at_, h2, rfl, rfl, h5, h6, h7, h8, h9, h10⟩
theorem ex_rangeFunc {g : Operand} {ps : Array Tmp} {assign body : Code} {a : AA} {s s1 s2 : AS} {l f : Nat} {df : List Nat} {first cap : Array Value} {v : Value} {st : LoopState} {pend : Option Code} {tm : Tr Value} {n : Nat} {ps2 : List Tmp} {as2 bd2 : Code} {dfr : Nat} {e : AExit}
    (he : enterF a s ps assign body = some (l, df, s1)) (hg : a.ev g = some (.func (.func f) first cap)) (hcal : Callable P f) (hA : ACall P base w0 f ([.func (.yield l) #[] #[]] ++ cap.toList) s1 v s2)
    (hl : s2.get l = some (.loop st pend tm n ps2 as2 bd2 dfr)) (hst : st ≠ .busy) (hj : jumpOf pend = some e) :
    AEx P base w0 (.rangeFunc g ps assign body) a s e { a with df := df } (s2.put l (.loop .exhausted pend tm n ps2 as2 bd2 dfr)) := by
  intro rd ρ ra w h
  refine wpIn_rangeFunc fun fn _ => ?_
  -- the loop's record
  have enter : ∃ l' mark w1 ρ1, (Instr.enterLoop fn ra.tmps ps assign body rd).run P w = .ok (l', mark) w1 ∧ HR P base w0 ρ1 s1 w1 ∧ ρ.le ρ1 ∧ (∃ y, ρ1 l = some y ∧ y.r = l') ∧ DR ρ1 df (mark ++ ra.defers) := by
    unfold enterF at he
    cases hrd : a.rd with
    | none =>
      rw [hrd] at he
      cases he
      have hr := h.r
      rw [hrd] at hr
      cases rd with
      | some _ => exact hr.elim
      | none =>
        have h1 : HR P base w0 (ρ.set s.size ⟨w.heap.size, 0, 0, 0⟩) (s.push .defd) (w.alloc (.deferred (some []))) := h.h.push ⟨heap_alloc_new .., h.h.big⟩
        have l1 : ρ.le (ρ.set s.size ⟨w.heap.size, 0, 0, 0⟩) := Rho.le_set _ h.h.fresh
        let L : Loop := { state := .ready, pending := none, fn, tmps := ra.tmps, params := ps, assign, body, defers := w.heap.size }
        have l2 : (ρ.set s.size ⟨w.heap.size, 0, 0, 0⟩).le ((ρ.set s.size ⟨w.heap.size, 0, 0, 0⟩).set (s.push .defd).size ⟨(w.alloc (.deferred (some []))).heap.size, 0, 0, 0⟩) := Rho.le_set _ h1.fresh
        have h2 : HR P base w0 ((ρ.set s.size ⟨w.heap.size, 0, 0, 0⟩).set (s.push .defd).size ⟨(w.alloc (.deferred (some []))).heap.size, 0, 0, 0⟩) ((s.push .defd).push (.loop .ready none a.tm a.n ps.toList assign body s.size)) ((w.alloc (.deferred (some []))).alloc (.loop L)) :=
          h1.push ⟨L, heap_alloc_new .., h1.big, rfl, rfl, h.n, fun t v ht => ⟨(h.t t v ht).1, ((h.t t v ht).2.mono l1).mono l2⟩, rfl, rfl, rfl, _, l2 _ _ (Rho.set_self ρ _ _), rfl⟩
        refine ⟨w.heap.size + 1, [{ target := .collected w.heap.size, args := #[] }], _, _, ?_, h2, Rho.le_trans l1 l2, ⟨_, Rho.set_self _ _ _, by simp⟩, ⟨⟨_, l2 _ _ (Rho.set_self ρ _ _), rfl⟩, (h.d.mono l1).mono l2⟩⟩
        simp only [Instr.enterLoop, Sem.run_bind, run_newObj, Result.andThen, Sem.run_pure, World.alloc_eq, World.size_alloc]
        rfl
    | some l0 =>
      rw [hrd] at he
      simp only at he
      have hr := h.r
      rw [hrd] at hr
      cases rd with
      | none => exact hr.elim
      | some r0 =>
        obtain ⟨x0, hx0, rfl⟩ := hr
        cases hg0 : s.get l0 with
        | none => rw [hg0] at he; cases he
        | some ob =>
          rw [hg0] at he
          cases ob with
          | loop st0 pend0 tm0 n0 ps0 as0 bd0 dfr0 =>
            cases he
            obtain ⟨L0, g1, g2, g3, g4, g5, g6, g7, g8, g9, y0, g10, g11⟩ := own_loop h.h hg0 hx0
            let L : Loop := { state := .ready, pending := none, fn, tmps := ra.tmps, params := ps, assign, body, defers := L0.defers }
            have l1 : ρ.le (ρ.set s.size ⟨w.heap.size, 0, 0, 0⟩) := Rho.le_set _ h.h.fresh
            have h2 : HR P base w0 (ρ.set s.size ⟨w.heap.size, 0, 0, 0⟩) (s.push (.loop .ready none a.tm a.n ps.toList assign body dfr0)) (w.alloc (.loop L)) :=
              h.h.push ⟨L, heap_alloc_new .., h.h.big, rfl, rfl, h.n, fun t v ht => ⟨(h.t t v ht).1, (h.t t v ht).2.mono l1⟩, rfl, rfl, rfl, y0, l1 _ _ g10, g11⟩
            refine ⟨w.heap.size, [], _, _, ?_, h2, l1, ⟨_, Rho.set_self _ _ _, rfl⟩, h.d.mono l1⟩
            simp only [Instr.enterLoop, Sem.run_bind, run_getLoop g1, run_newObj, Result.andThen, Sem.run_pure, World.alloc_eq]
            rfl
          | _ => cases he
  obtain ⟨l', mark, w1, ρ1, e1, hH1, hl1, ⟨y, hy, hyr⟩, hD1⟩ := enter
  have hgv := h.ev _ _ hg
  obtain ⟨cap', hcap, hge⟩ : ∃ cap', VRs ρ cap.toList cap'.toList ∧ ra.eval g = .func (.func f) #[] cap' := by
    generalize ra.eval g = u at hgv
    cases hgv with
    | func hh => exact ⟨_, hh, rfl⟩
  obtain ⟨fnn, c1, c2, c3⟩ := hcal
  refine ⟨l', mark, w1, { target := .fn (.func f) cap', args := #[.func (.yield l') #[] #[]] }, w1, f, #[.func (.yield l') #[] #[]] ++ cap', w1, e1, ?_, fun f' _ => FR_fn rd f', ?_, fun hd => (by cases hd), ?_⟩
  · have hc1 : ra.eval (.const (.func (.yield l') #[] #[])) = .func (.yield l') #[] #[] := rfl
    simp only [resolve, rangeCall, hge, Deferred.ofValue, Sem.run_pure]
    simp [hc1]
  · simp only [invoke, callFunc, Sem.run_bind, run_program, Result.andThen, c1, c2, c3]
    simp
  · have := hA ρ1 (#[.func (.yield l') #[] #[]] ++ cap') w1 hH1 (by
      rw [Array.toList_append]
      exact VRs.append (hcap.mono hl1) (.cons (by rw [← hyr]; exact .yield hy) .nil))
    refine CallsIn.mono (F := FR rd) this ?_
    rintro e2 w2 ⟨rv, ρ2, rfl, hH2, hv2, hl2⟩
    have hy2 := hl2 _ _ hy
    obtain ⟨L, g1, g2, g3, g4, g5, g6, g7, g8, g9, g10⟩ := own_loop hH2 hl hy2
    have hrun : (Instr.endLoop l').run P w2 = .ok pend { w2 with heap := w2.heap.setIfInBounds y.r (.loop { L with state := .exhausted, pending := pend }) } := by
      rw [← hyr]
      have hb : (L.state == .busy) = false := by rw [g3]; cases st <;> first | rfl | exact absurd rfl hst
      have hp : ({ L with state := .exhausted } : Loop) = { L with state := .exhausted, pending := pend } := by rw [← g4]
      simp only [Instr.endLoop, Sem.run_bind, run_getLoop g1, Result.andThen, hb, Bool.false_eq_true, if_false, Sem.run_pure, run_setLoop g1, hp, g4]
    have hH3 := upd_loop hH2 hl hy2 g1 .exhausted pend
    have hfin : SR P base w0 rd ρ2 { a with df := df } (s2.put l (.loop .exhausted pend tm n ps2 as2 bd2 dfr)) { ra with defers := mark ++ ra.defers } { w2 with heap := w2.heap.setIfInBounds y.r (.loop { L with state := .exhausted, pending := pend }) } :=
      ⟨hH3, h.n, fun t u ht => ⟨(h.t t u ht).1, ((h.t t u ht).2.mono hl1).mono hl2⟩, hD1.mono hl2, (h.r.mono hl1).mono hl2⟩
    refine ⟨pend, _, hrun, ?_⟩
    cases pend with
    | none => cases hj; exact ⟨rfl, ρ2, hfin, Rho.le_trans hl1 hl2⟩
    | some c => exact jump_wp hj ⟨rfl, ρ2, hfin, Rho.le_trans hl1 hl2⟩
theorem setAll_ok {ρ : Rho} {n : Nat} : ∀ {ps : List Tmp} {xs xs' : List Value} {tm : Tr Value} {tmps : Array Value}, VRs ρ xs xs' → tmps.size = n → (∀ t v, tm.get t = some v → t < n ∧ VR ρ v (tmps.getD t undef)) →
    ((ps.zip xs').foldl (fun (tmps : Array Value) (p : Tmp × Value) => tmps.setIfInBounds p.1 p.2) tmps).size = n ∧ ∀ t v, (setAll n ps xs tm).get t = some v → t < n ∧ VR ρ v (((ps.zip xs').foldl (fun (tmps : Array Value) (p : Tmp × Value) => tmps.setIfInBounds p.1 p.2) tmps).getD t undef)
  | [], xs, xs', tm, tmps, hx, hn, ht => by
    have : setAll n [] xs tm = tm := by cases xs <;> rfl
    rw [this]; exact ⟨hn, ht⟩
  | p :: ps, [], xs', tm, tmps, hx, hn, ht => by
    cases hx; exact ⟨hn, ht⟩
  | p :: ps, x :: xs, xs', tm, tmps, hx, hn, ht => by
    cases hx with
    | cons h1 h2 =>
      rename_i x' l'
      rw [List.zip_cons_cons, List.foldl_cons, setAll]
      refine setAll_ok h2 (by simpa using hn) (fun t v hv => ?_)
      cases hb : Nat.blt p n with
      | false =>
        have hp : ¬ p < n := by intro hh; rw [← Nat.blt_eq, hb] at hh; cases hh
        rw [hb] at hv
        obtain ⟨a1, a2⟩ := ht t v hv
        refine ⟨a1, ?_⟩
        have hne : p ≠ t := by rintro rfl; exact hp a1
        have : (tmps.setIfInBounds p x').getD t undef = tmps.getD t undef := by simp only [Array.getD_eq_getD_getElem?, Array.getElem?_setIfInBounds, if_neg hne]
        rw [this]; exact a2
      | true =>
        have hp : p < n := by rw [← Nat.blt_eq]; exact hb
        rw [hb] at hv
        simp only [cond_true, Tr.get_set] at hv
        by_cases e : t = p
        · subst e; rw [if_pos rfl] at hv; cases hv
          refine ⟨hp, ?_⟩
          have : (tmps.setIfInBounds t x').getD t undef = x' := by simp [Array.getD, hn, hp]
          rw [this]; exact h1
        · rw [if_neg e] at hv
          obtain ⟨a1, a2⟩ := ht t v hv
          refine ⟨a1, ?_⟩
          have : (tmps.setIfInBounds p x').getD t undef = tmps.getD t undef := by simp only [Array.getD_eq_getD_getElem?, Array.getElem?_setIfInBounds, if_neg (Ne.symm e)]
          rw [this]; exact a2
theorem around_ok {ex : Code → AA → AS → Out} (hex : ∀ c a s e a' s', ex c a s = some (e, a', s') → AEx P base w0 c a s e a' s') {l : Nat} {xs : List Value} {s s' : AS} {v : Value} (h : around ex l xs s = some (v, s')) : ARound P base w0 l xs s v s' := by
  intro ρ args w x hH hargs hx
  unfold around at h
  split at h
  rotate_left
  · cases h
  rename_i st pend tm n ps assign body dfr hg
  obtain ⟨hlen, h⟩ := ite_some h
  obtain ⟨L, g1, g2, g3, g4, g5, g6, g7, g8, g9, g10⟩ := own_loop hH hg hx
  split at h
  rotate_left
  · cases h
  rename_i a1 s1 hx1
  split at h
  rotate_left
  · cases h
  rename_i pend1 tm1 n1 ps1 as1 bd1 dfr1 hg1
  split at h
  rotate_left
  · cases h
  rename_i e a2 s2 hx2
  split at h
  rotate_left
  · cases h
  rename_i st2 pend2 tm2 n2 ps2 as2 bd2 dfr2 hg2
  have hal := hargs.length
  rw [Array.length_toList] at hal
  have hsz : args.size = L.params.size := by rw [hal, ← hlen, ← g7, Array.length_toList]
  have hset := setAll_ok (ps := ps) hargs g5 g6
  have htm : (L.params.zip args).foldl (fun tmps (p : Tmp × Value) => tmps.setIfInBounds p.1 p.2) L.tmps = (ps.zip args.toList).foldl (fun (tmps : Array Value) (p : Tmp × Value) => tmps.setIfInBounds p.1 p.2) L.tmps := by
    rw [← Array.foldl_toList, Array.toList_zip, g7]
  refine ⟨L.fn, (ps.zip args.toList).foldl (fun (tmps : Array Value) (p : Tmp × Value) => tmps.setIfInBounds p.1 p.2) L.tmps, L.assign, L.body, ?_, ?_⟩
  · simp only [Instr.yield, Sem.run_bind, run_getLoop g1, Result.andThen, hsz, ne_eq, not_true_eq_false, if_false, Sem.run_pure]
    rw [← htm]
  · have hsr : SR P base w0 (some x.r) ρ ⟨setAll n ps xs tm, n, [], some l⟩ s { tmps := (ps.zip args.toList).foldl (fun (tmps : Array Value) (p : Tmp × Value) => tmps.setIfInBounds p.1 p.2) L.tmps, defers := [] } w :=
      ⟨hH, hset.1, hset.2, trivial, x, hx, rfl⟩
    refine roundIn_of_wpIn (F := Fence.wide) trivial ?_
    rw [g8, g9]
    refine wpIn_mono (hex _ _ _ _ _ _ hx1 (some x.r) ρ _ w hsr) ?_
    rintro e1 ra1 w1 ⟨rfl, ρ1, h1, hl1⟩
    have hx1' := hl1 _ _ hx
    obtain ⟨L1, k1, k2, k3, k4, k5, k6, k7, k8, k9, k10⟩ := own_loop h1.h hg1 hx1'
    refine ⟨{ w1 with heap := w1.heap.setIfInBounds x.r (.loop { L1 with state := .busy, pending := pend1 }) }, ?_, ?_⟩
    · have hp : ({ L1 with state := .busy } : Loop) = { L1 with state := .busy, pending := pend1 } := by rw [← k4]
      simp only [Instr.beginRound, Sem.run_bind, run_getLoop k1, Result.andThen, run_setLoop k1, hp, k3, Sem.run_pure]
    · have hH2 := upd_loop h1.h hg1 hx1' k1 .busy pend1
      refine wpIn_mono (hex _ _ _ _ _ _ hx2 (some x.r) ρ1 ra1 _ (h1.move (Rho.le_refl ρ1) hH2)) ?_
      rintro e2 ra2 w2 ⟨rfl, ρ2, h2, hl2⟩
      have hx2' := hl2 _ _ hx1'
      obtain ⟨L2, m1, m2, m3, m4, m5, m6, m7, m8, m9, m10⟩ := own_loop h2.h hg2 hx2'
      have hend : ∀ jump : Option Code, (Instr.endRound x.r jump).run P w2 = .ok (.bool jump.isNone) { w2 with heap := w2.heap.setIfInBounds x.r (.loop { L2 with state := if jump.isNone then .ready else .done, pending := jump }) } := fun jump => by
        simp only [Instr.endRound, Sem.run_bind, run_getLoop m1, Result.andThen, run_setLoop m1, Sem.run_pure]
      have hfin := fun st' pend' => upd_loop h2.h hg2 hx2' m1 st' pend'
      cases e with
      | normal =>
        cases h
        exact ⟨_, _, hend none, .bool true, ρ2, rfl, hfin .ready none, .bool true, Rho.le_trans hl1 hl2⟩
      | ret =>
        cases h
        exact ⟨_, _, hend (some .ret), .bool false, ρ2, rfl, hfin .done (some .ret), .bool false, Rho.le_trans hl1 hl2⟩
      | exit id =>
        cases h
        exact ⟨_, _, hend (some (.exit id)), .bool false, ρ2, rfl, hfin .done (some (.exit id)), .bool false, Rho.le_trans hl1 hl2⟩
      | goto t =>
        cases h
        exact ⟨_, _, hend (some (.goto t)), .bool false, ρ2, rfl, hfin .done (some (.goto t)), .bool false, Rho.le_trans hl1 hl2⟩
theorem exec_ok {call : Calling} (hc : CallOK P base w0 call) (hm : P.follows .mixedOrders = true) (k : Nat) : ∀ (c : Code) {a a' : AA} {s s' : AS} {e : AExit}, exec P call k c a s = some (e, a', s') → AEx P base w0 c a s e a' s'
  | .skip, a, a', s, s', e, h => by cases h; exact ex_skip
  | .label _, a, a', s, s', e, h => by cases h; exact ex_label
  | .region id ops false, a, a', s, s', e, h => by
    obtain ⟨r, hr, h⟩ := Option.map_eq_some_iff.1 h
    cases h
    exact ex_region (stepsO_ok hc hr)
  | .region id ops true, a, a', s, s', e, h => by
    obtain ⟨t, ht, h⟩ := Option.bind_eq_some_iff.1 h
    obtain ⟨hd, h⟩ := ite_some h
    obtain ⟨x, hx, h⟩ := Option.map_eq_some_iff.1 h
    cases h
    exact ex_drawF hc hm ht hd hx
  | .seq x y, a, a', s, s', e, h => by
    unfold exec at h
    split at h
    · rename_i a1 s1 h1
      exact ex_seq (exec_ok hc hm k x h1) (exec_ok hc hm k y h)
    · rename_i r hne
      refine ex_seq_out (fun he => ?_) (exec_ok hc hm k x h)
      subst he
      exact hne _ _ h
  | .cond c x y, a, a', s, s', e, h => by
    unfold exec at h
    split at h
    · rename_i hb; exact ex_cond (b := true) hb (exec_ok hc hm k x h)
    · rename_i hb; exact ex_cond (b := false) hb (exec_ok hc hm k y h)
    · cases h
  | .block id x, a, a', s, s', e, h => by
    unfold exec at h
    split at h
    · rename_i j a1 s1 h1
      cases hb : Nat.beq j id with
      | true =>
        rw [hb] at h; cases h
        have := Nat.eq_of_beq_eq_true hb
        subst this
        exact ex_block_here (exec_ok hc hm k x h1)
      | false =>
        rw [hb] at h; cases h
        refine ex_block (fun he => ?_) (exec_ok hc hm k x h1)
        cases he
        rw [Nat.beq_refl] at hb; cases hb
    · rename_i r hne
      refine ex_block (fun he => ?_) (exec_ok hc hm k x h)
      subst he
      exact hne _ _ _ h
  | .loop x, a, a', s, s', e, h => ex_loop (loopF_ok (fun _ _ _ _ _ hh => exec_ok hc hm k x hh) k h)
  | .exit id, a, a', s, s', e, h => by cases h; exact ex_exit
  | .goto l, a, a', s, s', e, h => by cases h; exact ex_goto
  | .ret, a, a', s, s', e, h => by cases h; exact ex_ret
  | .rangeFunc g ps assign body, a, a', s, s', e, h => by
    unfold exec at h
    split at h
    · cases h
    rename_i l df s1 he
    split at h
    rotate_left
    · cases h
    rename_i f first cap hg
    obtain ⟨hfirst, h⟩ := ite_some h
    split at h
    · cases h
    rename_i v s2 hcall
    obtain ⟨h1, h2⟩ := hc.f _ _ _ _ _ hcall
    split at h
    rotate_left
    · cases h
    rename_i st pend tm n ps2 as2 bd2 dfr hl
    split at h
    · cases h
    rename_i hst
    split at h
    · rename_i e' hj
      cases h
      exact ex_rangeFunc he hg h1 h2 hl (fun hh => hst (by rw [hh])) hj
    · cases h
  | .scope .., a, a', s, s', e, h => by cases h
  | .refuse _, a, a', s, s', e, h => by cases h
theorem start_get : ∀ (xs : List Value) (i : Nat) (t : Tr Value) (n : Nat), (AA.start xs i t).get n = if i ≤ n ∧ n < i + xs.length then xs[n - i]? else t.get n
  | [], i, t, n => by rw [AA.start, if_neg (by rw [List.length_nil]; omega)]
  | v :: l, i, t, n => by
    rw [AA.start, start_get l (i + 1) _ n, Tr.get_set]
    by_cases h : n = i
    · subst h; rw [if_neg (by omega), if_pos rfl, if_pos (by simp)]; simp
    · rw [if_neg h]
      by_cases h2 : i + 1 ≤ n ∧ n < i + 1 + l.length
      · rw [if_pos h2, if_pos (by simp; omega), show n - i = (n - (i + 1)) + 1 from by omega]; rfl
      · rw [if_neg h2, if_neg (by simp; omega)]
def resS (tmps : Array Value) : ResultVar → Sem Value
  | .tmp t => pure (tmps.getD t undef)
  | .cell a t => do loadVar t (← asAddr (tmps.getD a undef))
theorem results_eq (fn : Func) (tmps : Array Value) : results fn tmps = (do
    let vs ← fn.results.mapM (resS tmps)
    pure (if h : vs.size = 1 then vs[0] else .tuple vs)) := by
  unfold results
  have : (fun (r : ResultVar) => (match r with | .tmp t => pure (tmps.getD t undef) | .cell a t => do loadVar t (← asAddr (tmps.getD a undef)) : Sem Value)) = resS tmps := by
    funext r; cases r <;> rfl
  rw [← this]
  rfl
theorem res_ok {rd : Option Nat} {ρ : Rho} {a : AA} {s : AS} {ra : Act} {w : World} (h : SR P base w0 rd ρ a s ra w) : ∀ {l : List ResultVar} {vs : List Value}, aRess P a s l = some vs →
    ∃ vs', (l.mapM (resS ra.tmps)).run P w = .ok vs' w ∧ VRs ρ vs vs'
  | [], vs, hv => by cases hv; exact ⟨[], rfl, .nil⟩
  | r :: l, vs, hv => by
    obtain ⟨v, h1, hv⟩ := Option.bind_eq_some_iff.1 hv
    obtain ⟨us, h2, hv⟩ := Option.map_eq_some_iff.1 hv
    subst hv
    obtain ⟨us', e1, e2⟩ := res_ok h h2
    have one : ∃ v', (resS ra.tmps r).run P w = .ok v' w ∧ VR ρ v v' := by
      cases r with
      | tmp t => exact ⟨_, rfl, (h.t t v h1).2⟩
      | cell x t =>
        obtain ⟨p, hp, h1⟩ := Option.bind_eq_some_iff.1 h1
        obtain ⟨v', g1, g2⟩ := load_ok h.h (h.t x p hp).2 h1
        refine ⟨v', ?_, g2⟩
        have hv := (h.t x p hp).2
        show (do loadVar t (← asAddr (ra.tmps.getD x undef)) : Sem Value).run P w = .ok v' w
        generalize ra.tmps.getD x undef = q at hv g1
        cases hv with
        | ptr hr =>
          simp only [Instr.loadAt, Instr.sureAddr, Sem.run_bind, Sem.run_pure, Result.andThen] at g1
          simp only [asAddr, Sem.run_bind, Sem.run_pure, Result.andThen]
          exact g1
        | _ => cases h1
    obtain ⟨v', g1, g2⟩ := one
    refine ⟨v' :: us', ?_, .cons g2 e2⟩
    rw [List.mapM_cons]
    simp only [Sem.run_bind, g1, Result.andThen, e1, Sem.run_pure]
/-- An own block is written and goes out of use. -/
theorem HR.updKill {ρ : Rho} {s : AS} {w w' : World} {b : Nat} {x : Ren} {o : AObj} {O : Obj} (h : HR P base w0 ρ s w) (hb : s.get b = some o) (ho : o.own = true) (hx : ρ b = some x) (hu : Upd w w' x.r O) : HR P base w0 ρ (s.put b .dead) w' := by
  obtain ⟨x', hx', hok⟩ := h.obj b o hb
  rw [hx] at hx'; cases hx'
  have hlt := hok.lt ho
  refine ⟨h.frame.trans (hu.below hlt.1), by rw [hu.size]; exact h.big, h.lt, fun c oc hc => ?_, fun c c' y y' oc oc' hc hc' p p' q q' e => ?_⟩
  · rw [AS.get_put] at hc
    by_cases e : c = b
    · subst e; rw [if_pos rfl] at hc; cases hc; exact ⟨x, hx, trivial⟩
    · rw [if_neg e] at hc
      obtain ⟨y, hy, hok'⟩ := h.obj c oc hc
      refine ⟨y, hy, ?_⟩
      cases hown : oc.own with
      | true =>
        have hne : y.r ≠ x.r := fun er => e (h.inj c b y x oc o hc hb hown ho hy hx er)
        exact hok'.mono (Rho.le_refl ρ) (hu.far _ hne)
      | false =>
        rcases hok'.ro hown with ⟨c0, e0, rfl, hl⟩ | rfl
        · exact hok'.mono (Rho.le_refl ρ) (hu.far _ (by omega))
        · trivial
  · rw [AS.get_put] at hc hc'
    have key : ∀ (d : Nat) (od : AObj), (if d = b then some AObj.dead else s.get d) = some od → od.own = true → s.get d = some od := fun d od hd hod => by
      by_cases e : d = b
      · rw [if_pos e] at hd; cases hd; cases hod
      · rw [if_neg e] at hd; exact hd
    exact h.inj c c' y y' oc oc' (key c oc hc p) (key c' oc' hc' p') p p' q q' e
/-- A body's walk is a call. -/
theorem call_of_body {f : FuncId} {fn : Func} {c : Code} {xs : List Value} {s s' s1 : AS} {a' : AA} {e : AExit} {v : Value} (hf : P.funcs[f]? = some fn) (hb : fn.body = some c)
    (h : AEx P base w0 c ⟨AA.start xs 0 .nil, Nat.max xs.length fn.ntmps, [], none⟩ s e a' s1) (he : e = .normal ∨ e = .ret) (hd : aLeave a'.df s1 = some s') (hr : aResults P fn a' s' = some v) : ACall P base w0 f xs s v s' := by
  intro ρ args w hH hargs
  refine callsIn_of_wp_marks (F := Fence.wide) hf hb trivial ?_ rfl
  have hlen := hargs.length
  rw [Array.length_toList] at hlen
  have hsr : SR P base w0 none ρ ⟨AA.start xs 0 .nil, Nat.max xs.length fn.ntmps, [], none⟩ s { tmps := args ++ Array.replicate (fn.ntmps - args.size) undef, defers := [] } w := by
    refine ⟨hH, ?_, fun t u ht => ?_, trivial, trivial⟩
    · simp only [Array.size_append, Array.size_replicate, hlen]; show _ = max _ _; omega
    · have ht' : (AA.start xs 0 .nil).get t = some u := ht
      rw [start_get] at ht'
      by_cases hc : 0 ≤ t ∧ t < 0 + xs.length
      · rw [if_pos hc] at ht'
        obtain ⟨u', h1, h2⟩ := hargs.get _ ht'
        refine ⟨by show t < max _ _; omega, ?_⟩
        have : (args ++ Array.replicate (fn.ntmps - args.size) undef).getD t undef = u' := by
          rw [Array.getElem?_toList, Nat.sub_zero] at h1
          rw [Array.getD_eq_getD_getElem?, Array.getElem?_append_left (by omega), h1]; rfl
        rw [this]; exact h2
      · rw [if_neg hc] at ht'; cases ht'
  refine wpIn_mono (h none ρ _ w hsr) ?_
  rintro e1 ra1 w1 ⟨rfl, ρ1, h1, hl1⟩
  have fin : ∀ {ρ2 : Rho} {s2 : AS} {w2 : World}, HR P base w0 ρ2 s2 w2 → ρ1.le ρ2 → s2 = s' → LeavesInM Fence.wide 0 P fn ra1.tmps (fun e w' => ∃ rv ρ', e = .returned rv ∧ HR P base w0 ρ' s' w' ∧ VR ρ' v rv ∧ ρ.le ρ') [] .returning w2 := by
    intro ρ2 s2 w2 hH2 hl2 e2
    subst e2
    have h2 := h1.move hl2 hH2
    obtain ⟨vs, hvs, hv⟩ := Option.map_eq_some_iff.1 hr
    obtain ⟨vs', g1, g2⟩ := res_ok h2 hvs
    have hrun : (results fn ra1.tmps).run P w2 = .ok (if h : vs'.toArray.size = 1 then vs'.toArray[0] else .tuple vs'.toArray) w2 := by
      rw [results_eq, Array.mapM_eq_mapM_toList]
      simp only [Sem.run_bind, Sem.run_map, Result.andThen]
      rw [g1]
      rfl
    refine ⟨_, hrun, ?_⟩
    refine ⟨_, ρ2, rfl, hH2, ?_, Rho.le_trans hl1 hl2⟩
    subst hv
    cases g2 with
    | nil => exact .tuple .nil
    | cons k1 k2 =>
      cases k2 with
      | nil => exact k1
      | cons k2 k3 => exact .tuple (.cons k1 (.cons k2 k3))
  have leave : ∀ (l : List Nat) (ds : List Deferred) (ρ2 : Rho) (s2 : AS) (w2 : World), HR P base w0 ρ2 s2 w2 → ρ1.le ρ2 → DR ρ2 l ds → aLeave l s2 = some s' → LeavesInM Fence.wide 0 P fn ra1.tmps (fun e w' => ∃ rv ρ', e = .returned rv ∧ HR P base w0 ρ' s' w' ∧ VR ρ' v rv ∧ ρ.le ρ') ds .returning w2 := by
    intro l
    induction l with
    | nil =>
      intro ds ρ2 s2 w2 hH2 hl2 hD hlv
      cases ds with
      | nil => cases hlv; exact fin hH2 hl2 rfl
      | cons _ _ => exact hD.elim
    | cons b l ih =>
      intro ds ρ2 s2 w2 hH2 hl2 hD hlv
      cases ds with
      | nil => exact hD.elim
      | cons d ds =>
        obtain ⟨⟨x, hx, rfl⟩, hD⟩ := hD
        unfold aLeave at hlv
        split at hlv
        rotate_left
        · cases hlv
        rename_i hg
        obtain ⟨x', hx', hok1, hok2⟩ := hH2.obj b _ hg
        rw [hx] at hx'; cases hx'
        have hget : (getObj x.r).run P w2 = .ok (.deferred (some [])) w2 := by simp [getObj, Sem.run, hok1]
        have hset : (setObj x.r (.deferred none)).run P w2 = .ok () { w2 with heap := w2.heap.setIfInBounds x.r (.deferred none) } := by simp [setObj, Sem.run, hok1]
        refine ⟨by simp, .inl ⟨x.r, _, rfl, ?_, ih ds ρ2 _ _ (hH2.updKill hg rfl hx (upd_setObj (O := .deferred none) hok1)) hl2 hD hlv⟩⟩
        simp only [Instr.takeDeferred, Sem.run_bind, hget, Result.andThen, hset, Sem.run_pure]
  have := leave a'.df ra1.defers ρ1 s1 w1 h1.h (Rho.le_refl ρ1) h1.d hd
  rcases he with rfl | rfl
  · exact this
  · exact this
def Known (P : Program) (fb : FuncId → Option Func) : Prop := ∀ f fn, fb f = some fn → P.funcs[f]? = some fn ∧ (fn.name == "runtime.NumGoroutine") = false
theorem acall_ok {fb : FuncId → Option Func} {ext : Calling} (hk : Known P fb) (hext : ∀ f xs s v s', ext (.func f) xs s = some (v, s') → Callable P f ∧ ACall P base w0 f xs s v s') (hm : P.follows .mixedOrders = true) (K : Nat) : ∀ k, CallOK P base w0 (acall P fb ext K k)
  | 0 => ⟨fun f xs s v s' h => (by cases h), fun l xs s v s' h => (by cases h)⟩
  | k + 1 => by
    have ih := acall_ok hk hext hm K k
    refine ⟨fun f xs s v s' h => ?_, fun l xs s v s' h => around_ok (fun c a s e a' s' hh => exec_ok ih hm K c hh) h⟩
    unfold acall at h
    split at h
    · rename_i r hr
      cases h
      exact hext _ _ _ _ _ hr
    cases hf : fb f with
    | none => rw [hf] at h; cases h
    | some fn =>
      rw [hf] at h
      obtain ⟨h1, h2⟩ := hk f fn hf
      simp only at h
      cases hb : fn.body with
      | none => rw [hb] at h; cases h
      | some c =>
        rw [hb] at h
        simp only at h
        refine ⟨⟨fn, h1, h2, by rw [hb]; rfl⟩, ?_⟩
        split at h
        · rename_i a' s1 hx
          obtain ⟨s2, hd, h⟩ := Option.bind_eq_some_iff.1 h
          obtain ⟨u, hu, h⟩ := Option.map_eq_some_iff.1 h
          cases h
          exact call_of_body h1 hb (exec_ok ih hm K c hx) (.inl rfl) hd hu
        · rename_i a' s1 hx
          obtain ⟨s2, hd, h⟩ := Option.bind_eq_some_iff.1 h
          obtain ⟨u, hu, h⟩ := Option.map_eq_some_iff.1 h
          cases h
          exact call_of_body h1 hb (exec_ok ih hm K c hx) (.inr rfl) hd hu
        · cases h
end
end Go.Proofs.YtchjiocljlbhkaaW.Mill
