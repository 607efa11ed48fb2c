/- Regions that draw their order: in every order they come to what the small machine comes to (the session's own). -/
import Derived.Test.YtchjiocljlbhkaaMill9
namespace Go.Proofs.YtchjiocljlbhkaaW.Mill
open Go Go.RowKit
set_option linter.unusedVariables false
set_option linter.unusedSimpArgs false

/-! ### what must come ahead of what -/
theorem foldl_bits (acc : List Nat) (i : Nat) : ∀ (l : List Edge) (s : Nat), (l.foldl (fun s e => if Region.binds .any e = true then s ||| 2 ^ e.on ||| acc.getD e.on 0 else s) s).testBit i = true →
    s.testBit i = true ∨ ∃ e ∈ l, Region.binds .any e = true ∧ (e.on = i ∨ (acc.getD e.on 0).testBit i = true)
  | [], s, h => .inl h
  | e :: l, s, h => by
    rw [List.foldl_cons] at h
    rcases foldl_bits acc i l _ h with h | ⟨e', h1, h2⟩
    · by_cases hb : Region.binds .any e = true
      · rw [if_pos hb] at h
        simp only [Nat.testBit_or, Bool.or_eq_true, Nat.testBit_two_pow, decide_eq_true_eq] at h
        rcases h with (h | h) | h
        · exact .inl h
        · exact .inr ⟨e, by simp, hb, .inl h⟩
        · exact .inr ⟨e, by simp, hb, .inr h⟩
      · rw [if_neg hb] at h; exact .inl h
    · exact .inr ⟨e', by simp [h1], h2⟩
theorem precs_keep : ∀ (l : List Oper) (acc : List Nat) (i : Nat), i < acc.length → (precs l acc)[i]? = acc[i]?
  | [], acc, i, h => rfl
  | o :: l, acc, i, h => by
    rw [precs, precs_keep l _ i (by simp; omega), List.getElem?_append_left h]
theorem precs_at : ∀ (l : List Oper) (acc : List Nat) (k : Nat) (o : Oper), l[k]? = some o → ∃ acc' : List Nat, acc'.length = acc.length + k ∧ (precs l acc)[acc.length + k]? = some (precF acc' o) ∧ ∀ i, i < acc'.length → acc'[i]? = (precs l acc)[i]?
  | [], acc, k, o, h => by simp at h
  | o' :: l, acc, 0, o, h => by
    simp at h; subst h
    refine ⟨acc, rfl, ?_, fun i hi => ?_⟩
    · rw [precs, precs_keep _ _ _ (by simp)]; simp
    · rw [precs, precs_keep _ _ _ (by simp; omega), List.getElem?_append_left hi]
  | o' :: l, acc, k + 1, o, h => by
    obtain ⟨acc', h1, h2, h3⟩ := precs_at l (acc ++ [precF acc o']) k o (by simpa using h)
    refine ⟨acc', by simp at h1; omega, ?_, h3⟩
    rw [precs]; simp at h2; rw [show acc.length + (k + 1) = acc.length + 1 + k from by omega]; exact h2
theorem precB_edge {ops : Array Oper} {i j : Nat} {o : Oper} (ho : ops[j]? = some o) (h : precB ops i j = true) : ∃ e ∈ o.after.toList, Region.binds .any e = true ∧ (e.on = i ∨ precB ops i e.on = true) := by
  obtain ⟨acc', h1, h2, h3⟩ := precs_at ops.toList [] j o (by rw [Array.getElem?_toList]; exact ho)
  simp only [List.length_nil, Nat.zero_add] at h1 h2
  unfold precB at h
  rw [List.getD_eq_getElem?_getD, h2] at h
  rcases foldl_bits acc' i _ _ h with h | ⟨e, e1, e2, e3⟩
  · simp at h
  · refine ⟨e, e1, e2, e3.imp id (fun hh => ?_)⟩
    unfold precB
    by_cases hl : e.on < acc'.length
    · rw [List.getD_eq_getElem?_getD, ← h3 _ hl, ← List.getD_eq_getElem?_getD]; exact hh
    · rw [List.getD_eq_getElem?_getD, List.getElem?_eq_none (by omega)] at hh; simp at hh

/-! ### what an operation looks at -/
theorem mem_tmpsOf {t : Tmp} : ∀ {l : List Operand}, Operand.tmp t ∈ l → t ∈ tmpsOf l
  | .tmp u :: l, h => by
    rcases List.mem_cons.1 h with h | h
    · cases h; exact List.mem_cons_self
    · exact List.mem_cons_of_mem _ (mem_tmpsOf h)
  | .const _ :: l, h => by
    rcases List.mem_cons.1 h with h | h
    · cases h
    · show t ∈ tmpsOf l; exact mem_tmpsOf h
  | .global _ :: l, h => by
    rcases List.mem_cons.1 h with h | h
    · cases h
    · show t ∈ tmpsOf l; exact mem_tmpsOf h
  | .func _ :: l, h => by
    rcases List.mem_cons.1 h with h | h
    · cases h
    · show t ∈ tmpsOf l; exact mem_tmpsOf h
def restrict (t : Tr Value) : List Tmp → Tr Value
  | [] => .nil
  | n :: l => (restrict t l).set n (t.get n)
theorem restrict_get (t : Tr Value) (u : Tmp) : ∀ l : List Tmp, (restrict t l).get u = if u ∈ l then t.get u else none
  | [] => rfl
  | n :: l => by
    rw [restrict, Tr.get_set, restrict_get t u l]
    by_cases h : u = n
    · subst h; simp
    · rw [if_neg h]; simp [h]
def AA.only (a : AA) (l : List Tmp) : AA := { a with tm := restrict a.tm l }
theorem AA.only_ev (a : AA) (l : List Tmp) (x : Operand) (h : ∀ t, x = .tmp t → t ∈ l) : (a.only l).ev x = a.ev x := by
  cases x with
  | tmp t => show (restrict a.tm l).get t = a.tm.get t; rw [restrict_get, if_pos (h t rfl)]
  | _ => rfl
theorem evs_congr {ev ev' : Operand → Option Value} : ∀ {l : List Operand}, (∀ x ∈ l, ev' x = ev x) → evs ev' l = evs ev l
  | [], _ => rfl
  | x :: l, h => by rw [evs, evs, h x List.mem_cons_self, evs_congr fun y hy => h y (List.mem_cons_of_mem _ hy)]
theorem evParts_congr {ev ev' : Operand → Option Value} : ∀ {l : List (Nat × Operand)}, (∀ x ∈ l.map (·.2), ev' x = ev x) → evParts ev' l = evParts ev l
  | [], _ => rfl
  | (i, x) :: l, h => by rw [evParts, evParts, h x (by simp), evParts_congr fun y hy => h y (by simp at hy ⊢; exact .inr hy)]
theorem evInt_congr {ev ev' : Operand → Option Value} {x : Option Operand} (h : ∀ y ∈ x.toArray, ev' y = ev y) : evInt ev' x = evInt ev x := by
  cases x with
  | none => rfl
  | some x => rw [evInt, evInt, h x (by simp)]
theorem aop_congr {P : Program} {ev ev' : Operand → Option Value} {s : AS} {op : Op} (h : ∀ x ∈ op.operands, ev' x = ev x) : aop P ev' s op = aop P ev s op := by
  cases op <;> simp only [aop, Op.operands] at h ⊢ <;> (try rfl)
  all_goals (try simp only [Array.mem_append, List.mem_toArray, List.mem_cons, List.not_mem_nil, or_false] at h)
  case build t ps => rw [evParts_congr (fun x hx => h x hx)]
  case buildSlice t n ps => rw [evParts_congr (fun x hx => h x hx)]
  case makeFunc fn first cap => cases fn <;> (try rfl); cases hf : first.toList <;> (try rfl); rw [evs_congr fun x hx => h x (.inr (by simpa using hx))]
  case makeMap t r => cases r with
    | none => rfl
    | some r => dsimp only; rw [h r (by simp)]
  case slice t x lo hi mx =>
    rw [h x (by simp), evInt_congr (x := lo) fun y hy => h y (by simp_all), evInt_congr (x := hi) fun y hy => h y (by simp_all), evInt_congr (x := mx) fun y hy => h y (by simp_all)]
    cases lo <;> cases hi <;> cases mx <;> simp_all
  case next it b => cases b with
    | true => dsimp only; rw [h it (by simp_all)]
    | false => rfl
  all_goals (first
    | rw [h _ (Or.inl rfl), h _ (Or.inr (Or.inl rfl)), h _ (Or.inr (Or.inr rfl))]
    | rw [h _ (Or.inl rfl), h _ (Or.inr rfl)]
    | rw [h _ rfl]
    | simp_all)

section
variable {P : Program} {base : Nat} {w0 : World}
theorem looks_op {ops : Array Oper} {o : Oper} {t : Tmp} {x : Operand} (hx : x ∈ o.op.operands) (h : x = .tmp t) : t ∈ looks ops o := by
  subst h
  exact List.mem_append_left _ (mem_tmpsOf (by simpa using hx))
theorem wantedA_only {ops : Array Oper} {o : Oper} {a : AA} : wantedA ops (a.only (looks ops o)) o = wantedA ops a o := by
  unfold wantedA
  cases hg : o.guard with
  | none => rfl
  | some q =>
    obtain ⟨j, want⟩ := q
    simp only
    cases hd : (ops[j]?).bind (·.dst) with
    | none => rfl
    | some d =>
      have : (a.only (looks ops o)).tm.get d = a.tm.get d := by
        show (restrict a.tm (looks ops o)).get d = _
        rw [restrict_get, if_pos (by unfold looks; rw [hg]; simp [hd])]
      simp only [Option.bind_some, this]
theorem StepV.only {ops : Array Oper} {o : Oper} {a : AA} {s s' : AS} {v : Value} (h : StepV P base w0 ops o a s v s') : StepV P base w0 ops o (a.only (looks ops o)) s v s' := by
  have hev : ∀ x ∈ o.op.operands, (a.only (looks ops o)).ev x = a.ev x := fun x hx => AA.only_ev a _ x (fun t ht => looks_op hx ht)
  cases h with
  | off hw => exact .off (by rw [wantedA_only]; exact hw)
  | op hw ha => exact .op (by rw [wantedA_only]; exact hw) (by rw [aop_congr hev]; exact ha)
  | bi hw ho hx hb =>
    exact .bi (by rw [wantedA_only]; exact hw) ho (by rw [evs_congr (fun x hx' => hev x (by rw [ho]; simp [Op.operands, Call.operands]; simpa using hx'))]; exact hx) hb
  | call hw ho hc hcall hA =>
    refine .call (by rw [wantedA_only]; exact hw) ho ?_ hcall hA
    rename_i f args ts g xs
    have h1 : (a.only (looks ops o)).ev f = a.ev f := hev f (by rw [ho]; simp [Op.operands, Call.operands])
    have h2 : evs (a.only (looks ops o)).ev args.toList = evs a.ev args.toList := evs_congr (fun x hx' => hev x (by rw [ho]; simp [Op.operands, Call.operands]; exact .inr (by simpa using hx')))
    unfold aCallee at hc ⊢
    rw [h1, h2]
    exact hc
  | round hw ho hc hA =>
    refine .round (by rw [wantedA_only]; exact hw) ho ?_ hA
    rename_i f args ts g xs
    have h1 : (a.only (looks ops o)).ev f = a.ev f := hev f (by rw [ho]; simp [Op.operands, Call.operands])
    have h2 : evs (a.only (looks ops o)).ev args.toList = evs a.ev args.toList := evs_congr (fun x hx' => hev x (by rw [ho]; simp [Op.operands, Call.operands]; exact .inr (by simpa using hx')))
    unfold aCallee at hc ⊢
    rw [h1, h2]
    exact hc

/-! ### the theorem -/
theorem mem_ready' {ops : Array Oper} {j : Nat} {listed : Array Bool} (h : j ∈ Region.ready .any ops listed) : j < ops.size ∧ listed.getD j true = false ∧ ∃ o, ops[j]? = some o ∧ ∀ e ∈ o.after.toList, Region.binds .any e = true → listed.getD e.on false = true := by
  unfold Region.ready at h
  obtain ⟨h1, h2⟩ := List.mem_filter.1 h
  simp only [Bool.and_eq_true, Bool.not_eq_true'] at h2
  have hlt : j < ops.size := by simpa using h1
  refine ⟨hlt, h2.1, ops[j], Array.getElem?_eq_getElem hlt, fun e he hb => ?_⟩
  have h3 := h2.2
  rw [Array.getElem?_eq_getElem hlt] at h3
  simp only [Option.map_some, Option.getD_some, Array.all_eq_true_iff_forall_mem, Bool.or_eq_true, Bool.not_eq_true'] at h3
  rcases h3 e (by simpa using he) with hh | hh
  · rw [hb] at hh; cases hh
  · exact hh
/-- What is asked of a region that draws: its walk in the order of the text, and that nothing hangs on the order. -/
structure Drawn (P : Program) (base : Nat) (w0 : World) (ops : Array Oper) (as : Nat → AA) (ss : Nat → AS) (vs : Nat → Value) (eff : Nat → Bool) : Prop where
  step : ∀ (i : Nat) (o : Oper), ops[i]? = some o → StepV P base w0 ops o (as i) (ss i) (vs i) (ss (i + 1)) ∧ as (i + 1) = (as i).put o.dst (vs i)
  calm : ∀ (i : Nat) (o : Oper), ops[i]? = some o → eff i = false → ss (i + 1) = ss i ∧ ∀ k, k ≤ ops.size → (∀ j, j < ops.size → eff j = true → (precB ops j i = true → j < k) ∧ (precB ops i j = true → k ≤ j)) → StepV P base w0 ops o (as i) (ss k) (vs i) (ss k)
  chain : ∀ i j, i < j → j < ops.size → eff i = true → eff j = true → precB ops i j = true
  edges : ∀ (j : Nat) (o : Oper), ops[j]? = some o → ∀ e ∈ o.after.toList, Region.binds .any e = true → e.on < j
  one : ∀ (i j : Nat) (o o' : Oper) (d : Tmp), ops[i]? = some o → ops[j]? = some o' → o.dst = some d → o'.dst = some d → i = j
  reads : ∀ (i j : Nat) (o o' : Oper) (t : Tmp), ops[i]? = some o → ops[j]? = some o' → o.dst = some t → t ∈ looks ops o' → i ≠ j → (precB ops i j = true ∧ i < j) ∨ (precB ops j i = true ∧ j < i)
theorem as_get {ops : Array Oper} {as : Nat → AA} {ss : Nat → AS} {vs : Nat → Value} {eff : Nat → Bool} (h : Drawn P base w0 ops as ss vs eff) : ∀ k, k ≤ ops.size →
    (as k).n = (as 0).n ∧ (as k).df = (as 0).df ∧ (as k).rd = (as 0).rd ∧
    ∀ t, (∀ (i : Nat) (o : Oper), i < k → ops[i]? = some o → o.dst = some t → t < (as 0).n → (as k).tm.get t = some (vs i)) ∧ ((∀ (i : Nat) (o : Oper), i < k → ops[i]? = some o → o.dst ≠ some t) → (as k).tm.get t = (as 0).tm.get t)
  | 0, _ => ⟨rfl, rfl, rfl, fun t => ⟨fun i o hi => absurd hi (Nat.not_lt_zero _), fun _ => rfl⟩⟩
  | k + 1, hk => by
    obtain ⟨h1, h2, h3, h4⟩ := as_get h k (by omega)
    have ho : ops[k]? = some ops[k] := Array.getElem?_eq_getElem (by omega)
    obtain ⟨-, hput⟩ := h.step k _ ho
    generalize ops[k] = o at ho hput
    rw [hput]
    cases hd : o.dst with
    | none =>
      refine ⟨h1, h2, h3, fun t => ⟨fun i o' hi hio hdo hlt => ?_, fun hn => (h4 t).2 (fun i o' hi => hn i o' (by omega))⟩⟩
      have : i ≠ k := by rintro rfl; rw [ho] at hio; cases hio; rw [hd] at hdo; cases hdo
      exact (h4 t).1 i o' (by omega) hio hdo hlt
    | some d =>
      have hputE : ((as k).put (some d) (vs k)).n = (as k).n ∧ ((as k).put (some d) (vs k)).df = (as k).df ∧ ((as k).put (some d) (vs k)).rd = (as k).rd ∧ ∀ t, ((as k).put (some d) (vs k)).tm.get t = if t = d ∧ d < (as k).n then some (vs k) else (as k).tm.get t := by
        unfold AA.put
        simp only
        cases hb : Nat.blt d (as k).n with
        | false =>
          have : ¬ d < (as k).n := by intro hh; rw [← Nat.blt_eq, hb] at hh; cases hh
          exact ⟨rfl, rfl, rfl, fun t => by rw [if_neg (fun hh => this hh.2)]; rfl⟩
        | true =>
          have : d < (as k).n := by rw [← Nat.blt_eq]; exact hb
          exact ⟨rfl, rfl, rfl, fun t => by simp only [cond_true, Tr.get_set, this, and_true]⟩
      obtain ⟨p1, p2, p3, p4⟩ := hputE
      refine ⟨p1.trans h1, p2.trans h2, p3.trans h3, fun t => ⟨fun i o' hi hio hdo hlt => ?_, fun hn => ?_⟩⟩
      · rw [p4]
        by_cases hik : i = k
        · subst hik; rw [ho] at hio; cases hio; rw [hd] at hdo; cases hdo; rw [if_pos ⟨rfl, by rw [h1]; exact hlt⟩]
        · have : t ≠ d := by rintro rfl; exact hik (h.one i k o' o t hio ho hdo hd)
          rw [if_neg (fun hh => this hh.1)]
          exact (h4 t).1 i o' (by omega) hio hdo hlt
      · rw [p4]
        have : t ≠ d := by rintro rfl; exact hn k o (by omega) ho hd
        rw [if_neg (fun hh => this hh.1)]
        exact (h4 t).2 (fun i o' hi => hn i o' (by omega))
/-- The state on the way: of the operations that are listed. -/
structure OnWay (P : Program) (base : Nat) (w0 : World) (rd : Option Nat) (ops : Array Oper) (as : Nat → AA) (ss : Nat → AS) (vs : Nat → Value) (eff : Nat → Bool) (ρ : Rho) (listed : Array Bool) (ra : Act) (w : World) : Prop where
  size : listed.size = ops.size
  lt : ∀ (t : Tmp) (v : Value), (as 0).tm.get t = some v → t < (as 0).n
  down : ∀ i j, j < ops.size → listed.getD j false = true → precB ops i j = true → listed.getD i false = true
  heap : ∃ k, k ≤ ops.size ∧ HR P base w0 ρ (ss k) w ∧ ∀ j, j < ops.size → eff j = true → (listed.getD j false = true ↔ j < k)
  n : ra.tmps.size = (as 0).n
  d : DR ρ (as 0).df ra.defers
  r : RdR ρ (as 0).rd rd
  done : ∀ (i : Nat) (o : Oper) (t : Tmp), ops[i]? = some o → o.dst = some t → listed.getD i false = true → t < (as 0).n → VR ρ (vs i) (ra.tmps.getD t undef)
  rest : ∀ (t : Tmp) (v : Value), (∀ (i : Nat) (o : Oper), ops[i]? = some o → o.dst = some t → listed.getD i false = false) → (as 0).tm.get t = some v → t < (as 0).n ∧ VR ρ v (ra.tmps.getD t undef)

section
variable {P : Program} {base : Nat} {w0 : World}
theorem getD_set {listed : Array Bool} {i j : Nat} (hi : i < listed.size) (d : Bool) : (listed.setIfInBounds i true).getD j d = if j = i then true else listed.getD j d := by
  simp only [Array.getD_eq_getD_getElem?, Array.getElem?_setIfInBounds]
  by_cases h : j = i
  · subst h; simp [hi]
  · rw [if_neg (Ne.symm h), if_neg h]
theorem onWay_start {rd : Option Nat} {ops : Array Oper} {as : Nat → AA} {ss : Nat → AS} {vs : Nat → Value} {eff : Nat → Bool} {ρ : Rho} {ra : Act} {w : World} (h : SR P base w0 rd ρ (as 0) (ss 0) ra w) :
    OnWay P base w0 rd ops as ss vs eff ρ (Array.replicate ops.size false) ra w.drew := by
  have hf : ∀ i, (Array.replicate ops.size false).getD i false = false := fun i => by
    rw [Array.getD_eq_getD_getElem?, Array.getElem?_replicate]; split <;> rfl
  refine ⟨by simp, fun t v ht => (h.t t v ht).1, fun i j _ hl => ?_, ⟨0, Nat.zero_le _, h.h.move ⟨rfl, rfl, rfl, Nat.le_refl _, fun _ _ => rfl⟩, fun j _ _ => ?_⟩, h.n, h.d, h.r, fun i o t _ _ hl => ?_, fun t v _ hv => h.t t v hv⟩
  · rw [hf] at hl; cases hl
  · rw [hf]; simp
  · rw [hf] at hl; cases hl
theorem onWay_step {rd : Option Nat} {ops : Array Oper} {as : Nat → AA} {ss : Nat → AS} {vs : Nat → Value} {eff : Nat → Bool} {ρ : Rho} {ra : Act} {w : World} {listed : Array Bool} (hD : Drawn P base w0 ops as ss vs eff) (h : OnWay P base w0 rd ops as ss vs eff ρ listed ra w)
    {i : Nat} (hr : i ∈ Region.ready .any ops listed) {K : Act → World → Prop} {Q : Exit → Act → World → Prop}
    (hK : ∀ ρ' ra' w', OnWay P base w0 rd ops as ss vs eff ρ' (listed.setIfInBounds i true) ra' w' → ρ.le ρ' → K ra' w') : wpOpIn (FR rd) 0 P ops Q i K ra w := by
  obtain ⟨hlt, hnl, o, ho, hedge⟩ := mem_ready' hr
  have hil : i < listed.size := by rw [h.size]; exact hlt
  have hnl' : listed.getD i false = false := by
    rw [Array.getD_eq_getD_getElem?] at hnl ⊢
    rw [Array.getElem?_eq_getElem hil] at hnl ⊢
    exact hnl
  obtain ⟨q1, q2, q3, q4⟩ := as_get hD i (by omega)
  -- what comes ahead is listed
  have ahead : ∀ j, precB ops j i = true → listed.getD j false = true := by
    intro j hj
    obtain ⟨e, e1, e2, e3⟩ := precB_edge ho hj
    have hl := hedge e e1 e2
    have hei := hD.edges i o ho e e1 e2
    rcases e3 with rfl | e3
    · exact hl
    · exact h.down j e.on (by omega) hl e3
  have behind : ∀ j, j < ops.size → precB ops i j = true → listed.getD j false = false := by
    intro j hj hp
    cases hl : listed.getD j false with
    | false => rfl
    | true => have := h.down i j hj hl hp; rw [hnl'] at this; cases this
  -- what the operation looks at has the values that it has in the order of the text
  have hsr : ∀ {s1 : AS}, HR P base w0 ρ s1 w → SR P base w0 rd ρ ((as i).only (looks ops o)) s1 ra w := by
    intro s1 hh
    refine ⟨hh, by rw [h.n]; exact q1.symm, fun t v ht => ?_, by show DR ρ (as i).df _; rw [q2]; exact h.d, by show RdR ρ (as i).rd _; rw [q3]; exact h.r⟩
    have ht' : (restrict (as i).tm (looks ops o)).get t = some v := ht
    rw [restrict_get] at ht'
    by_cases hm : t ∈ looks ops o
    rotate_left
    · rw [if_neg hm] at ht'; cases ht'
    rw [if_pos hm] at ht'
    show t < (as i).n ∧ _
    rw [q1]
    by_cases hw : ∃ (j : Nat) (o' : Oper), ops[j]? = some o' ∧ o'.dst = some t
    · obtain ⟨j, o', ho', hd'⟩ := hw
      by_cases hji : j = i
      · subst hji
        have hno : ∀ (q : Nat) (oq : Oper), q < j → ops[q]? = some oq → oq.dst ≠ some t := fun q oq hq hoq hdq => by
          have := hD.one q j oq o' t hoq ho' hdq hd'; omega
        rw [(q4 t).2 hno] at ht'
        exact h.rest t v (fun q oq hoq hdq => by have := hD.one q j oq o' t hoq ho' hdq hd'; subst this; exact hnl') ht'
      · rcases hD.reads j i o' o t ho' ho hd' hm hji with ⟨r1, r2⟩ | ⟨r1, r2⟩
        · have hl := ahead j r1
          by_cases htn : t < (as 0).n
          · rw [(q4 t).1 j o' r2 ho' hd' htn] at ht'
            cases ht'
            exact ⟨htn, h.done j o' t ho' hd' hl htn⟩
          · exfalso
            -- a temporary past the frame's end is never set
            have hset : ∀ k, k ≤ ops.size → (as k).tm.get t = (as 0).tm.get t := by
              intro k
              induction k with
              | zero => intro _; rfl
              | succ k ih =>
                intro hk
                have hok : ops[k]? = some ops[k] := Array.getElem?_eq_getElem (by omega)
                obtain ⟨-, hput⟩ := hD.step k _ hok
                rw [hput, ← ih (by omega)]
                unfold AA.put
                cases hdk : (ops[k]).dst with
                | none => rfl
                | some d =>
                  simp only
                  cases hb : Nat.blt d (as k).n with
                  | false => rfl
                  | true =>
                    have hdn : d < (as k).n := by rw [← Nat.blt_eq]; exact hb
                    rw [(as_get hD k (by omega)).1] at hdn
                    simp only [cond_true, Tr.get_set]
                    rw [if_neg (show ¬ t = d from fun e => htn (e ▸ hdn))]
            rw [hset i (by omega)] at ht'
            -- and the reading of what was there is of none
            exact htn (h.lt t v ht')
        · have hl := behind j (Array.getElem?_eq_some_iff.1 ho').1 r1
          have hno : ∀ (q : Nat) (oq : Oper), q < i → ops[q]? = some oq → oq.dst ≠ some t := fun q oq hq hoq hdq => by
            have := hD.one q j oq o' t hoq ho' hdq hd'; omega
          rw [(q4 t).2 hno] at ht'
          exact h.rest t v (fun q oq hoq hdq => by have := hD.one q j oq o' t hoq ho' hdq hd'; subst this; exact hl) ht'
    · have hno : ∀ (q : Nat) (oq : Oper), q < i → ops[q]? = some oq → oq.dst ≠ some t := fun q oq _ hoq hdq => hw ⟨q, oq, hoq, hdq⟩
      rw [(q4 t).2 hno] at ht'
      exact h.rest t v (fun q oq hoq hdq => absurd ⟨q, oq, hoq, hdq⟩ hw) ht'
  -- behind the step
  have after : ∀ {ρ' : Rho} {v' : Value} {w' : World} {k' : Nat}, k' ≤ ops.size → HR P base w0 ρ' (ss k') w' → (∀ j, j < ops.size → eff j = true → ((listed.setIfInBounds i true).getD j false = true ↔ j < k')) → VR ρ' (vs i) v' → ρ.le ρ' →
      OnWay P base w0 rd ops as ss vs eff ρ' (listed.setIfInBounds i true) (ra.put o.dst v') w' := by
    intro ρ' v' w' k' hk' hh heff hv hl
    refine ⟨by simpa using h.size, h.lt, fun a b hb hlb hp => ?_, ⟨k', hk', hh, heff⟩, ?_, ?_, h.r.mono hl, fun a oa t hoa hda hla htn => ?_, fun t v hno hv0 => ?_⟩
    · rw [getD_set hil] at hlb ⊢
      by_cases hai : a = i
      · rw [if_pos hai]
      · rw [if_neg hai]
        by_cases hbi : b = i
        · subst hbi; exact ahead a hp
        · rw [if_neg hbi] at hlb; exact h.down a b hb hlb hp
    · unfold Act.put; cases o.dst <;> simp [h.n]
    · have : (ra.put o.dst v').defers = ra.defers := by unfold Act.put; cases o.dst <;> rfl
      rw [this]; exact h.d.mono hl
    · rw [getD_set hil] at hla
      by_cases hai : a = i
      · subst hai; rw [ho] at hoa; cases hoa
        rw [hda]
        have : (ra.put (some t) v').tmps.getD t undef = v' := by simp [Act.put, Array.getD, h.n, htn]
        rw [this]; exact hv
      · rw [if_neg hai] at hla
        have hne : o.dst ≠ some t := fun hd => hai (hD.one a i oa o t hoa ho hda hd)
        have : (ra.put o.dst v').tmps.getD t undef = ra.tmps.getD t undef := by
          unfold Act.put
          cases hd : o.dst with
          | none => rfl
          | some d =>
            have hdt : d ≠ t := fun e => hne (by rw [hd, e])
            simp only [Array.getD_eq_getD_getElem?, Array.getElem?_setIfInBounds, if_neg hdt]
        rw [this]; exact (h.done a oa t hoa hda hla htn).mono hl
    · have hno' : ∀ (q : Nat) (oq : Oper), ops[q]? = some oq → oq.dst = some t → listed.getD q false = false := fun q oq hoq hdq => by
        have := hno q oq hoq hdq
        rw [getD_set hil] at this
        by_cases hqi : q = i
        · rw [if_pos hqi] at this; cases this
        · rw [if_neg hqi] at this; exact this
      have hne : o.dst ≠ some t := fun hd => by
        have := hno i o ho hd
        rw [getD_set hil, if_pos rfl] at this; cases this
      obtain ⟨g1, g2⟩ := h.rest t v hno' hv0
      refine ⟨g1, ?_⟩
      have : (ra.put o.dst v').tmps.getD t undef = ra.tmps.getD t undef := by
        unfold Act.put
        cases hd : o.dst with
        | none => rfl
        | some d =>
          have hdt : d ≠ t := fun e => hne (by rw [hd, e])
          simp only [Array.getD_eq_getD_getElem?, Array.getElem?_setIfInBounds, if_neg hdt]
      rw [this]; exact g2.mono hl
  obtain ⟨k, hk, hh, heff⟩ := h.heap
  cases he : eff i with
  | false =>
    obtain ⟨-, hcalm⟩ := hD.calm i o ho he
    have hs := hcalm k hk (fun j hj hej => ⟨fun hp => (heff j hj hej).1 (ahead j hp), fun hp => by
      have := behind j hj hp
      rcases Nat.lt_or_ge j k with e | e
      · rw [(heff j hj hej).2 e] at this; cases this
      · exact e⟩)
    refine step_core ho hs.only (hsr hh) (fun ρ' v' w' hh' hv' hl => hK ρ' _ _ (after hk hh' (fun j hj hej => ?_) hv' hl) hl)
    rw [getD_set hil]
    have : j ≠ i := by rintro rfl; rw [he] at hej; cases hej
    rw [if_neg this]; exact heff j hj hej
  | true =>
    have hik : k ≤ i := by
      rcases Nat.lt_or_ge i k with e | e
      · rw [(heff i hlt he).2 e] at hnl'; cases hnl'
      · exact e
    have hconst : ∀ m, k ≤ m → m ≤ i → ss m = ss k := by
      intro m hkm
      induction m with
      | zero => intro _; have : k = 0 := by omega
                rw [this]
      | succ m ih =>
        intro hmi
        rcases Nat.lt_or_ge k (m + 1) with e | e
        · have hm : eff m = false := by
            cases hem : eff m with
            | false => rfl
            | true =>
              have := ahead m (hD.chain m i (by omega) hlt hem he)
              have := (heff m (by omega) hem).1 this
              omega
          have hom : ops[m]? = some ops[m] := Array.getElem?_eq_getElem (by omega)
          rw [(hD.calm m _ hom hm).1]; exact ih (by omega) (by omega)
        · have : k = m + 1 := by omega
          rw [this]
    obtain ⟨hs, -⟩ := hD.step i o ho
    refine step_core ho hs.only (hsr (by rw [hconst i hik (Nat.le_refl i)]; exact hh)) (fun ρ' v' w' hh' hv' hl => hK ρ' _ _ (after (k' := i + 1) (by omega) hh' (fun j hj hej => ?_) hv' hl) hl)
    rw [getD_set hil]
    by_cases hji : j = i
    · subst hji; simp
    · rw [if_neg hji]
      constructor
      · intro hlj
        have := (heff j hj hej).1 hlj
        omega
      · intro hlt2
        have hji2 : j < i := by omega
        exact ahead j (hD.chain j i hji2 hlt hej he)
end
theorem ex_draw {id : Nat} {ops : Array Oper} {as : Nat → AA} {ss : Nat → AS} {vs : Nat → Value} {eff : Nat → Bool} (hm : P.follows .mixedOrders = true) (hD : Drawn P base w0 ops as ss vs eff) :
    AEx P base w0 (.region id ops true) (as 0) (ss 0) .normal (as ops.size) (ss ops.size) := by
  intro rd ρ ra w h
  refine wpIn_region_any hm ?_
  have hend : ∀ {ρ' : Rho} {listed : Array Bool} {ra' : Act} {w' : World}, OnWay P base w0 rd ops as ss vs eff ρ' listed ra' w' → ρ.le ρ' → (∀ i, i < ops.size → listed.getD i false = true) →
      (Exit.normal = AExit.normal.real ∧ ∃ ρ', SR P base w0 rd ρ' (as ops.size) (ss ops.size) ra' w' ∧ ρ.le ρ') := by
    intro ρ' listed ra' w' hw hl hall
    obtain ⟨q1, q2, q3, q4⟩ := as_get hD ops.size (Nat.le_refl _)
    obtain ⟨k, hk, hh, heff⟩ := hw.heap
    have hss : ∀ m, k ≤ m → m ≤ ops.size → ss m = ss k := by
      intro m hkm
      induction m with
      | zero => intro _; have : k = 0 := by omega
                rw [this]
      | succ m ih =>
        intro hmi
        rcases Nat.lt_or_ge k (m + 1) with e | e
        · have hem : eff m = false := by
            cases hem : eff m with
            | false => rfl
            | true => have := (heff m (by omega) hem).1 (hall m (by omega)); omega
          rw [(hD.calm m _ (Array.getElem?_eq_getElem (by omega)) hem).1]; exact ih (by omega) (by omega)
        · have : k = m + 1 := by omega
          rw [this]
    refine ⟨rfl, ρ', ⟨by rw [hss _ hk (Nat.le_refl _)]; exact hh, by rw [hw.n]; exact q1.symm, fun t v ht => ?_, by rw [q2]; exact hw.d, by rw [q3]; exact hw.r⟩, hl⟩
    rw [q1]
    by_cases hwr : ∃ (j : Nat) (o : Oper), ops[j]? = some o ∧ o.dst = some t
    · obtain ⟨j, o, ho, hd⟩ := hwr
      have hj := (Array.getElem?_eq_some_iff.1 ho).1
      by_cases htn : t < (as 0).n
      · rw [(q4 t).1 j o hj ho hd htn] at ht
        cases ht
        exact ⟨htn, hw.done j o t ho hd (hall j hj) htn⟩
      · exfalso
        have hset : ∀ k, k ≤ ops.size → (as k).tm.get t = (as 0).tm.get t := by
          intro k
          induction k with
          | zero => intro _; rfl
          | succ k ih =>
            intro hk
            have hok : ops[k]? = some ops[k] := Array.getElem?_eq_getElem (by omega)
            obtain ⟨-, hput⟩ := hD.step k _ hok
            rw [hput, ← ih (by omega)]
            unfold AA.put
            cases hdk : (ops[k]).dst with
            | none => rfl
            | some d =>
              simp only
              cases hb : Nat.blt d (as k).n with
              | false => rfl
              | true =>
                have hdn : d < (as k).n := by rw [← Nat.blt_eq]; exact hb
                rw [(as_get hD k (by omega)).1] at hdn
                simp only [cond_true, Tr.get_set]
                rw [if_neg (show ¬ t = d from fun e => htn (e ▸ hdn))]
        rw [hset _ (Nat.le_refl _)] at ht
        exact htn (hw.lt t v ht)
    · have hno : ∀ (q : Nat) (oq : Oper), q < ops.size → ops[q]? = some oq → oq.dst ≠ some t := fun q oq _ hoq hdq => hwr ⟨q, oq, hoq, hdq⟩
      rw [(q4 t).2 hno] at ht
      exact hw.rest t v (fun q oq hoq hdq => absurd ⟨q, oq, hoq, hdq⟩ hwr) ht
  -- where none is ready, all are listed
  have hallOf : ∀ {ρ' : Rho} {listed : Array Bool} {ra' : Act} {w' : World}, OnWay P base w0 rd ops as ss vs eff ρ' listed ra' w' → Region.ready .any ops listed = [] → ∀ i, i < ops.size → listed.getD i false = true := by
    intro ρ' listed ra' w' hw hr i
    induction i using Nat.strongRecOn with
    | _ i ih =>
      intro hi
      cases hli : listed.getD i false with
      | true => rfl
      | false =>
        have ho : ops[i]? = some ops[i] := Array.getElem?_eq_getElem hi
        have : i ∈ Region.ready .any ops listed := by
          unfold Region.ready
          refine List.mem_filter.2 ⟨by simpa using hi, ?_⟩
          have h1 : listed.getD i true = false := by
            rw [Array.getD_eq_getD_getElem?] at hli ⊢
            rw [Array.getElem?_eq_getElem (by rw [hw.size]; exact hi)] at hli ⊢
            exact hli
          rw [h1, ho]
          simp only [Bool.not_false, Bool.true_and, Option.map_some, Option.getD_some, Array.all_eq_true_iff_forall_mem, Bool.or_eq_true, Bool.not_eq_true']
          intro e he
          cases hb : Region.binds .any e with
          | false => exact .inl rfl
          | true => exact .inr (ih e.on (hD.edges i _ ho e (by simpa using he) hb) (by have := hD.edges i _ ho e (by simpa using he) hb; omega))
        rw [hr] at this; cases this
  suffices key : ∀ (fuel : Nat) (ρ' : Rho) (listed : Array Bool) (ra' : Act) (w' : World), OnWay P base w0 rd ops as ss vs eff ρ' listed ra' w' → ρ.le ρ' → (listed.toList.filter (· = false)).length ≤ fuel →
      wpAnyIn (FR rd) 0 P .any ops (fun e' ra' w' => e' = AExit.normal.real ∧ ∃ ρ', SR P base w0 rd ρ' (as ops.size) (ss ops.size) ra' w' ∧ ρ.le ρ') fuel listed ra' w' from
    key ops.size ρ _ ra _ (onWay_start h) (Rho.le_refl ρ) (by simp [Array.toList_replicate])
  intro fuel
  induction fuel with
  | zero =>
    intro ρ' listed ra' w' hw hl hn
    have hr : Region.ready .any ops listed = [] := by
      apply List.eq_nil_iff_forall_not_mem.2
      intro i hi
      obtain ⟨hlt, hnl, o, ho, hedge⟩ := mem_ready' hi
      have hil : i < listed.size := by rw [hw.size]; exact hlt
      rw [Array.getD_eq_getD_getElem?, Array.getElem?_eq_getElem hil] at hnl
      have : listed[i] ∈ listed.toList.filter (· = false) := List.mem_filter.2 ⟨by simp, by simpa using hnl⟩
      rw [List.eq_nil_of_length_eq_zero (Nat.le_zero.1 hn)] at this
      cases this
    exact ⟨hr, hend hw hl (hallOf hw hr)⟩
  | succ fuel ih =>
    intro ρ' listed ra' w' hw hl hn
    refine ⟨fun hr => hend hw hl (hallOf hw hr), fun i hi => ?_⟩
    refine onWay_step hD hw hi (fun ρ'' ra'' w'' hw' hl' => ih ρ'' _ ra'' w'' hw' (Rho.le_trans hl hl') ?_)
    obtain ⟨hlt, hnl, o, ho, hedge⟩ := mem_ready' hi
    have hil : i < listed.size := by rw [hw.size]; exact hlt
    rw [Array.getD_eq_getD_getElem?, Array.getElem?_eq_getElem hil] at hnl
    have hnl' : listed.toList[i]'(by simpa using hil) = false := by simpa using hnl
    rw [Array.toList_setIfInBounds]
    have key2 : ∀ (l : List Bool) (i : Nat) (h : i < l.length), l[i] = false → ((l.set i true).filter (· = false)).length + 1 = (l.filter (· = false)).length := by
      intro l
      induction l with
      | nil => intro i h; simp at h
      | cons b l ihl =>
        intro i h hb
        cases i with
        | zero => have hb' : b = false := hb; subst hb'; simp
        | succ i =>
          have := ihl i (by simpa using h) hb
          rw [List.set_cons_succ, List.filter_cons, List.filter_cons]
          split <;> (try simp only [List.length_cons]) <;> omega
    have := key2 listed.toList i (by simpa using hil) hnl'
    omega
end
end Go.Proofs.YtchjiocljlbhkaaW.Mill
