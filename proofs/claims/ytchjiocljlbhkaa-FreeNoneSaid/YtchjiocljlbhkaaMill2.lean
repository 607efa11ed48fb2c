/- The small machine's values and memory, and the model's: how they stand to each other (the session's own). -/
import Derived.Test.YtchjiocljlbhkaaMill1
namespace Go.Proofs.YtchjiocljlbhkaaW.Mill
open Go Go.RowKit
set_option linter.unusedVariables false
set_option linter.unusedSimpArgs false

/-! ### rows by number -/
theorem Tr.get_setF {α : Type} (x : Option α) : ∀ (k : Nat) (t : Tr α) (n m : Nat), n < k → (Tr.setF k t n x).get m = if m = n then x else t.get m
  | 0, t, n, m, h => absurd h (Nat.not_lt_zero _)
  | k + 1, .nil, 0, m, h => by
    cases m with
    | zero => simp [Tr.setF, Tr.get, cond]
    | succ m => cases hb : Nat.beq ((m + 1) % 2) 1 <;> simp [Tr.setF, Tr.get, hb, Nat.beq]
  | k + 1, .node v l r, 0, m, h => by
    cases m with
    | zero => simp [Tr.setF, Tr.get]
    | succ m => cases hb : Nat.beq ((m + 1) % 2) 1 <;> simp [Tr.setF, Tr.get, hb, Nat.beq]
  | k + 1, .nil, n + 1, m, h => by
    have hn : ∀ j, (Tr.nil : Tr α).get j = none := fun _ => rfl
    cases hb : Nat.beq ((n + 1) % 2) 1 with
    | true =>
      have hb' : (n + 1) % 2 = 1 := Nat.eq_of_beq_eq_true hb
      cases m with
      | zero => simp [Tr.setF, Tr.get, hb]
      | succ m =>
        cases hm : Nat.beq ((m + 1) % 2) 1 with
        | true =>
          have hm' : (m + 1) % 2 = 1 := Nat.eq_of_beq_eq_true hm
          simp only [Tr.setF, Tr.get, hb, hm, cond_true]
          rw [Tr.get_setF x k .nil _ _ (by omega), hn]
          have : ((m + 1) / 2 = (n + 1) / 2) ↔ (m + 1 = n + 1) := by omega
          simp only [this]; simp [Nat.beq, hn]
        | false =>
          have hm' : (m + 1) % 2 ≠ 1 := Nat.ne_of_beq_eq_false hm
          have : ¬ (m + 1 = n + 1) := by omega
          simp only [Tr.setF, Tr.get, hb, hm, cond_true, cond_false, hn, if_neg this]; simp [Nat.beq]
    | false =>
      have hb' : (n + 1) % 2 ≠ 1 := Nat.ne_of_beq_eq_false hb
      cases m with
      | zero => simp [Tr.setF, Tr.get, hb]
      | succ m =>
        cases hm : Nat.beq ((m + 1) % 2) 1 with
        | false =>
          have hm' : (m + 1) % 2 ≠ 1 := Nat.ne_of_beq_eq_false hm
          simp only [Tr.setF, Tr.get, hb, hm, cond_false]
          rw [Tr.get_setF x k .nil _ _ (by omega), hn]
          have : ((m + 1) / 2 - 1 = (n + 1) / 2 - 1) ↔ (m + 1 = n + 1) := by omega
          simp only [this]; simp [Nat.beq, hn]
        | true =>
          have hm' : (m + 1) % 2 = 1 := Nat.eq_of_beq_eq_true hm
          have : ¬ (m + 1 = n + 1) := by omega
          simp only [Tr.setF, Tr.get, hb, hm, cond_true, cond_false, hn, if_neg this]; simp [Nat.beq]
  | k + 1, .node v l r, n + 1, m, h => by
    cases hb : Nat.beq ((n + 1) % 2) 1 with
    | true =>
      have hb' : (n + 1) % 2 = 1 := Nat.eq_of_beq_eq_true hb
      cases m with
      | zero => simp [Tr.setF, Tr.get, hb]
      | succ m =>
        cases hm : Nat.beq ((m + 1) % 2) 1 with
        | true =>
          have hm' : (m + 1) % 2 = 1 := Nat.eq_of_beq_eq_true hm
          simp only [Tr.setF, Tr.get, hb, hm, cond_true]
          rw [Tr.get_setF x k l _ _ (by omega)]
          have : ((m + 1) / 2 = (n + 1) / 2) ↔ (m + 1 = n + 1) := by omega
          simp only [this]; simp [Nat.beq]
        | false =>
          have hm' : (m + 1) % 2 ≠ 1 := Nat.ne_of_beq_eq_false hm
          have : ¬ (m + 1 = n + 1) := by omega
          simp only [Tr.setF, Tr.get, hb, hm, cond_true, cond_false, if_neg this]
    | false =>
      have hb' : (n + 1) % 2 ≠ 1 := Nat.ne_of_beq_eq_false hb
      cases m with
      | zero => simp [Tr.setF, Tr.get, hb]
      | succ m =>
        cases hm : Nat.beq ((m + 1) % 2) 1 with
        | false =>
          have hm' : (m + 1) % 2 ≠ 1 := Nat.ne_of_beq_eq_false hm
          simp only [Tr.setF, Tr.get, hb, hm, cond_false]
          rw [Tr.get_setF x k r _ _ (by omega)]
          have : ((m + 1) / 2 - 1 = (n + 1) / 2 - 1) ↔ (m + 1 = n + 1) := by omega
          simp only [this]; simp [Nat.beq]
        | true =>
          have hm' : (m + 1) % 2 = 1 := Nat.eq_of_beq_eq_true hm
          have : ¬ (m + 1 = n + 1) := by omega
          simp only [Tr.setF, Tr.get, hb, hm, cond_true, cond_false, if_neg this]
theorem Tr.get_set {α : Type} (t : Tr α) (n m : Nat) (x : Option α) : (t.set n x).get m = if m = n then x else t.get m := Tr.get_setF x _ t n m (Nat.lt_succ_self n)
theorem AS.get_put (s : AS) (b c : Nat) (o : AObj) : (s.put b o).get c = if c = b then some o else s.get c := Tr.get_set _ _ _ _
theorem AS.get_push (s : AS) (c : Nat) (o : AObj) : (s.push o).get c = if c = s.size then some o else s.get c := Tr.get_set _ _ _ _
@[simp] theorem AS.size_put (s : AS) (b : Nat) (o : AObj) : (s.put b o).size = s.size := rfl
@[simp] theorem AS.size_push (s : AS) (o : AObj) : (s.push o).size = s.size + 1 := rfl

/-! ### values -/
/-- Where a block lies in the model's memory: its row, how far in, the row's size, an element's cells. -/
structure Ren where
  r : Nat
  d : Nat
  M : Nat
  sz : Nat
abbrev Rho := Nat → Option Ren
def Rho.le (ρ ρ' : Rho) : Prop := ∀ b x, ρ b = some x → ρ' b = some x
theorem Rho.le_refl (ρ : Rho) : ρ.le ρ := fun _ _ h => h
theorem Rho.le_trans {a b c : Rho} (h : a.le b) (k : b.le c) : a.le c := fun i x hx => k i x (h i x hx)
def Rho.set (ρ : Rho) (b : Nat) (x : Ren) : Rho := fun c => if c = b then some x else ρ c
theorem Rho.le_set {ρ : Rho} {b : Nat} (x : Ren) (h : ρ b = none) : ρ.le (ρ.set b x) := fun c y hc => by
  unfold Rho.set; by_cases e : c = b
  · subst e; rw [h] at hc; cases hc
  · rw [if_neg e]; exact hc
theorem Rho.set_self (ρ : Rho) (b : Nat) (x : Ren) : (ρ.set b x) b = some x := by simp [Rho.set]
mutual
inductive VR (ρ : Rho) : Value → Value → Prop
  | bool (b : Bool) : VR ρ (.bool b) (.bool b)
  | int (k : IntKind) (n : Int) : VR ρ (.int k n) (.int k n)
  | string (s : ByteArray) : VR ρ (.string s) (.string s)
  | ptr0 : VR ρ (.pointer none) (.pointer none)
  | map0 : VR ρ (.map none) (.map none)
  | slice0 : VR ρ (.slice none 0 0) (.slice none 0 0)
  | nilFunc : VR ρ .nilFunc .nilFunc
  | nilIface : VR ρ .nilIface .nilIface
  | ptr {b o : Nat} {x : Ren} : ρ b = some x → VR ρ (.pointer (some ⟨b, o, none⟩)) (.pointer (some ⟨x.r, o + x.d, none⟩))
  | slice {b o o' n c c' : Nat} {x : Ren} : ρ b = some x → n ≤ c → c ≤ c' → (0 < c → o' = o + x.d) → o' + c' * x.sz ≤ x.M → VR ρ (.slice (some ⟨b, o, none⟩) n c) (.slice (some ⟨x.r, o', none⟩) n c')
  | sliceX {b o o' n c : Nat} {x : Ren} : ρ b = some x → n ≤ c → (0 < c → o' = o + x.d) → VR ρ (.slice (some ⟨b, o, some 1⟩) n c) (.slice (some ⟨x.r, o', none⟩) n c)
  | map {b : Nat} {x : Ren} : ρ b = some x → VR ρ (.map (some b)) (.map (some x.r))
  | func {f : FuncId} {cap cap' : Array Value} : VRs ρ cap.toList cap'.toList → VR ρ (.func (.func f) #[] cap) (.func (.func f) #[] cap')
  | yield {b : Nat} {x : Ren} : ρ b = some x → VR ρ (.func (.yield b) #[] #[]) (.func (.yield x.r) #[] #[])
  | iface {t : TypeId} {v v' : Value} : VR ρ v v' → VR ρ (.iface t v) (.iface t v')
  | agg {cs cs' : Array Value} : VRs ρ cs.toList cs'.toList → VR ρ (.agg cs) (.agg cs')
  | tuple {cs cs' : Array Value} : VRs ρ cs.toList cs'.toList → VR ρ (.tuple cs) (.tuple cs')
inductive VRs (ρ : Rho) : List Value → List Value → Prop
  | nil : VRs ρ [] []
  | cons {v v' : Value} {l l' : List Value} : VR ρ v v' → VRs ρ l l' → VRs ρ (v :: l) (v' :: l')
end
mutual
theorem VR.mono {ρ ρ' : Rho} (hl : ρ.le ρ') : ∀ {v v' : Value}, VR ρ v v' → VR ρ' v v'
  | _, _, .bool b => .bool b
  | _, _, .int k n => .int k n
  | _, _, .string s => .string s
  | _, _, .ptr0 => .ptr0
  | _, _, .map0 => .map0
  | _, _, .slice0 => .slice0
  | _, _, .nilFunc => .nilFunc
  | _, _, .nilIface => .nilIface
  | _, _, .ptr h => .ptr (hl _ _ h)
  | _, _, .slice h a b c d => .slice (hl _ _ h) a b c d
  | _, _, .sliceX h a b => .sliceX (hl _ _ h) a b
  | _, _, .map h => .map (hl _ _ h)
  | _, _, .func h => .func (VRs.mono hl h)
  | _, _, .yield h => .yield (hl _ _ h)
  | _, _, .iface h => .iface (VR.mono hl h)
  | _, _, .agg h => .agg (VRs.mono hl h)
  | _, _, .tuple h => .tuple (VRs.mono hl h)
theorem VRs.mono {ρ ρ' : Rho} (hl : ρ.le ρ') : ∀ {l l' : List Value}, VRs ρ l l' → VRs ρ' l l'
  | _, _, .nil => .nil
  | _, _, .cons h t => .cons (VR.mono hl h) (VRs.mono hl t)
end
theorem VRs.length {ρ : Rho} : ∀ {l l' : List Value}, VRs ρ l l' → l'.length = l.length
  | _, _, .nil => rfl
  | _, _, .cons _ t => by simp [VRs.length t]
theorem VRs.append {ρ : Rho} {m m' : List Value} (h2 : VRs ρ m m') : ∀ {l l' : List Value}, VRs ρ l l' → VRs ρ (l ++ m) (l' ++ m')
  | _, _, .nil => h2
  | _, _, .cons h t => .cons h (VRs.append h2 t)
theorem VRs.get {ρ : Rho} {v : Value} : ∀ {l l' : List Value}, VRs ρ l l' → ∀ i : Nat, l[i]? = some v → ∃ v', l'[i]? = some v' ∧ VR ρ v v'
  | _, _, .nil, i, h => by simp at h
  | _, _, .cons h t, 0, e => by simp at e; subst e; exact ⟨_, rfl, h⟩
  | _, _, .cons h t, i + 1, e => VRs.get t i (by simpa using e)
theorem VRs.take {ρ : Rho} : ∀ {l l' : List Value}, VRs ρ l l' → ∀ n, VRs ρ (l.take n) (l'.take n)
  | _, _, .nil, _ => by simp; exact .nil
  | _, _, .cons h t, 0 => .nil
  | _, _, .cons h t, n + 1 => .cons h (VRs.take t n)
theorem VRs.drop {ρ : Rho} : ∀ {l l' : List Value}, VRs ρ l l' → ∀ n, VRs ρ (l.drop n) (l'.drop n)
  | _, _, .nil, _ => by simp; exact .nil
  | _, _, .cons h t, 0 => .cons h t
  | _, _, .cons h t, n + 1 => VRs.drop t n
theorem VRs.write {ρ : Rho} {c c' vs vs' : List Value} (h : VRs ρ c c') (hv : VRs ρ vs vs') (o : Nat) : VRs ρ (write c o vs) (write c' o vs') := by
  unfold Mill.write; rw [hv.length]; exact VRs.append (h.drop _) (VRs.append hv (h.take _))
theorem VRs.row {ρ : Rho} {c c' l : List Value} {o n : Nat} (h : VRs ρ c c') (hr : row c o n = some l) : ∃ l', Mill.row c' o n = some l' ∧ VRs ρ l l' := by
  unfold Mill.row at *
  by_cases hl : o + n ≤ c.length
  · rw [if_pos hl] at hr; cases hr; rw [if_pos (by rw [h.length]; exact hl)]; exact ⟨_, rfl, (h.drop _).take _⟩
  · rw [if_neg hl] at hr; cases hr
/-- Values of one cell without addresses. -/
theorem VR.plain1 {ρ : Rho} {v v' : Value} (h : VR ρ v v') (hp : plain1 v = true) : v' = v := by
  cases h <;> first
    | rfl
    | (simp [Mill.plain1] at hp; done)
    | (simp only [Mill.plain1, Bool.and_eq_true, Array.isEmpty_iff] at hp
       obtain ⟨_, rfl⟩ := hp
       rename_i hh
       have := hh.length
       simp at this
       subst this
       rfl)
theorem VR.of_plain1 {ρ : Rho} {v : Value} (hp : Mill.plain1 v = true) : VR ρ v v := by
  cases v <;> (try (first | exact .bool _ | exact .int _ _ | exact .string _ | exact .nilFunc | exact .nilIface | (simp [Mill.plain1] at hp; done)))
  · rename_i a; cases a <;> first | exact .ptr0 | (simp [Mill.plain1] at hp)
  · rename_i a n c; cases a with
    | none => cases n <;> cases c <;> first | exact .slice0 | (simp [Mill.plain1] at hp)
    | some a => simp [Mill.plain1] at hp
  · rename_i a; cases a <;> first | exact .map0 | (simp [Mill.plain1] at hp)
  · rename_i fn first cap
    cases fn <;> first | (simp [Mill.plain1] at hp; done) | skip
    simp only [Mill.plain1, Bool.and_eq_true, Array.isEmpty_iff] at hp
    obtain ⟨rfl, rfl⟩ := hp
    exact .func .nil
theorem VR.plainI {ρ : Rho} {v v' : Value} (h : VR ρ v v') (hp : plainI v = true) : v' = v := by
  cases h with
  | iface h => rw [h.plain1 hp]
  | _ => first
    | rfl
    | (rename_i hh; exact VR.plain1 (by first | exact .func hh | exact .yield hh | exact .map hh | exact .ptr hh | exact .agg hh | exact .tuple hh) hp)
    | (simp [Mill.plainI, Mill.plain1] at hp; done)
theorem VR.of_plainI {ρ : Rho} {v : Value} (hp : Mill.plainI v = true) : VR ρ v v := by
  cases v <;> first
    | exact .iface (VR.of_plain1 hp)
    | exact VR.of_plain1 hp
theorem VRs.plain {ρ : Rho} : ∀ {l l' : List Value}, VRs ρ l l' → l.all Mill.plainI = true → l' = l
  | _, _, .nil, _ => rfl
  | _, _, .cons h t, hp => by
    simp only [List.all_cons, Bool.and_eq_true] at hp
    rw [h.plainI hp.1, VRs.plain t hp.2]
theorem VRs.of_plain {ρ : Rho} : ∀ {l : List Value}, l.all Mill.plainI = true → VRs ρ l l
  | [], _ => .nil
  | v :: l, hp => by
    simp only [List.all_cons, Bool.and_eq_true] at hp
    exact .cons (VR.of_plainI hp.1) (VRs.of_plain hp.2)
theorem VR.plain {ρ : Rho} {v v' : Value} (h : VR ρ v v') (hp : plainV v = true) : v' = v := by
  cases h with
  | agg h => rename_i cs cs'; have := h.plain hp; exact congrArg Value.agg (Array.ext' this)
  | tuple h =>
    rename_i cs cs'
    simp only [Mill.plainV, Array.isEmpty_iff] at hp
    subst hp
    have := h.length
    simp at this
    subst this
    rfl
  | iface h => exact VR.plainI (.iface h) hp
  | func h => exact VR.plainI (.func h) hp
  | yield h => simp [Mill.plainV, Mill.plainI, Mill.plain1] at hp
  | map h => simp [Mill.plainV, Mill.plainI, Mill.plain1] at hp
  | ptr h => simp [Mill.plainV, Mill.plainI, Mill.plain1] at hp
  | slice h => simp [Mill.plainV, Mill.plainI, Mill.plain1] at hp
  | sliceX h => simp [Mill.plainV, Mill.plainI, Mill.plain1] at hp
  | _ => rfl
theorem VR.of_plain {ρ : Rho} {v : Value} (hp : plainV v = true) : VR ρ v v := by
  cases v <;> first
    | exact .agg (VRs.of_plain hp)
    | (simp only [Mill.plainV, Array.isEmpty_iff] at hp; subst hp; exact .tuple .nil)
    | exact VR.of_plainI hp
theorem VR.oneC {ρ : Rho} {v v' : Value} (h : VR ρ v v') : oneC v' = oneC v := by cases h <;> rfl
theorem VRs.oneC {ρ : Rho} : ∀ {l l' : List Value}, VRs ρ l l' → l'.all Mill.oneC = l.all Mill.oneC
  | _, _, .nil => rfl
  | _, _, .cons h t => by simp [h.oneC, VRs.oneC t]
theorem VR.vcells {ρ : Rho} {v v' : Value} (h : VR ρ v v') : VRs ρ (vcells v) (vcells v') := by
  cases h with
  | agg h => exact h
  | bool b => exact .cons (.bool b) .nil
  | int k n => exact .cons (.int k n) .nil
  | string s => exact .cons (.string s) .nil
  | ptr0 => exact .cons .ptr0 .nil
  | map0 => exact .cons .map0 .nil
  | slice0 => exact .cons .slice0 .nil
  | nilFunc => exact .cons .nilFunc .nil
  | nilIface => exact .cons .nilIface .nil
  | ptr h => exact .cons (.ptr h) .nil
  | slice h a b c d => exact .cons (.slice h a b c d) .nil
  | sliceX h a b => exact .cons (.sliceX h a b) .nil
  | map h => exact .cons (.map h) .nil
  | func h => exact .cons (.func h) .nil
  | yield h => exact .cons (.yield h) .nil
  | iface h => exact .cons (.iface h) .nil
  | tuple h => exact .cons (.tuple h) .nil
theorem cells_vcells (v : Value) : v.cells.toList = vcells v := by cases v <;> rfl

/-! ### memory -/
def soft (fz : Nat × Nat) (n : Nat) : Prop := ∀ i, i < n → (fz.1 ≤ i && i < fz.2) = false
def mapRel (ρ : Rho) : List (Value × Value × Nat) → List MapEntry → Prop
  | [], [] => True
  | (k, v, b) :: l, e :: l' => plainV k = true ∧ e.key = k ∧ VR ρ v e.val ∧ e.born = b ∧ mapRel ρ l l'
  | _, _ => False
def AObj.own : AObj → Bool
  | .cells _ _ ro => !ro
  | .map _ _ => true
  | .iter _ _ => true
  | .loop .. => true
  | .defd => true
  | .dead => false
def objOk (P : Program) (base : Nat) (ρ : Rho) (w : World) (x : Ren) : AObj → Prop
  | .cells c e ro => ∃ c' fz pre c1 ext, w.heap[x.r]? = some (.cells c' e fz) ∧ c'.toList = pre ++ c1 ++ ext ∧ pre.length = x.d ∧ VRs ρ c c1 ∧ c'.size = x.M ∧ x.sz = P.cellsOf e ∧
      (ro = true → x.r < base) ∧ (ro = false → base ≤ x.r ∧ soft fz x.M)
  | .map es clock => ∃ es' : Array MapEntry, w.heap[x.r]? = some (.map es' clock) ∧ base ≤ x.r ∧ mapRel ρ es es'.toList
  | .iter b pos => w.heap[x.r]? = some (.stringIter b pos) ∧ base ≤ x.r ∧ x.d = 0
  | .loop st pend tm n ps assign body dfr => ∃ L : Loop, w.heap[x.r]? = some (.loop L) ∧ base ≤ x.r ∧ L.state = st ∧ L.pending = pend ∧ L.tmps.size = n ∧ (∀ t v, tm.get t = some v → t < n ∧ VR ρ v (L.tmps.getD t undef)) ∧ L.params.toList = ps ∧ L.assign = assign ∧ L.body = body ∧ ∃ y, ρ dfr = some y ∧ y.r = L.defers
  | .defd => w.heap[x.r]? = some (.deferred (some [])) ∧ base ≤ x.r
  | .dead => True
theorem mapRel.mono {ρ ρ' : Rho} (hl : ρ.le ρ') : ∀ {l : List (Value × Value × Nat)} {l' : List MapEntry}, mapRel ρ l l' → mapRel ρ' l l'
  | [], [], _ => trivial
  | (_, _, _) :: _, _ :: _, ⟨a, b, c, d, e⟩ => ⟨a, b, c.mono hl, d, mapRel.mono hl e⟩
theorem objOk.mono {P : Program} {base : Nat} {ρ ρ' : Rho} (hl : ρ.le ρ') {w w' : World} {x : Ren} (hw : w'.heap[x.r]? = w.heap[x.r]?) : ∀ {o : AObj}, objOk P base ρ w x o → objOk P base ρ' w' x o
  | .cells .., ⟨c', fz, pre, c1, ext, a, b, c, d, e⟩ => ⟨c', fz, pre, c1, ext, hw.trans a, b, c, d.mono hl, e⟩
  | .map .., ⟨es', a, b, c⟩ => ⟨es', hw.trans a, b, c.mono hl⟩
  | .iter .., ⟨a, b⟩ => ⟨hw.trans a, b⟩
  | .loop .., ⟨L, a, b, c, d, e, f, g, h, i, y, hy, j⟩ => ⟨L, hw.trans a, b, c, d, e, fun t v ht => ⟨(f t v ht).1, (f t v ht).2.mono hl⟩, g, h, i, y, hl _ _ hy, j⟩
  | .defd, ⟨a, b⟩ => ⟨hw.trans a, b⟩
  | .dead, _ => trivial
structure HR (P : Program) (base : Nat) (w0 : World) (ρ : Rho) (s : AS) (w : World) : Prop where
  frame : Below base w0 w
  big : base ≤ w.heap.size
  lt : ∀ b x, ρ b = some x → b < s.size
  obj : ∀ b o, s.get b = some o → ∃ x, ρ b = some x ∧ objOk P base ρ w x o
  inj : ∀ b b' x x' o o', s.get b = some o → s.get b' = some o' → o.own = true → o'.own = true → ρ b = some x → ρ b' = some x' → x.r = x'.r → b = b'
theorem objOk.lt {P : Program} {base : Nat} {ρ : Rho} {w : World} {x : Ren} {o : AObj} (h : objOk P base ρ w x o) (ho : o.own = true) : base ≤ x.r ∧ x.r < w.heap.size := by
  have key : ∀ {o : Obj}, w.heap[x.r]? = some o → x.r < w.heap.size := fun h => (Array.getElem?_eq_some_iff.1 h).1
  cases o with
  | cells c e ro =>
    obtain ⟨c', fz, pre, c1, ext, a, b, c, d, e, f, g, i⟩ := h
    cases ro with
    | true => simp [AObj.own] at ho
    | false => exact ⟨(i rfl).1, key a⟩
  | map es clock => obtain ⟨es', a, b, c⟩ := h; exact ⟨b, key a⟩
  | iter b pos => exact ⟨h.2.1, key h.1⟩
  | loop st pend tm n ps assign body dfr => obtain ⟨L, a, b, _⟩ := h; exact ⟨b, key a⟩
  | defd => exact ⟨h.2, key h.1⟩
  | dead => simp [AObj.own] at ho
theorem objOk.ro {P : Program} {base : Nat} {ρ : Rho} {w : World} {x : Ren} {o : AObj} (h : objOk P base ρ w x o) (ho : o.own = false) : (∃ c e, o = .cells c e true ∧ x.r < base) ∨ o = .dead := by
  cases o with
  | cells c e ro =>
    cases ro with
    | true => obtain ⟨c', fz, pre, c1, ext, a, b, _, d, _, f, g, i⟩ := h; exact .inl ⟨c, e, rfl, g rfl⟩
    | false => simp [AObj.own] at ho
  | map es clock => simp [AObj.own] at ho
  | iter b pos => simp [AObj.own] at ho
  | loop st pend tm n ps assign body dfr => simp [AObj.own] at ho
  | defd => simp [AObj.own] at ho
  | dead => exact .inr rfl
/-- One block of the model's memory has been written. -/
structure Upd (w w' : World) (r : Nat) (o : Obj) : Prop where
  os : w'.os = w.os
  tape : w'.tape = w.tape
  output : w'.output = w.output
  size : w'.heap.size = w.heap.size
  at_ : w'.heap[r]? = some o
  far : ∀ k, k ≠ r → w'.heap[k]? = w.heap[k]?
theorem Upd.below {w w' : World} {r base : Nat} {o : Obj} (h : Upd w w' r o) (hr : base ≤ r) : Below base w w' := ⟨h.os, h.tape, h.output, Nat.le_of_eq h.size.symm, fun k hk => h.far k (by omega)⟩
/-- An own block is written, on both sides. -/
theorem HR.upd {P : Program} {base : Nat} {w0 : World} {ρ : Rho} {s : AS} {w w' : World} {b : Nat} {x : Ren} {o o' : AObj} {O : Obj} (h : HR P base w0 ρ s w) (hb : s.get b = some o) (ho : o.own = true) (hx : ρ b = some x)
    (hu : Upd w w' x.r O) (ho' : o'.own = true) (hO : objOk P base ρ w' x o') : HR P base w0 ρ (s.put b o') w' := by
  obtain ⟨x', hx', hok⟩ := h.obj b o hb
  rw [hx] at hx'; cases hx'
  have hlt := hok.lt ho
  refine ⟨h.frame.trans (hu.below hlt.1), by rw [hu.size]; exact h.big, h.lt, fun c oc hc => ?_, fun c c' y y' oc oc' hc hc' p p' q q' e => ?_⟩
  · rw [AS.get_put] at hc
    by_cases e : c = b
    · subst e; rw [if_pos rfl] at hc; cases hc; exact ⟨x, hx, hO⟩
    · rw [if_neg e] at hc
      obtain ⟨y, hy, hok'⟩ := h.obj c oc hc
      refine ⟨y, hy, ?_⟩
      cases hown : oc.own with
      | true =>
        have hne : y.r ≠ x.r := fun er => e (h.inj c b y x oc o hc hb hown ho hy hx er)
        exact hok'.mono (Rho.le_refl ρ) (hu.far _ hne)
      | false =>
        rcases hok'.ro hown with ⟨c0, e0, rfl, hl⟩ | rfl
        · exact hok'.mono (Rho.le_refl ρ) (hu.far _ (by omega))
        · trivial
  · rw [AS.get_put] at hc hc'
    have key : ∀ (d : Nat) (od : AObj), (if d = b then some o' else s.get d) = some od → od.own = true → ∃ od2, s.get d = some od2 ∧ od2.own = true := fun d od hd hod => by
      by_cases e : d = b
      · subst e; exact ⟨o, hb, ho⟩
      · rw [if_neg e] at hd; exact ⟨od, hd, hod⟩
    obtain ⟨o1, h1, k1⟩ := key c oc hc p
    obtain ⟨o2, h2, k2⟩ := key c' oc' hc' p'
    exact h.inj c c' y y' o1 o2 h1 h2 k1 k2 q q' e
/-- The model's memory has turned where nothing of the small machine's lies (a draw, or new blocks). -/
theorem HR.move {P : Program} {base : Nat} {w0 : World} {ρ : Rho} {s : AS} {w w' : World} (h : HR P base w0 ρ s w) (hb : Below w.heap.size w w') : HR P base w0 ρ s w' := by
  have hf : ∀ k, k < w.heap.size → w'.heap[k]? = w.heap[k]? := hb.block
  refine ⟨h.frame.trans ⟨hb.os, hb.tape, hb.output, hb.size, fun k hk => hf k (Nat.lt_of_lt_of_le hk h.big)⟩, Nat.le_trans h.big hb.size, h.lt, fun c oc hc => ?_, h.inj⟩
  obtain ⟨y, hy, hok⟩ := h.obj c oc hc
  refine ⟨y, hy, ?_⟩
  cases hown : oc.own with
  | true => exact hok.mono (Rho.le_refl ρ) (hf _ (hok.lt hown).2)
  | false =>
    rcases hok.ro hown with ⟨c0, e0, rfl, hl⟩ | rfl
    · exact hok.mono (Rho.le_refl ρ) (hf _ (Nat.lt_of_lt_of_le hl h.big))
    · trivial
theorem HR.fresh {P : Program} {base : Nat} {w0 : World} {ρ : Rho} {s : AS} {w : World} (h : HR P base w0 ρ s w) : ρ s.size = none := by
  cases e : ρ s.size with
  | none => rfl
  | some x => exact absurd (h.lt _ _ e) (Nat.lt_irrefl _)
/-- A block more, on both sides. -/
theorem HR.push {P : Program} {base : Nat} {w0 : World} {ρ : Rho} {s : AS} {w : World} {o : AObj} {O : Obj} {d M sz : Nat} (h : HR P base w0 ρ s w)
    (hO : objOk P base (ρ.set s.size ⟨w.heap.size, d, M, sz⟩) (w.alloc O) ⟨w.heap.size, d, M, sz⟩ o) : HR P base w0 (ρ.set s.size ⟨w.heap.size, d, M, sz⟩) (s.push o) (w.alloc O) := by
  have hle := Rho.le_set (ρ := ρ) ⟨w.heap.size, d, M, sz⟩ h.fresh
  have hf : ∀ k, k < w.heap.size → (w.alloc O).heap[k]? = w.heap[k]? := fun k hk => heap_alloc_old w O k hk
  refine ⟨h.frame.trans ⟨rfl, rfl, rfl, by simp, fun k hk => hf k (Nat.lt_of_lt_of_le hk h.big)⟩, by have := h.big; simp; omega, fun c y hc => ?_, fun c oc hc => ?_, fun c c' y y' oc oc' hc hc' p p' q q' e => ?_⟩
  · unfold Rho.set at hc
    by_cases e : c = s.size
    · subst e; simp
    · rw [if_neg e] at hc; have := h.lt c y hc; simp; omega
  · rw [AS.get_push] at hc
    by_cases e : c = s.size
    · subst e; rw [if_pos rfl] at hc; cases hc; exact ⟨_, by simp [Rho.set], hO⟩
    · rw [if_neg e] at hc
      obtain ⟨y, hy, hok⟩ := h.obj c oc hc
      refine ⟨y, hle _ _ hy, ?_⟩
      cases hown : oc.own with
      | true => exact hok.mono hle (hf _ (hok.lt hown).2)
      | false =>
        rcases hok.ro hown with ⟨c0, e0, rfl, hl⟩ | rfl
        · exact hok.mono hle (hf _ (Nat.lt_of_lt_of_le hl h.big))
        · trivial
  · rw [AS.get_push] at hc hc'
    unfold Rho.set at q q'
    have key : ∀ (c : Nat) (y : Ren) (oc : AObj), s.get c = some oc → oc.own = true → ρ c = some y → y.r < w.heap.size := fun c y oc hc p q => by
      obtain ⟨y', hy', hok⟩ := h.obj c oc hc; rw [q] at hy'; cases hy'; exact (hok.lt p).2
    by_cases e1 : c = s.size <;> by_cases e2 : c' = s.size
    · rw [e1, e2]
    · rw [if_pos e1] at q; rw [if_neg e2] at q' hc'; cases q; have := key c' y' oc' hc' p' q'; simp only at e; omega
    · rw [if_neg e1] at q hc; rw [if_pos e2] at q'; cases q'; have := key c y oc hc p q; simp only at e; omega
    · rw [if_neg e1] at q hc; rw [if_neg e2] at q' hc'; exact h.inj c c' y y' oc oc' hc hc' p p' q q' e
theorem HR.cell {P : Program} {base : Nat} {w0 : World} {ρ : Rho} {s : AS} {w : World} {b : Nat} {x : Ren} {c : List Value} {e : TypeId} {ro : Bool} (h : HR P base w0 ρ s w) (hb : s.get b = some (.cells c e ro)) (hx : ρ b = some x) :
    ∃ c', VRs ρ c c' ∧ x.sz = P.cellsOf e ∧ x.d + c.length ≤ x.M ∧ ∀ i, i < c.length → w.cell? ⟨x.r, i + x.d, none⟩ = c'[i]? := by
  obtain ⟨x', hx', c', fz, pre, c1, ext, a, b1, c2, d, e1, f, g, i⟩ := h.obj b _ hb
  rw [hx] at hx'; cases hx'
  refine ⟨c1, d, f, ?_, fun i hi => ?_⟩
  · have := congrArg List.length b1; simp only [Array.length_toList, List.length_append, d.length] at this; omega
  · rw [cell_of_row w x.r _ c' e fz a, ← Array.getElem?_toList, b1, List.append_assoc, List.getElem?_append_right (by omega), show i + x.d - pre.length = i from by omega, List.getElem?_append_left (by rw [d.length]; exact hi)]
end Go.Proofs.YtchjiocljlbhkaaW.Mill
