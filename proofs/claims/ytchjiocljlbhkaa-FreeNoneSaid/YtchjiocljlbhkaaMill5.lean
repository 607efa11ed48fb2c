/- What the small machine's operations do, the model's do: make, index, append, copy, clear (the session's own). -/
import Derived.Test.YtchjiocljlbhkaaMill4
namespace Go.Proofs.YtchjiocljlbhkaaW.Mill
open Go Go.RowKit
set_option linter.unusedVariables false
set_option linter.unusedSimpArgs false
section
variable {P : Program} {base : Nat} {w0 w : World} {ρ : Rho} {s : AS}
theorem wrap_small {n : Int} (h0 : -9223372036854775808 ≤ n) (h1 : n ≤ 9223372036854775807) : IntKind.i64.wrap n = n := by
  simp only [IntKind.wrap, IntKind.bits, IntKind.signed, Bool.true_and, decide_eq_true_eq, show (2 : Int) ^ 64 = 18446744073709551616 from rfl, show (2 : Int) ^ (64 - 1) = 9223372036854775808 from rfl, ge_iff_le]
  split <;> omega
theorem makeSlice_ok (h : HR P base w0 ρ s w) {t : TypeId} {l c : Int} {kl kc : IntKind} {v : Value} {s' : AS} (hm : aMakeSlice P s t l c = some (v, s')) :
    ∃ v' w' ρ', (Instr.makeSlice t (.int kl l) (.int kc c)).run P w = .ok v' w' ∧ HR P base w0 ρ' s' w' ∧ VR ρ' v v' ∧ ρ.le ρ' := by
  unfold aMakeSlice elemO at hm
  cases hu : P.underlying t with
  | none => rw [hu] at hm; cases hm
  | some d =>
    rw [hu] at hm
    cases d with
    | slice e =>
      simp only at hm
      cases hi : P.info? e with
      | none => rw [hi] at hm; cases hm
      | some i =>
        rw [hi] at hm
        cases hz : zeroO P e with
        | none => rw [hz] at hm; cases hm
        | some z =>
          rw [hz] at hm
          simp only at hm
          by_cases hc : 0 ≤ l ∧ l ≤ c ∧ c ≤ 70368744177664 ∧ ↑i.bytes * c ≤ 70368744177664 ∧ (vcells z).length = i.size
          · rw [if_pos hc] at hm; cases hm
            obtain ⟨c1, c2, c3, c4, c5⟩ := hc
            obtain ⟨hzr, hzp⟩ := run_zero hz w
            have hsz : sizeO P e = some i.size := by simp [sizeO, hi]
            have hzs : z.cells.size = i.size := by rw [← Array.length_toList, cells_vcells]; exact c5
            obtain ⟨g1, g2⟩ := new_ok h e (zeroRel (ρ := ρ) hzp c.toNat) [] (0, 0) (soft0 _)
            have hwl : IntKind.i64.wrap l = l := wrap_small (by omega) (by omega)
            have hwc : IntKind.i64.wrap c = c := wrap_small (by omega) (by omega)
            refine ⟨.slice (some ⟨w.heap.size, 0, none⟩) l.toNat c.toNat, _, _, ?_, g1, VR.sliceX (o := 0) (Rho.set_self ρ _ _) (by omega) (fun _ => rfl), g2⟩
            have hcond : ((c < 0 || ↑i.bytes * c > 2 ^ 48) || l < 0 || l > c) = false := by simp; omega
            have hrow : ∀ zz : Array Value, (if c.toNat * i.size = 0 then zz = #[] else zz = z.cells) → ((Array.range (c.toNat * i.size)).map (zz[· % zz.size]!)) = (zeros z.cells.toList c.toNat ++ []).toArray := by
              intro zz hzz
              apply Array.ext'
              rw [List.append_nil]
              by_cases h0 : c.toNat * i.size = 0
              · rw [h0]
                have : (zeros z.cells.toList c.toNat).length = 0 := by rw [zeros_length, Array.length_toList, hzs, h0]
                rw [List.eq_nil_of_length_eq_zero this]; exact List.eq_nil_of_length_eq_zero (by rw [Array.length_toList, Array.size_map, Array.size_range])
              · rw [if_neg h0] at hzz; subst hzz; exact range_zeros _ _ _ (by rw [hzs])
            by_cases h0 : c.toNat * i.size = 0
            · have := hrow #[] (by rw [if_pos h0])
              simp only [Instr.makeSlice, Sem.run_bind, run_underlying hu, Result.andThen, asInt, asIntOf, Sem.run_pure, run_typeInfo hi, hwl, hwc, hcond, run_askRoom, run_sizeOf hsz, if_pos h0, Bool.false_eq_true, if_false, newRow, run_newObj, this]
              rfl
            · have := hrow z.cells (by rw [if_neg h0])
              simp only [Instr.makeSlice, Sem.run_bind, run_underlying hu, Result.andThen, asInt, asIntOf, Sem.run_pure, run_typeInfo hi, hwl, hwc, hcond, run_askRoom, run_sizeOf hsz, if_neg h0, hzr, Bool.false_eq_true, if_false, newRow, run_newObj, this]
              rfl
          · rw [if_neg hc] at hm; cases hm
    | _ => cases hm
theorem indexAddr_ok {t : TypeId} {x x' v : Value} {i : Int} {k : IntKind} (hx : VR ρ x x') (hi : aIndexAddr P t x i = some v) : ∃ v', (Instr.indexAt t x' (.int k i)).run P w = .ok v' w ∧ VR ρ v v' := by
  unfold aIndexAddr at hi
  cases hu : P.underlying t with
  | none => rw [hu] at hi; cases hi
  | some d =>
    rw [hu] at hi
    cases d with
    | slice e =>
      have key : ∀ {b o o' n c c' : Nat} {y : Ren} {sp : Option Nat}, ρ b = some y → n ≤ c → (0 < c → o' = o + y.d) → (if 0 ≤ i ∧ i < n then (sizeO P e).map fun k => Value.pointer (some ⟨b, o + i.toNat * k, none⟩) else none) = some v →
          ∃ v', (Instr.indexAt t (.slice (some ⟨y.r, o', none⟩) n c') (.int k i)).run P w = .ok v' w ∧ VR ρ v v' := by
        intro b o o' n c c' y sp hr hnc hoo hi
        by_cases hc : 0 ≤ i ∧ i < n
        · rw [if_pos hc] at hi
          obtain ⟨q, hq, hi⟩ := Option.map_eq_some_iff.1 hi
          subst hi
          have ho := hoo (by omega)
          refine ⟨.pointer (some ⟨y.r, (o + i.toNat * q) + y.d, none⟩), ?_, .ptr hr⟩
          simp only [Instr.indexAt, asIntOf, Sem.run_bind, Sem.run_pure, Result.andThen, run_underlying hu, if_pos hc, run_sizeOf hq, add_addr]
          simp [hc, run_sizeOf hq, add_addr, ho, Nat.add_right_comm]
        · rw [if_neg hc] at hi; cases hi
      cases hx with
      | slice hr hnc hcc hoo hM => exact key (sp := none) hr hnc hoo hi
      | sliceX hr hnc hoo => exact key (sp := some 1) hr hnc hoo hi
      | _ => cases hi
    | array n e =>
      cases hx with
      | ptr hr =>
        rename_i b o y
        simp only at hi
        by_cases hc : 0 ≤ i ∧ i < n
        · rw [if_pos hc] at hi
          obtain ⟨q, hq, hi⟩ := Option.map_eq_some_iff.1 hi
          subst hi
          refine ⟨.pointer (some ⟨y.r, (o + i.toNat * q) + y.d, none⟩), ?_, .ptr hr⟩
          simp [Instr.indexAt, asIntOf, run_underlying hu, Instr.sureAddr, hc, run_sizeOf hq, add_addr, Nat.add_right_comm]
        · rw [if_neg hc] at hi; cases hi
      | _ => cases hi
    | _ => cases hi
/-- The first n elements' cells. -/
theorem first_ok (h : HR P base w0 ρ s w) {k n m : Nat} {y y' : Value} {new : List Value} (hy : VR ρ y y') (hm : lenV y = some m) (hnm : n ≤ m) (hf : aFirst s k n y = some new) :
    ∃ new', VRs ρ new new' ∧ (Builtin.firstCells k n y').run P w = .ok new'.toArray w := by
  have key : ∀ {b o o' m c c' : Nat} {x : Ren}, ρ b = some x → m ≤ c → (0 < c → o' = o + x.d) → n ≤ m → (match s.get b with | some (.cells c _ _) => row c o (n * k) | _ => none) = some new →
      ∃ new', VRs ρ new new' ∧ (Builtin.firstCells k n (.slice (some ⟨x.r, o', none⟩) m c')).run P w = .ok new'.toArray w := by
    intro b o o' m c c' x hr hmc hoo hnm hf
    cases hg : s.get b with
    | none => rw [hg] at hf; cases hf
    | some ob =>
      rw [hg] at hf
      cases ob with
      | cells cc e ro =>
        simp only at hf
        obtain ⟨l', h1, h2, h3⟩ := load_row h hg hr hf
        refine ⟨l', h1, ?_⟩
        by_cases h0 : n * k = 0
        · rw [h0] at h2
          have : l' = [] := List.eq_nil_of_length_eq_zero h2
          subst this
          simp [Builtin.firstCells, h0, loadCells, loadCellsFrom]
        · have hn : 0 < n := by rcases Nat.eq_zero_or_pos n with e | e; rw [e] at h0; simp at h0; exact e
          rw [hoo (by omega)]
          exact h3
      | _ => cases hf
  cases hy with
  | slice0 => simp only [aFirst] at hf; cases hf; exact ⟨[], .nil, by simp [Builtin.firstCells]⟩
  | slice hr hnc hcc hoo hM => cases hm; exact key hr hnc hoo hnm hf
  | sliceX hr hnc hoo => cases hm; exact key hr hnc hoo hnm hf
  | string b =>
    simp only [aFirst] at hf; cases hf
    refine ⟨(bytesV b).take n, VRs.of_plain (List.all_eq_true.2 fun v hv => ?_), ?_⟩
    · obtain ⟨u, _, rfl⟩ := List.mem_map.1 (List.mem_of_mem_take hv); rfl
    · simp only [Builtin.firstCells, Sem.run_pure]
      congr 1
      apply Array.ext'
      simp [bytesV, ByteArray.data_extract, List.map_take]
  | _ => simp [aFirst] at hf
theorem lenV_ok {y y' : Value} {n : Nat} (hy : VR ρ y y') (hn : lenV y = some n) : (Builtin.lenOf y').run P w = .ok n w := by
  cases hy <;> first | (simp [lenV] at hn; done) | (simp only [lenV, Option.some.injEq] at hn; subst hn; rfl)
/-- A block goes out of use. -/
theorem HR.kill (h : HR P base w0 ρ s w) {b : Nat} {o : AObj} (hb : s.get b = some o) : HR P base w0 ρ (s.put b .dead) w := by
  refine ⟨h.frame, h.big, h.lt, fun c oc hc => ?_, fun c c' y y' oc oc' hc hc' p p' q q' e => ?_⟩
  · rw [AS.get_put] at hc
    by_cases e : c = b
    · subst e; rw [if_pos rfl] at hc; cases hc
      obtain ⟨x, hx, _⟩ := h.obj c o hb
      exact ⟨x, hx, trivial⟩
    · rw [if_neg e] at hc; exact h.obj c oc hc
  · rw [AS.get_put] at hc hc'
    have key : ∀ (d : Nat) (od : AObj), (if d = b then some AObj.dead else s.get d) = some od → od.own = true → s.get d = some od := fun d od hd hod => by
      by_cases e : d = b
      · rw [if_pos e] at hd; cases hd; cases hod
      · rw [if_neg e] at hd; exact hd
    exact h.inj c c' y y' oc oc' (key c oc hc p) (key c' oc' hc' p') p p' q q' e
/-- A row goes on under a new number. -/
theorem HR.steal (h : HR P base w0 ρ s w) {b d : Nat} {o o' : AObj} {x : Ren} {w' : World} {O : Obj} (hb : s.get b = some o) (ho : o.own = true) (hx : ρ b = some x) (hu : Upd w w' x.r O) (ho' : o'.own = true)
    (hO : objOk P base (ρ.set s.size ⟨x.r, d, x.M, x.sz⟩) w' ⟨x.r, d, x.M, x.sz⟩ o') : HR P base w0 (ρ.set s.size ⟨x.r, d, x.M, x.sz⟩) ((s.put b .dead).push o') w' ∧ ρ.le (ρ.set s.size ⟨x.r, d, x.M, x.sz⟩) := by
  have hle := Rho.le_set (ρ := ρ) ⟨x.r, d, x.M, x.sz⟩ h.fresh
  obtain ⟨x', hx', hok⟩ := h.obj b o hb
  rw [hx] at hx'; cases hx'
  have hlt := hok.lt ho
  have hbs := h.lt b x hx
  refine ⟨⟨h.frame.trans (hu.below hlt.1), by rw [hu.size]; exact h.big, fun c y hc => ?_, fun c oc hc => ?_, fun c c' y y' oc oc' hc hc' p p' q q' e => ?_⟩, hle⟩
  · unfold Rho.set at hc
    by_cases e : c = s.size
    · subst e; simp
    · rw [if_neg e] at hc; have := h.lt c y hc; simp; omega
  · rw [AS.get_push] at hc
    by_cases e : c = s.size
    · have e' : c = (s.put b .dead).size := e
      rw [if_pos e'] at hc; cases hc; subst e; exact ⟨_, Rho.set_self .., hO⟩
    · have e' : ¬ c = (s.put b .dead).size := e
      rw [if_neg e', AS.get_put] at hc
      by_cases eb : c = b
      · subst eb; rw [if_pos rfl] at hc; cases hc; exact ⟨x, hle _ _ hx, trivial⟩
      · rw [if_neg eb] at hc
        obtain ⟨y, hy, hok'⟩ := h.obj c oc hc
        refine ⟨y, hle _ _ hy, ?_⟩
        cases hown : oc.own with
        | true =>
          have hne : y.r ≠ x.r := fun er => eb (h.inj c b y x oc o hc hb hown ho hy hx er)
          exact hok'.mono hle (hu.far _ hne)
        | false =>
          rcases hok'.ro hown with ⟨c0, e0, rfl, hl⟩ | rfl
          · exact hok'.mono hle (hu.far _ (by omega))
          · trivial
  · have key : ∀ (c : Nat) (y : Ren) (oc : AObj), ((s.put b .dead).push o').get c = some oc → oc.own = true → (ρ.set s.size ⟨x.r, d, x.M, x.sz⟩) c = some y →
        (c = s.size ∧ y.r = x.r) ∨ (c ≠ s.size ∧ c ≠ b ∧ s.get c = some oc ∧ ρ c = some y) := by
      intro c y oc hc p q
      rw [AS.get_push] at hc
      unfold Rho.set at q
      by_cases e : c = s.size
      · rw [if_pos e] at q; cases q; exact .inl ⟨e, rfl⟩
      · have e' : ¬ c = (s.put b .dead).size := e
        rw [if_neg e', AS.get_put] at hc
        rw [if_neg e] at q
        by_cases eb : c = b
        · rw [if_pos eb] at hc; cases hc; cases p
        · rw [if_neg eb] at hc; exact .inr ⟨e, eb, hc, q⟩
    rcases key c y oc hc p q with ⟨e1, e2⟩ | ⟨e1, e2, e3, e4⟩ <;> rcases key c' y' oc' hc' p' q' with ⟨f1, f2⟩ | ⟨f1, f2, f3, f4⟩
    · rw [e1, f1]
    · exact absurd (h.inj c' b y' x oc' o f3 hb p' ho f4 hx (by rw [← e, e2])) f2
    · exact absurd (h.inj c b y x oc o e3 hb p ho e4 hx (by rw [e, f2])) e2
    · exact h.inj c c' y y' oc oc' e3 f3 p p' e4 f4 e

theorem run_zeroCells (z : Array Value) (n : Nat) : (Builtin.zeroCells z n).toList = zeros z.toList n := range_zeros z n _ rfl
theorem append_run_le {t u ty e : TypeId} {ts : List TypeId} {y' : Value} {du : TypeDesc} {b' : Option Addr} {sl sc n k : Nat} {new : Array Value} (hu : P.underlying t = some (.slice e)) (hd : P.underlying u = some du) (hni : ∀ q, du ≠ .int q) (hk : sizeO P e = some k)
    (hl : ∀ w, (Builtin.lenOf y').run P w = .ok n w) (hf : (Builtin.firstCells k n y').run P w = .ok new w) (hle : sl + n ≤ sc) :
    (Builtin.append_ (t :: u :: ts).toArray ty #[.slice b' sl sc, y']).run P w =
      match b' with
      | none => .ok (.slice none (sl + n) sc) w
      | some a => ((storeCells (a.add (sl * k)) new.toList).run P w).andThen fun _ w' => .ok (.slice (some a) (sl + n) sc) w' := by
  have hm : (match du with | .int _ => true | _ => false) = false := by cases du <;> first | rfl | exact absurd rfl (hni _)
  cases b' <;> simp [Builtin.append_, run_underlying hu, run_sizeOf hk, run_underlying hd, hm, hl, hf, hle]
theorem append_run_gt {t u ty e : TypeId} {ts : List TypeId} {y' z : Value} {du : TypeDesc} {b' : Option Addr} {sl sc n : Nat} {i : TypeInfo} {old new : Array Value} (hu : P.underlying t = some (.slice e)) (hd : P.underlying u = some du) (hni : ∀ q, du ≠ .int q) (hi : P.info? e = some i)
    (hl : ∀ w, (Builtin.lenOf y').run P w = .ok n w) (ho : (Builtin.firstCells i.size sl (.slice b' sl sc)).run P w.drew = .ok old w.drew) (hf : (Builtin.firstCells i.size n y').run P w.drew = .ok new w.drew) (hle : ¬ sl + n ≤ sc)
    (hb : (sl + n) * i.bytes ≤ 70368744177664) (hb2 : sl + n ≤ 70368744177664) (hz : ∀ w, (zeroValue e).run P w = .ok z w) :
    ∃ m, sl + n ≤ m ∧ (Builtin.append_ (t :: u :: ts).toArray ty #[.slice b' sl sc, y']).run P w = .ok (.slice (some ⟨w.heap.size, 0, none⟩) (sl + n) m) (w.drew.alloc (.cells (old ++ new ++ Builtin.zeroCells z.cells (m - (sl + n))) e)) := by
  have hm : (match du with | .int _ => true | _ => false) = false := by cases du <;> first | rfl | exact absurd rfl (hni _)
  have hsz : sizeO P e = some i.size := by simp [sizeO, hi]
  refine ⟨Question.cut (.appendCap (sl + n) sc e) (w.tape w.drawn (.appendCap (sl + n) sc e)), by simp [Question.cut], ?_⟩
  have h1 : ¬ ((((sl + n : Nat) : Int) > IntKind.i64.max) ∧ (false = true ∨ i.bytes = 0)) := by
    intro hh; have := hh.1; rw [show IntKind.i64.max = 9223372036854775807 from rfl] at this; omega
  have h2 : ¬ (Builtin.nextslicecap (sl + n) sc * i.bytes > 2 ^ 48) := by
    have := nextslicecap_le (need := sl + n) (old := sc) (by omega)
    have : Builtin.nextslicecap (sl + n) sc * i.bytes ≤ (2 * (sl + n)) * i.bytes := Nat.mul_le_mul_right _ this
    rw [Nat.mul_assoc] at this
    omega
  have h3 : (Question.appendCap (sl + n) sc e).forced = false := rfl
  simp [Builtin.append_, run_underlying hu, run_sizeOf hsz, run_underlying hd, hm, hl, hle, run_typeInfo hi, h1, h2, h3, ho, hf, hz, newRow]
  intro h9 h10
  exfalso
  omega
theorem append_ok (h : HR P base w0 ρ s w) {t u ty : TypeId} {ts : List TypeId} {x x' y y' v : Value} {s' : AS} (hx : VR ρ x x') (hy : VR ρ y y') (ha : aAppend P s t u x y = some (v, s')) :
    ∃ v' w' ρ', (Builtin.append_ (t :: u :: ts).toArray ty #[x', y']).run P w = .ok v' w' ∧ HR P base w0 ρ' s' w' ∧ VR ρ' v v' ∧ ρ.le ρ' := by
  unfold aAppend elemO at ha
  cases hu : P.underlying t with
  | none => rw [hu] at ha; cases ha
  | some d =>
    rw [hu] at ha
    cases d with
    | slice e =>
      simp only at ha
      cases hi : P.info? e with
      | none => rw [hi] at ha; cases ha
      | some i =>
      cases hz : zeroO P e with
      | none => rw [hi, hz] at ha; cases ha
      | some z =>
      cases hd : P.underlying u with
      | none => rw [hi, hz, hd] at ha; cases ha
      | some du =>
      cases hn : lenV y with
      | none => rw [hi, hz, hd, hn] at ha; cases x <;> cases ha
      | some n =>
      rw [hi, hz, hd, hn] at ha
      have hsl : ∃ (b' : Option Addr) (sl sc' : Nat), x' = .slice b' sl sc' ∧ ∃ bb sc, x = .slice bb sl sc ∧ sc ≤ sc' := by
        cases hx with
        | slice0 => exact ⟨_, _, _, rfl, _, _, rfl, Nat.le_refl _⟩
        | slice hr hnc hcc hoo hM => exact ⟨_, _, _, rfl, _, _, rfl, hcc⟩
        | sliceX hr hnc hoo => exact ⟨_, _, _, rfl, _, _, rfl, Nat.le_refl _⟩
        | _ => cases ha
      obtain ⟨b', sl, sc', rfl, bb, sc, rfl, hscc⟩ := hsl
      have hsz : sizeO P e = some i.size := by simp [sizeO, hi]
      have hni : ∀ q, du ≠ .int q := by rintro q rfl; cases ha
      have hbody : ((aFirst s i.size n y).bind fun new =>
          if new.length = n * i.size ∧ new.all oneC = true then
            if n = 0 ∧ sl ≤ sc then some (.slice bb sl sc, s)
            else if sl + n ≤ sc then
              match bb with
              | none => some (.slice bb sl sc, s)
              | some ⟨b, o, sp⟩ =>
                match s.get b with
                | some (.cells c e' false) => if o + (sl + n) * i.size ≤ c.length then some (.slice (some ⟨b, o, sp⟩) (sl + n) sc, s.put b (.cells (write c (o + sl * i.size) new) e' false)) else none
                | _ => none
            else if (sl + n) * i.bytes ≤ 70368744177664 ∧ sl + n ≤ 70368744177664 ∧ (vcells z).length = i.size then
              match bb with
              | none => if sl = 0 then some (.slice (some ⟨s.size, 0, none⟩) n n, s.push (.cells new e false)) else none
              | some ⟨b, o, sp⟩ =>
                match s.get b with
                | some (.cells c e' ro) =>
                  if (row c o (sl * i.size)).isSome = true ∧ e' = e ∧ (sp = some 1 ∨ (sp = none ∧ ro = false)) then
                    let s' := if sp = some 1 then s else s.put b .dead
                    some (.slice (some ⟨s.size, 0, none⟩) (sl + n) (sl + n), s'.push (.cells (((c.drop o).take (sl * i.size)) ++ new) e false))
                  else none
                | _ => none
            else none
          else none) = some (v, s') := by
        cases du <;> first | exact ha | exact absurd rfl (hni _)
      clear ha
      obtain ⟨new, hf, hb⟩ := Option.bind_eq_some_iff.1 hbody
      clear hbody
      by_cases hc0 : new.length = n * i.size ∧ new.all oneC = true
      rotate_left
      · rw [if_neg hc0] at hb; cases hb
      rw [if_pos hc0] at hb
      obtain ⟨hnl, hno⟩ := hc0
      have hlen : ∀ w, (Builtin.lenOf y').run P w = .ok n w := fun w => lenV_ok hy hn
      obtain ⟨new', hnv, hnr⟩ := first_ok h hy hn (Nat.le_refl n) hf
      -- in place, nothing to write
      by_cases hc1 : n = 0 ∧ sl ≤ sc
      · rw [if_pos hc1] at hb; cases hb
        obtain ⟨rfl, hle⟩ := hc1
        have : new' = [] := List.eq_nil_of_length_eq_zero (by rw [hnv.length, hnl]; simp)
        subst this
        refine ⟨_, w, ρ, ?_, h, hx, Rho.le_refl ρ⟩
        rw [append_run_le hu hd hni hsz hlen hnr (by omega)]
        cases b' <;> rfl
      rw [if_neg hc1] at hb
      by_cases hc2 : sl + n ≤ sc
      · -- in place
        rw [if_pos hc2] at hb
        have hrun := append_run_le (ty := ty) (ts := ts) (b' := b') hu hd hni hsz hlen hnr (Nat.le_trans hc2 hscc)
        cases bb with
        | none =>
          cases hx with
          | slice0 => exact absurd ⟨by omega, by omega⟩ hc1
        | some ad =>
          obtain ⟨b, o, sp⟩ := ad
          simp only at hb
          cases hg : s.get b with
          | none => rw [hg] at hb; cases hb
          | some ob =>
            rw [hg] at hb
            cases ob with
            | cells c e' ro =>
              cases ro with
              | true => cases hb
              | false =>
                simp only at hb
                by_cases hc3 : o + (sl + n) * i.size ≤ c.length
                · rw [if_pos hc3] at hb; cases hb
                  have key : ∀ {o' : Nat} {xx : Ren}, ρ b = some xx → o' = o + xx.d → ∃ w', (storeCells ((⟨xx.r, o', none⟩ : Addr).add (sl * i.size)) new'.toArray.toList).run P w = .ok () w' ∧ HR P base w0 ρ (s.put b (.cells (write c (o + sl * i.size) new) e' false)) w' := by
                    intro o' xx hr ho'
                    obtain ⟨w', h1, h2⟩ := write_ok h hg hr hnv (o := o + sl * i.size) (by rw [hnl]; rw [Nat.add_mul] at hc3; omega) hno
                    refine ⟨w', ?_, h2⟩
                    rw [add_addr, ho', show o + xx.d + sl * i.size = o + sl * i.size + xx.d from by omega]
                    exact h1
                  cases hx with
                  | slice hr hnc hcc hoo hM =>
                    obtain ⟨w', h1, h2⟩ := key hr (hoo (by omega))
                    exact ⟨_, w', ρ, by rw [hrun]; simp only [h1, Result.andThen], h2, .slice hr hc2 hcc hoo hM, Rho.le_refl ρ⟩
                  | sliceX hr hnc hoo =>
                    obtain ⟨w', h1, h2⟩ := key hr (hoo (by omega))
                    exact ⟨_, w', ρ, by rw [hrun]; simp only [h1, Result.andThen], h2, .sliceX hr hc2 hoo, Rho.le_refl ρ⟩
                · rw [if_neg hc3] at hb; cases hb
            | _ => cases hb
      rw [if_neg hc2] at hb
      by_cases hc3 : (sl + n) * i.bytes ≤ 70368744177664 ∧ sl + n ≤ 70368744177664 ∧ (vcells z).length = i.size
      rotate_left
      · rw [if_neg hc3] at hb; cases hb
      rw [if_pos hc3] at hb
      obtain ⟨hb1, hb2, hzs⟩ := hc3
      have hzr : ∀ w, (zeroValue e).run P w = .ok z w := fun w => (run_zero hz w).1
      have hzc : z.cells.toList.length = i.size := by rw [cells_vcells]; exact hzs
      have hdrew : HR P base w0 ρ s w.drew := h.move ⟨rfl, rfl, rfl, Nat.le_refl _, fun _ _ => rfl⟩
      -- a new row, on both sides
      have fresh : ∀ {s1 : AS} {old old' : List Value} {b' : Option Addr} {sc' : Nat}, HR P base w0 ρ s1 w.drew → s1.size = s.size → VRs ρ old old' → old.length = sl * i.size → (Builtin.firstCells i.size sl (.slice b' sl sc')).run P w.drew = .ok old'.toArray w.drew → ¬ sl + n ≤ sc' →
          ∃ v' w' ρ', (Builtin.append_ (t :: u :: ts).toArray ty #[.slice b' sl sc', y']).run P w = .ok v' w' ∧ HR P base w0 ρ' (s1.push (.cells (old ++ new) e false)) w' ∧ VR ρ' (.slice (some ⟨s.size, 0, none⟩) (sl + n) (sl + n)) v' ∧ ρ.le ρ' := by
        intro s1 old old' b' sc' hH hs1 hov hol hor hgt
        obtain ⟨nn, hnn1, hnn2⟩ := first_ok hdrew hy hn (Nat.le_refl n) hf
        obtain ⟨m, hm1, hm2⟩ := append_run_gt (ty := ty) (ts := ts) hu hd hni hi hlen hor hnn2 hgt hb1 hb2 hzr
        have hol' := hov.length
        have hnnl := hnn1.length
        have hrest : (Builtin.zeroCells z.cells (m - (sl + n))).toList.length = (m - (sl + n)) * i.size := by rw [run_zeroCells, zeros_length, hzc]
        obtain ⟨g1, g2⟩ := new_ok hH e (VRs.append hnn1 hov) (Builtin.zeroCells z.cells (m - (sl + n))).toList (0, 0) (soft0 _)
        have he : (old' ++ nn ++ (Builtin.zeroCells z.cells (m - (sl + n))).toList).toArray = old'.toArray ++ nn.toArray ++ Builtin.zeroCells z.cells (m - (sl + n)) := by apply Array.ext'; simp
        rw [he] at g1
        refine ⟨_, _, _, hm2, g1, ?_, g2⟩
        rw [← hs1]
        refine VR.slice (o := 0) (Rho.set_self ρ _ _) (Nat.le_refl _) hm1 (fun _ => rfl) ?_
        show 0 + m * P.cellsOf e ≤ (old' ++ nn).length + (Builtin.zeroCells z.cells (m - (sl + n))).toList.length
        rw [hrest, cellsOf_of hsz, List.length_append, hol', hnnl, hol, hnl, ← Nat.add_mul, ← Nat.add_mul]
        have : sl + n + (m - (sl + n)) = m := by omega
        rw [this]; omega
      cases bb with
      | none =>
        cases hx with
        | slice0 =>
          simp only [if_true] at hb; cases hb
          have := fresh (s1 := s) (old := []) (old' := []) (b' := none) (sc' := 0) hdrew rfl .nil (by simp) (by simp [Builtin.firstCells]) (by omega)
          simpa using this
      | some ad =>
        obtain ⟨b, o, sp⟩ := ad
        simp only at hb
        cases hg : s.get b with
        | none => rw [hg] at hb; cases hb
        | some ob =>
          rw [hg] at hb
          cases ob with
          | cells c e' ro =>
            simp only at hb
            by_cases hc4 : (row c o (sl * i.size)).isSome = true ∧ e' = e ∧ (sp = some 1 ∨ (sp = none ∧ ro = false))
            rotate_left
            · rw [if_neg hc4] at hb; cases hb
            rw [if_pos hc4] at hb
            obtain ⟨hrow, rfl, hsp⟩ := hc4
            obtain ⟨old, hold⟩ := Option.isSome_iff_exists.1 hrow
            have holdE : old = (c.drop o).take (sl * i.size) := by
              unfold row at hold
              by_cases hh : o + sl * i.size ≤ c.length
              · rw [if_pos hh] at hold; cases hold; rfl
              · rw [if_neg hh] at hold; cases hold
            have holdL : old.length = sl * i.size := by
              unfold row at hold
              by_cases hh : o + sl * i.size ≤ c.length
              · rw [if_pos hh] at hold; cases hold; simp; omega
              · rw [if_neg hh] at hold; cases hold
            have hfirst : aFirst s i.size sl (.slice (some ⟨b, o, sp⟩) sl sc) = some old := by simp only [aFirst, hg]; exact hold
            obtain ⟨old', hov, hor⟩ := first_ok hdrew hx (show lenV (.slice (some ⟨b, o, sp⟩) sl sc) = some sl from rfl) (Nat.le_refl sl) hfirst
            rw [← holdE] at hb
            cases hx with
            | sliceX hr hnc hoo =>
              simp only [if_true] at hb
              cases hb
              exact fresh hdrew rfl hov holdL hor hc2
            | slice hr hnc hcc hoo hM =>
              rename_i o' xx
              simp only [if_neg (show ¬ (none : Option Nat) = some 1 from by simp)] at hb
              cases hb
              have hro : ro = false := by rcases hsp with e | e; cases e; exact e.2
              subst hro
              by_cases hc5 : sl + n ≤ sc'
              · -- the model has room
                obtain ⟨cr, fz, pre, c1, ext, a1, a2, a3, a4, a5, a6, a7, a8⟩ := own_row h hg hr
                have hsz' : xx.sz = i.size := by rw [a6, cellsOf_of hsz]
                rw [hsz'] at hM
                have hmul : (sl + n) * i.size ≤ sc' * i.size := Nat.mul_le_mul_right _ hc5
                have hnl' : new'.length = n * i.size := by rw [hnv.length, hnl]
                rw [Nat.add_mul] at hmul
                obtain ⟨w', r1, hu'⟩ := run_storeCells (P := P) (o := o' + sl * i.size) new' 0 cr w a1 (by rw [a5]; exact a8) (by rw [a5]; omega) (by rw [hnv.oneC]; exact hno)
                have hov2 : VRs ρ old ((cr.toList.drop o').take (sl * i.size)) := by
                  by_cases h0 : sl * i.size = 0
                  · rw [h0, List.take_zero, List.eq_nil_of_length_eq_zero (holdL.trans h0)]; exact .nil
                  · have hsl0 : 0 < sl := by rcases Nat.eq_zero_or_pos sl with e | e; rw [e] at h0; simp at h0; exact e
                    have hol : o + sl * i.size ≤ c.length := by
                      unfold row at hold
                      by_cases hh : o + sl * i.size ≤ c.length
                      · exact hh
                      · rw [if_neg hh] at hold; cases hold
                    have hc1 := a4.length
                    have e1 : (cr.toList.drop o').take (sl * i.size) = (c1.drop o).take (sl * i.size) := by
                      rw [hoo (by omega), a2]
                      apply List.ext_getElem?
                      intro j
                      simp only [List.getElem?_take, List.getElem?_drop]
                      by_cases hj : j < sl * i.size
                      · rw [if_pos hj, if_pos hj, mid_get, if_neg (by omega), if_pos (by omega)]; congr 1; omega
                      · rw [if_neg hj, if_neg hj]
                    rw [e1, holdE]
                    exact (a4.drop o).take _
                have hcl : cr.toList.length = xx.M := by rw [Array.length_toList, a5]
                obtain ⟨g1, g2⟩ := h.steal (d := o') (o' := .cells (old ++ new) e' false) hg rfl hr hu' rfl
                  ⟨(write cr.toList (o' + sl * i.size + 0) new').toArray, fz, cr.toList.take o', (cr.toList.drop o').take (sl * i.size) ++ new', cr.toList.drop (o' + sl * i.size + n * i.size), hu'.at_, by simp only [List.toList_toArray, write, Nat.add_zero, hnl', List.take_add, List.append_assoc], by rw [List.length_take]; show min o' _ = o'; omega, VRs.append (hnv.mono (Rho.le_set _ h.fresh)) (hov2.mono (Rho.le_set _ h.fresh)), by rw [List.size_toArray, write_length _ _ _ (by omega)]; exact hcl, a6, fun e => (by cases e), fun _ => ⟨a7, a8⟩⟩
                refine ⟨.slice (some ⟨xx.r, o', none⟩) (sl + n) sc', w', _, ?_, g1, ?_, g2⟩
                · rw [append_run_le (ty := ty) (ts := ts) hu hd hni hsz hlen hnr hc5]
                  simp only [add_addr, List.toList_toArray, r1, Result.andThen]
                · refine VR.slice (o := 0) (x := ⟨xx.r, o', xx.M, xx.sz⟩) (Rho.set_self ρ _ _) (Nat.le_refl _) hc5 (fun _ => by show o' = 0 + o'; omega) ?_
                  show o' + sc' * xx.sz ≤ xx.M
                  rw [hsz']; exact hM
              · exact fresh (hdrew.kill hg) rfl hov holdL hor hc5
          | _ => cases hb
    | _ => cases ha
end
end Go.Proofs.YtchjiocljlbhkaaW.Mill
