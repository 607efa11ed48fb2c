/- What the small machine's operations do, the model's do: copy, clear, conversions, maps (the session's own). -/
import Derived.Test.YtchjiocljlbhkaaMill5
import Derived.Laws.StructEq
import Derived.Laws.Small
import Derived.Laws.Cover3
namespace Go.Proofs.YtchjiocljlbhkaaW.Mill
open Go Go.RowKit
set_option linter.unusedVariables false
set_option linter.unusedSimpArgs false
section
variable {P : Program} {base : Nat} {w0 w : World} {ρ : Rho} {s : AS}
theorem copy_ok (h : HR P base w0 ρ s w) {t ty : TypeId} {ts : List TypeId} {x x' y y' v : Value} {s' : AS} (hx : VR ρ x x') (hy : VR ρ y y') (hc : aCopy P s t x y = some (v, s')) :
    ∃ v' w', (Builtin.copy_ (t :: ts).toArray ty #[x', y']).run P w = .ok v' w' ∧ HR P base w0 ρ s' w' ∧ VR ρ v v' := by
  unfold aCopy elemO at hc
  cases hu : P.underlying t with
  | none => rw [hu] at hc; cases hc
  | some d =>
    rw [hu] at hc
    cases d with
    | slice e =>
      simp only at hc
      cases hn : lenV y with
      | none => rw [hn] at hc; cases x <;> cases hc
      | some n =>
        rw [hn] at hc
        have key : ∀ {b o o' dl cc cc' : Nat} {sp : Option Nat} {xx : Ren}, ρ b = some xx → dl ≤ cc → (0 < cc → o' = o + xx.d) → aCopy P s t (.slice (some ⟨b, o, sp⟩) dl cc) y = some (v, s') →
            ∃ v' w', (Builtin.copy_ (t :: ts).toArray ty #[.slice (some ⟨xx.r, o', none⟩) dl cc', y']).run P w = .ok v' w' ∧ HR P base w0 ρ s' w' ∧ VR ρ v v' := by
          intro b o o' dl cc cc' sp xx hr hdc hoo hc
          unfold aCopy elemO at hc
          rw [hu, hn] at hc
          simp only at hc
          obtain ⟨k, hk, hc⟩ := Option.bind_eq_some_iff.1 hc
          obtain ⟨new, hf, hc⟩ := Option.bind_eq_some_iff.1 hc
          obtain ⟨new', hnv, hnr⟩ := first_ok h hy hn (Nat.min_le_left n dl) hf
          cases hg : s.get b with
          | none => rw [hg] at hc; cases hc
          | some ob =>
            rw [hg] at hc
            cases ob with
            | cells c e' ro =>
              cases ro with
              | true => cases hc
              | false =>
                simp only at hc
                by_cases h1 : new.length = Nat.min n dl * k ∧ o + Nat.min n dl * k ≤ c.length ∧ new.all oneC = true
                · rw [if_pos h1] at hc; cases hc
                  obtain ⟨a1, a2, a3⟩ := h1
                  obtain ⟨w', r1, r2⟩ := write_ok h hg hr hnv (o := o) (by omega) a3
                  have hst : (storeCells ⟨xx.r, o', none⟩ new' 0).run P w = .ok () w' := by
                    by_cases h0 : Nat.min n dl * k = 0
                    · have : new' = [] := List.eq_nil_of_length_eq_zero (by rw [hnv.length, a1, h0])
                      subst this
                      exact r1
                    · have hd : 0 < dl := by rcases Nat.eq_zero_or_pos dl with e | e; rw [e] at h0; simp at h0; exact e
                      rw [hoo (by omega)]; exact r1
                  refine ⟨_, w', ?_, r2, .int _ _⟩
                  simp [Builtin.copy_, run_underlying hu, lenV_ok hy hn, run_sizeOf hk, hnr, hst, goInt]
                · rw [if_neg h1] at hc; cases hc
            | _ => cases hc
        cases hx with
        | slice0 =>
          simp only at hc
          obtain ⟨k, hk, hc⟩ := Option.bind_eq_some_iff.1 hc
          cases hc
          have hf : aFirst s k 0 y = some [] ∨ True := .inr trivial
          have hrun : ∃ cells, (Builtin.firstCells k 0 y').run P w = .ok cells w := by
            cases hy <;> first | (simp [lenV] at hn; done) | (simp [Builtin.firstCells, loadCells, loadCellsFrom])
          obtain ⟨cells, hcells⟩ := hrun
          refine ⟨_, w, ?_, h, .int _ _⟩
          simp [Builtin.copy_, run_underlying hu, lenV_ok hy hn, run_sizeOf hk, hcells, goInt, Nat.min_def]
        | slice hr hnc hcc hoo hM => exact key (sp := none) hr hnc hoo (by unfold aCopy elemO; rw [hu, hn]; exact hc)
        | sliceX hr hnc hoo => exact key (sp := some 1) hr hnc hoo (by unfold aCopy elemO; rw [hu, hn]; exact hc)
        | _ => cases hc
    | _ => cases hc
theorem clear_ok (h : HR P base w0 ρ s w) {t ty : TypeId} {ts : List TypeId} {x x' : Value} {s' : AS} (hx : VR ρ x x') (hc : aClear P s t x = some s') :
    ∃ w', (Builtin.clear_ (t :: ts).toArray ty #[x']).run P w = .ok (.tuple #[]) w' ∧ HR P base w0 ρ s' w' := by
  unfold aClear elemO at hc
  cases hu : P.underlying t with
  | none => rw [hu] at hc; cases x <;> cases hc
  | some d =>
    rw [hu] at hc
    cases d with
    | slice e =>
      have key : ∀ {b o o' n cc cc' : Nat} {sp : Option Nat} {xx : Ren}, ρ b = some xx → n ≤ cc → (0 < cc → o' = o + xx.d) → aClear P s t (.slice (some ⟨b, o, sp⟩) n cc) = some s' →
            ∃ w', (Builtin.clear_ (t :: ts).toArray ty #[.slice (some ⟨xx.r, o', none⟩) n cc']).run P w = .ok (.tuple #[]) w' ∧ HR P base w0 ρ s' w' := by
          intro b o o' n cc cc' sp xx hr hnc hoo hc
          unfold aClear elemO at hc
          rw [hu] at hc
          simp only at hc
          by_cases h0 : n = 0
          · rw [if_pos h0] at hc; cases hc; subst h0
            exact ⟨w, by simp [Builtin.clear_, run_underlying hu], h⟩
          · rw [if_neg h0] at hc
            cases hz : zeroO P e with
            | none => rw [hz] at hc; cases hc
            | some z =>
              rw [hz] at hc
              cases hg : s.get b with
              | none => rw [hg] at hc; cases hc
              | some ob =>
                rw [hg] at hc
                cases ob with
                | cells c e' ro =>
                  cases ro with
                  | true => cases hc
                  | false =>
                    simp only at hc
                    by_cases h1 : o + (zeros (vcells z) n).length ≤ c.length ∧ (vcells z).all oneC = true
                    · rw [if_pos h1] at hc; cases hc
                      obtain ⟨hzr, hzp⟩ := run_zero hz w
                      obtain ⟨w', r1, r2⟩ := write_ok h hg hr (zeroRel (ρ := ρ) hzp n) (o := o) h1.1 (zeros_oneC h1.2 n)
                      obtain ⟨m, rfl⟩ : ∃ m, n = m + 1 := ⟨n - 1, by omega⟩
                      refine ⟨w', ?_, r2⟩
                      simp only [Builtin.clear_, Sem.run_bind, run_underlying hu, Result.andThen, List.getElem?_toArray, List.getElem?_cons_zero, hzr, run_zeroCells, hoo (by omega), r1, Sem.run_pure]
                    · rw [if_neg h1] at hc; cases hc
                | _ => cases hc
      cases hx with
      | slice0 => simp only at hc; cases hc; exact ⟨w, by simp [Builtin.clear_, run_underlying hu], h⟩
      | slice hr hnc hcc hoo hM => exact key (sp := none) hr hnc hoo (by unfold aClear elemO; rw [hu]; exact hc)
      | sliceX hr hnc hoo => exact key (sp := some 1) hr hnc hoo (by unfold aClear elemO; rw [hu]; exact hc)
      | _ => cases hc
    | _ => cases x <;> cases hc

theorem ite_some {α : Type} {c : Prop} [Decidable c] {x : Option α} {v : α} (h : (if c then x else none) = some v) : c ∧ x = some v := by
  by_cases hc : c
  · rw [if_pos hc] at h; exact ⟨hc, h⟩
  · rw [if_neg hc] at h; cases h

/-! ### conversions -/
theorem bytesOf_ints : ∀ {l : List Value} {bs : List UInt8}, bytesOf l = some bs → ∃ ns : List Int, l = ns.map (Value.int .u8) ∧ bs = ns.map fun n => UInt8.ofNat n.toNat
  | [], bs, h => by cases h; exact ⟨[], rfl, rfl⟩
  | v :: l, bs, h => by
    cases v with
    | int k n =>
      cases k with
      | u8 =>
        simp only [bytesOf] at h
        obtain ⟨bs', hb, rfl⟩ := Option.map_eq_some_iff.1 h
        obtain ⟨ns, rfl, rfl⟩ := bytesOf_ints hb
        exact ⟨n :: ns, rfl, rfl⟩
      | _ => simp [bytesOf] at h
    | _ => simp [bytesOf] at h
theorem foldl_push : ∀ (ns : List Int) (s : ByteArray), ns.foldl (fun r n => r.push (UInt8.ofNat n.toNat)) s = ⟨s.data ++ (ns.map fun n => UInt8.ofNat n.toNat).toArray⟩
  | [], s => by simp
  | n :: ns, s => by rw [List.foldl_cons, foldl_push ns]; simp [ByteArray.push]
theorem freeze_new (w : World) (c : Array Value) (e : TypeId) (m : Nat) : World.freeze { w with heap := w.heap.push (.cells c e), drawn := w.drawn + 1 } ⟨w.heap.size, m, none⟩ 1 = w.drew.alloc (.cells c e (m, m + 1)) := by
  unfold World.freeze
  rw [if_neg (by decide)]
  show ({ w with heap := _, drawn := _ } : World) = { w with heap := w.heap.push (.cells c e (m, m + 1)), drawn := w.drawn + 1 }
  congr 1
  apply Array.ext_getElem?
  intro i
  rw [Array.getElem?_modify, Array.getElem?_push, Array.getElem?_push]
  by_cases h : i = w.heap.size
  · subst h; simp
  · rw [if_neg h, if_neg h, if_neg (fun e => h e.symm)]
theorem convert_ok (h : HR P base w0 ρ s w) {src dst : TypeId} {x x' v : Value} {s' : AS} (hx : VR ρ x x') (hc : aConvert P s src dst x = some (v, s')) :
    ∃ v' w' ρ', (convert src dst x').run P w = .ok v' w' ∧ HR P base w0 ρ' s' w' ∧ VR ρ' v v' ∧ ρ.le ρ' := by
  have plainCase : plainV x = true → (calmV P (convert src dst x)).map (·, s) = some (v, s') → ∃ v' w' ρ', (convert src dst x').run P w = .ok v' w' ∧ HR P base w0 ρ' s' w' ∧ VR ρ' v v' ∧ ρ.le ρ' := by
    intro hp hcalm
    obtain ⟨y, hy, he⟩ := Option.map_eq_some_iff.1 hcalm
    cases he
    rw [hx.plain hp]
    obtain ⟨h1, h2⟩ := calmV_run (ρ := ρ) hy w
    exact ⟨v, w, ρ, h1, h, h2, Rho.le_refl ρ⟩
  unfold aConvert at hc
  have sliceCase : ∀ {b o o' n c c' : Nat} {xx : Ren}, ρ b = some xx → n ≤ c → (0 < c → o' = o + xx.d) → (match P.underlying src, P.underlying dst, s.get b with
      | some (.slice e), some .string, some (.cells c _ _) =>
        match P.underlying e with
        | some (.int .u8) => (row c o n).bind fun l => (bytesOf l).map fun bs => (Value.string ⟨bs.toArray⟩, s)
        | _ => none
      | _, _, _ => none) = some (v, s') → ∃ v' w' ρ', (convert src dst (.slice (some ⟨xx.r, o', none⟩) n c')).run P w = .ok v' w' ∧ HR P base w0 ρ' s' w' ∧ VR ρ' v v' ∧ ρ.le ρ' := by
    intro b o o' n c c' xx hr hnc hoo hc
    cases hs : P.underlying src with
    | none => rw [hs] at hc; cases hc
    | some ds =>
    cases hd : P.underlying dst with
    | none => rw [hs, hd] at hc; cases ds <;> cases hc
    | some dd =>
    cases hg : s.get b with
    | none => rw [hs, hd, hg] at hc; cases ds <;> cases dd <;> cases hc
    | some ob =>
    rw [hs, hd, hg] at hc
    cases ds with
    | slice e =>
      cases dd with
      | string =>
        cases ob with
        | cells cc e' ro =>
          simp only at hc
          cases he : P.underlying e with
          | none => rw [he] at hc; cases hc
          | some de =>
            rw [he] at hc
            cases de with
            | int k =>
              cases k with
              | u8 =>
                simp only at hc
                obtain ⟨l, hl, hc⟩ := Option.bind_eq_some_iff.1 hc
                obtain ⟨bs, hbs, hc⟩ := Option.map_eq_some_iff.1 hc
                cases hc
                obtain ⟨ns, rfl, rfl⟩ := bytesOf_ints hbs
                obtain ⟨l', r1, r2, r3⟩ := load_row h hg hr hl
                have hl' : l' = ns.map (Value.int .u8) := r1.plain (by simp [plainI, plain1])
                subst hl'
                have hload : (loadCells ⟨xx.r, o', none⟩ n).run P w = .ok (ns.map (Value.int .u8)).toArray w := by
                  rcases Nat.eq_zero_or_pos n with e0 | e0
                  · subst e0
                    have : ns = [] := by simpa using r2
                    subst this
                    rfl
                  · rw [hoo (by omega)]; exact r3
                refine ⟨.string ⟨(ns.map fun n => UInt8.ofNat n.toNat).toArray⟩, w, ρ, ?_, h, .string _, Rho.le_refl ρ⟩
                rw [run_convert_bytes_string w src dst e _ _ _ hs he hd, run_bytesToString w _ _ _ ns hload, foldl_push]
                simp
              | _ => cases hc
            | _ => cases hc
        | _ => cases hc
      | _ => cases ob <;> cases hc
    | _ => cases dd <;> cases ob <;> cases hc
  cases hx with
  | slice0 =>
    simp only at hc
    cases hs : P.underlying src with
    | none => rw [hs] at hc; cases hc
    | some ds =>
    cases hd : P.underlying dst with
    | none => rw [hs, hd] at hc; cases ds <;> cases hc
    | some dd =>
    rw [hs, hd] at hc
    cases ds with
    | slice e =>
      cases dd with
      | string =>
        simp only at hc
        cases he : P.underlying e with
        | none => rw [he] at hc; cases hc
        | some de =>
          rw [he] at hc
          cases de with
          | int k =>
            cases k with
            | u8 =>
              cases hc
              refine ⟨.string .empty, w, ρ, ?_, h, .string _, Rho.le_refl ρ⟩
              rw [run_convert_bytes_string w src dst e _ _ _ hs he hd]
              simp [Conv.bytesToString]
            | _ => cases hc
          | _ => cases hc
      | _ => cases hc
    | _ => cases dd <;> cases hc
  | slice hr hnc hcc hoo hM => exact sliceCase hr hnc hoo hc
  | sliceX hr hnc hoo => exact sliceCase hr hnc hoo hc
  | string b =>
    simp only at hc
    cases hs : P.underlying src with
    | none => rw [hs] at hc; exact plainCase rfl hc
    | some ds =>
    cases hd : P.underlying dst with
    | none => rw [hs, hd] at hc; exact plainCase rfl hc
    | some dd =>
    rw [hs, hd] at hc
    cases dd with
    | slice e =>
      simp only at hc
      cases he : P.underlying e with
      | none => rw [he] at hc; cases hc
      | some de =>
        rw [he] at hc
        cases de with
        | int k =>
          cases k with
          | u8 =>
            simp only at hc
            by_cases hcc : b.size ≤ 70368744177664 ∧ sizeO P e = some 1
            · rw [if_pos hcc] at hc; cases hc
              have hdrew : HR P base w0 ρ s w.drew := h.move ⟨rfl, rfl, rfl, Nat.le_refl _, fun _ _ => rfl⟩
              have hm : b.size ≤ Question.cut (.appendCap b.size 0 e) (w.tape w.drawn (.appendCap b.size 0 e)) := by simp [Question.cut]
              generalize hq : Question.cut (.appendCap b.size 0 e) (w.tape w.drawn (.appendCap b.size 0 e)) = m at hm
              have hbl : (bytesV b).length = b.size := by simp [bytesV]
              obtain ⟨g1, g2⟩ := new_ok hdrew e (VRs.of_plain (ρ := ρ) (l := bytesV b) (List.all_eq_true.2 fun v hv => by obtain ⟨u, _, rfl⟩ := List.mem_map.1 hv; rfl)) (List.replicate (m - b.size) (.int .u8 0)) (m, m + 1) (fun i hi => by
                rw [hbl, List.length_replicate] at hi; simp; omega)
              refine ⟨.slice (some ⟨w.heap.size, 0, none⟩) b.size m, _, _, ?_, g1, ?_, g2⟩
              · have hrow : (b.data.map fun c => Value.int .u8 c.toNat) ++ Array.replicate (m - b.size) (Value.int .u8 0) = (bytesV b ++ List.replicate (m - b.size) (Value.int .u8 0)).toArray := by
                  apply Array.ext'; simp [bytesV]
                have hlen : (bytesV b ++ List.replicate (m - b.size) (Value.int .u8 0)).length = m := by rw [List.length_append, hbl, List.length_replicate]; omega
                simp only [convert, Sem.run_bind, run_underlying hs, run_underlying hd, run_underlying he, Result.andThen, Conv.stringToBytes, run_choose, show (Question.appendCap b.size 0 e).forced = false from rfl, Bool.false_eq_true, if_false, hq, newRow, run_newObj, Sem.run_pure, hrow, markStringish, run_shape]
                have hshape : ({ w with heap := w.heap.push (.cells (bytesV b ++ List.replicate (m - b.size) (Value.int .u8 0)).toArray e), drawn := w.drawn + 1 } : World).shape? w.heap.size = some (e, m) := by
                  simp [World.shape?, hbl]; omega
                simp only [hshape, run_freeze, Result.andThen, Sem.run_pure]
                rw [freeze_new]
              · refine VR.slice (o := 0) (Rho.set_self ρ _ _) (Nat.le_refl _) hm (fun _ => rfl) ?_
                show 0 + m * P.cellsOf e ≤ (bytesV b).length + (List.replicate (m - b.size) (Value.int .u8 0)).length
                rw [cellsOf_of hcc.2, hbl, List.length_replicate]; omega
            · rw [if_neg hcc] at hc; cases hc
          | _ => cases hc
        | _ => cases hc
    | _ => exact plainCase rfl hc
  | bool b => exact plainCase rfl hc
  | int k n => exact plainCase rfl hc
  | ptr0 => exact plainCase rfl hc
  | map0 => exact plainCase rfl hc
  | nilFunc => exact plainCase rfl hc
  | nilIface => exact plainCase rfl hc
  | ptr hr => simp [plainV, plainI, plain1] at hc
  | map hr => simp [plainV, plainI, plain1] at hc
  | yield hr => simp [plainV, plainI, plain1] at hc
  | func hr => obtain ⟨hp, hc⟩ := ite_some hc; exact plainCase hp hc
  | iface hr => obtain ⟨hp, hc⟩ := ite_some hc; exact plainCase hp hc
  | agg hr => obtain ⟨hp, hc⟩ := ite_some hc; exact plainCase hp hc
  | tuple hr => obtain ⟨hp, hc⟩ := ite_some hc; exact plainCase hp hc
end
end Go.Proofs.YtchjiocljlbhkaaW.Mill
