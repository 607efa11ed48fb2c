/- What the small machine's operations do, the model's do (the session's own). -/
import Derived.Test.YtchjiocljlbhkaaMill2
namespace Go.Proofs.YtchjiocljlbhkaaW.Mill
open Go Go.RowKit
set_option linter.unusedVariables false
set_option linter.unusedSimpArgs false

/-! ### runs -/
theorem calm_run {α : Type} {P : Program} : ∀ {s : Sem α} {a : α}, calm P s = some a → ∀ w, s.run P w = .ok a w := by
  intro s
  induction s with
  | pure b => intro a h w; cases h; rfl
  | program k ih => intro a h w; exact ih P h w
  | _ => intro a h; cases h
theorem calmV_run {P : Program} {ρ : Rho} {x : Sem Value} {v : Value} (h : calmV P x = some v) (w : World) : x.run P w = .ok v w ∧ VR ρ v v := by
  unfold calmV at h
  cases e : calm P x with
  | none => rw [e] at h; cases h
  | some u =>
    rw [e] at h
    cases hp : plainV u with
    | false => simp [hp] at h
    | true => simp [hp] at h; subst h; exact ⟨calm_run e w, .of_plain hp⟩
section
variable {P : Program}
theorem run_typeInfo {t : TypeId} {i : TypeInfo} (h : P.info? t = some i) (w : World) : (typeInfo t).run P w = .ok i w := by simp [typeInfo, h]
theorem run_sizeOf {t : TypeId} {n : Nat} (h : sizeO P t = some n) (w : World) : (sizeOf t).run P w = .ok n w := by
  unfold sizeO at h
  cases e : P.info? t with
  | none => rw [e] at h; cases h
  | some i => rw [e] at h; cases h; simp [sizeOf, run_typeInfo e]
theorem cellsOf_of {t : TypeId} {n : Nat} (h : sizeO P t = some n) : P.cellsOf t = n := by unfold sizeO at h; unfold Program.cellsOf; rw [h]; rfl
theorem run_zero {t : TypeId} {z : Value} (h : zeroO P t = some z) (w : World) : (zeroValue t).run P w = .ok z w ∧ plainV z = true := by
  unfold zeroO at h
  cases e : P.info? t with
  | none => rw [e] at h; cases h
  | some i =>
    rw [e] at h
    simp only [Option.bind_some] at h
    cases ez : i.zero with
    | none => rw [ez] at h; cases h
    | some z' =>
      rw [ez] at h
      cases hp : plainV z' with
      | false => simp [hp] at h
      | true => simp [hp] at h; subst h; exact ⟨by simp [zeroValue, run_typeInfo e, ez], hp⟩
theorem run_isAgg {t : TypeId} {b : Bool} (h : aggB P t = some b) (w : World) : (isAgg t).run P w = .ok b w := by
  unfold aggB at h
  cases e : P.underlying t with
  | none => rw [e] at h; cases h
  | some d => rw [e] at h; cases d <;> cases h <;> simp [isAgg, run_underlying e]
theorem add_addr (r o n : Nat) : (⟨r, o, none⟩ : Addr).add n = ⟨r, o + n, none⟩ := by
  unfold Addr.add
  by_cases h : n = 0
  · subst h; rfl
  · rw [if_neg h]
theorem write_get (c vs : List Value) (o j : Nat) (h : o + vs.length ≤ c.length) : (write c o vs)[j]? = if j < o then c[j]? else if j < o + vs.length then vs[j - o]? else c[j]? := by
  unfold write
  have hl : (c.take o).length = o := by simp; omega
  by_cases h1 : j < o
  · rw [if_pos h1, List.append_assoc, List.getElem?_append_left (by omega), List.getElem?_take, if_pos h1]
  · rw [if_neg h1, List.append_assoc, List.getElem?_append_right (by omega), hl]
    by_cases h2 : j < o + vs.length
    · rw [if_pos h2, List.getElem?_append_left (by omega)]
    · rw [if_neg h2, List.getElem?_append_right (by omega), List.getElem?_drop]; congr 1; omega
theorem write_length (c vs : List Value) (o : Nat) (h : o + vs.length ≤ c.length) : (write c o vs).length = c.length := by
  unfold write; simp; omega
theorem write_set (c vs : List Value) (k : Nat) (v : Value) (h : k + 1 + vs.length ≤ c.length) : write (c.set k v) (k + 1) vs = write c k (v :: vs) := by
  apply List.ext_getElem?
  intro j
  rw [write_get _ _ _ _ (by simpa using h), write_get _ _ _ _ (by simp; omega), List.getElem?_set, List.length_cons]
  by_cases h1 : j < k
  · rw [if_pos (by omega), if_neg (by omega), if_pos h1]
  · by_cases h2 : j = k
    · subst h2; rw [if_pos (by omega), if_pos rfl, if_pos (by omega), if_neg (by omega), if_pos (by omega)]; simp
    · rw [if_neg (by omega), if_neg h1]
      by_cases h3 : j < k + 1 + vs.length
      · rw [if_pos h3, if_pos (by omega)]; rw [show j - k = (j - (k + 1)) + 1 from by omega]; rfl
      · rw [if_neg h3, if_neg (by omega), if_neg (by omega)]
theorem run_storeCells {r o : Nat} {e : TypeId} {fz : Nat × Nat} : ∀ (vs : List Value) (i : Nat) (c : Array Value) (w : World), w.heap[r]? = some (.cells c e fz) → soft fz c.size → o + i + vs.length ≤ c.size → vs.all oneC = true →
    ∃ w', (storeCells ⟨r, o, none⟩ vs i).run P w = .ok () w' ∧ Upd w w' r (.cells (write c.toList (o + i) vs).toArray e fz)
  | [], i, c, w, h, hs, hb, ho => ⟨w, rfl, rfl, rfl, rfl, rfl, by rw [h]; congr 2; apply Array.ext'; simp [write], fun _ _ => rfl⟩
  | v :: vs, i, c, w, h, hs, hb, ho => by
    simp only [List.all_cons, Bool.and_eq_true, List.length_cons] at ho hb
    have hv : v.oneCell' = true := by cases v <;> first | rfl | (simp [oneC] at ho)
    have hc : w.cell? ⟨r, o + i, none⟩ = c[o + i]? := cell_of_row w r (o + i) c e fz h
    have hlt : o + i < c.size := by omega
    have hfz : w.frozen? ⟨r, o + i, none⟩ = false := by simp only [World.frozen?, h]; exact hs _ hlt
    have h1 : (w.setCell ⟨r, o + i, none⟩ v).heap[r]? = some (.cells (c.setIfInBounds (o + i) v) e fz) := by
      simp only [World.setCell]
      rw [Array.getElem?_modify, if_pos rfl, h]; rfl
    obtain ⟨w', hr, hu⟩ := run_storeCells (o := o) vs (i + 1) (c.setIfInBounds (o + i) v) (w.setCell ⟨r, o + i, none⟩ v) h1 (by simpa using hs) (by simp; omega) ho.2
    refine ⟨w', ?_, hu.os, hu.tape, hu.output, hu.size.trans (World.size_setCell ..), ?_, fun k hk => (hu.far k hk).trans (heap_setCell_other w _ k v hk)⟩
    · simp only [storeCells, add_addr, Sem.run_bind, run_store P w _ v .plain hv, hc, Array.getElem?_eq_getElem hlt, hfz, Result.andThen]
      exact hr
    · rw [hu.at_]; congr 2; apply Array.ext'
      simp only [Array.toList_setIfInBounds]
      exact write_set _ _ _ _ (by simpa using (show o + i + 1 + vs.length ≤ c.size from by omega))

/-! ### reading and writing -/
variable {base : Nat} {w0 w : World} {ρ : Rho} {s : AS}
theorem load_row (h : HR P base w0 ρ s w) {b o n : Nat} {c l : List Value} {e : TypeId} {ro : Bool} {x : Ren} (hb : s.get b = some (.cells c e ro)) (hx : ρ b = some x) (hr : row c o n = some l) :
    ∃ l', VRs ρ l l' ∧ l'.length = n ∧ (loadCells ⟨x.r, o + x.d, none⟩ n).run P w = .ok l'.toArray w := by
  obtain ⟨c', hc, hsz, hM, hcell⟩ := h.cell hb hx
  obtain ⟨l', hl', hv⟩ := hc.row hr
  have hlen : o + n ≤ c.length := by unfold row at hr; by_cases e : o + n ≤ c.length; exact e; rw [if_neg e] at hr; cases hr
  have e1 : l' = (c'.drop o).take n := by unfold row at hl'; rw [if_pos (by rw [hc.length]; exact hlen)] at hl'; cases hl'; rfl
  have hn : l'.length = n := by rw [e1]; simp [hc.length]; omega
  refine ⟨l', hv, hn, ?_⟩
  have := run_loadCells_list (P := P) w ⟨x.r, o + x.d, none⟩ l' (fun j v hj => by
    have hjn : j < n := by have := (List.getElem?_eq_some_iff.1 hj).1; omega
    rw [add_addr, show o + x.d + j = (o + j) + x.d from by omega, hcell (o + j) (by omega), ← hj, e1, List.getElem?_take, if_pos hjn, List.getElem?_drop])
  rw [hn] at this
  exact this
theorem part_ok {t : TypeId} {cs : List Value} {cs' : Array Value} {o : Nat} {v : Value} (hv : VRs ρ cs cs'.toList) (h : aPart P t cs o = some v) : ∃ v', (part t cs' o).run P w = .ok v' w ∧ VR ρ v v' := by
  unfold aPart at h
  cases hg : aggB P t with
  | none => rw [hg] at h; cases h
  | some b =>
    rw [hg] at h
    cases b with
    | true =>
      obtain ⟨n, hn, h⟩ := Option.bind_eq_some_iff.1 h
      obtain ⟨l, hl, h⟩ := Option.map_eq_some_iff.1 h
      subst h
      obtain ⟨l', hl', hvl⟩ := hv.row hl
      have e1 : l' = (cs'.extract o (o + n)).toList := by
        unfold row at hl'
        by_cases e : o + n ≤ cs'.toList.length
        · rw [if_pos e] at hl'; cases hl'; rw [Array.toList_extract]; simp [List.extract]
        · rw [if_neg e] at hl'; cases hl'
      refine ⟨.agg (cs'.extract o (o + n)), by simp [part, run_isAgg hg, run_sizeOf hn], .agg (e1 ▸ hvl)⟩
    | false =>
      obtain ⟨v', h1, h2⟩ := hv.get o h
      exact ⟨v', by simp only [part, Sem.run_bind, run_isAgg hg, Result.andThen]; rw [← Array.getElem?_toList, h1]; rfl, h2⟩
theorem loadVar_ok (h : HR P base w0 ρ s w) {t : TypeId} {b o : Nat} {c : List Value} {e : TypeId} {ro : Bool} {x : Ren} {v : Value} (hb : s.get b = some (.cells c e ro)) (hx : ρ b = some x) (hp : aPart P t c o = some v) :
    ∃ v', (loadVar t ⟨x.r, o + x.d, none⟩).run P w = .ok v' w ∧ VR ρ v v' := by
  unfold aPart at hp
  cases hg : aggB P t with
  | none => rw [hg] at hp; cases hp
  | some q =>
    rw [hg] at hp
    cases q with
    | true =>
      obtain ⟨n, hn, hp⟩ := Option.bind_eq_some_iff.1 hp
      obtain ⟨l, hl, hp⟩ := Option.map_eq_some_iff.1 hp
      subst hp
      obtain ⟨l', hv, _, hr⟩ := load_row h hb hx hl
      exact ⟨.agg l'.toArray, by simp [loadVar, run_isAgg hg, run_sizeOf hn, hr], .agg hv⟩
    | false =>
      obtain ⟨c', hc, _, _, hcell⟩ := h.cell hb hx
      obtain ⟨v', h1, h2⟩ := hc.get o hp
      have hlt : o < c.length := (List.getElem?_eq_some_iff.1 hp).1
      exact ⟨v', by simp [loadVar, run_isAgg hg, run_load, hcell o hlt, h1], h2⟩
theorem load_ok (h : HR P base w0 ρ s w) {t : TypeId} {a a' v : Value} (ha : VR ρ a a') (hl : aLoad P s t a = some v) : ∃ v', (Instr.loadAt t a').run P w = .ok v' w ∧ VR ρ v v' := by
  cases ha with
  | ptr hx =>
    rename_i b o x
    unfold aLoad at hl
    simp only at hl
    cases hb : s.get b with
    | none => rw [hb] at hl; cases hl
    | some ob =>
      rw [hb] at hl
      cases ob with
      | cells c e ro => obtain ⟨v', h1, h2⟩ := loadVar_ok h hb hx hl; exact ⟨v', by simp [Instr.loadAt, Instr.sureAddr, h1], h2⟩
      | _ => cases hl
  | _ => simp [aLoad] at hl
/-- What is known of an own row. -/
theorem own_row (h : HR P base w0 ρ s w) {b : Nat} {c : List Value} {e : TypeId} {x : Ren} (hb : s.get b = some (.cells c e false)) (hx : ρ b = some x) :
    ∃ (c' : Array Value) (fz : Nat × Nat) (pre c1 ext : List Value), w.heap[x.r]? = some (.cells c' e fz) ∧ c'.toList = pre ++ c1 ++ ext ∧ pre.length = x.d ∧ VRs ρ c c1 ∧ c'.size = x.M ∧ x.sz = P.cellsOf e ∧ base ≤ x.r ∧ soft fz x.M := by
  obtain ⟨x', hx', c', fz, pre, c1, ext, a, b1, c2, d, e1, f, g, i⟩ := h.obj b _ hb
  rw [hx] at hx'; cases hx'
  exact ⟨c', fz, pre, c1, ext, a, b1, c2, d, e1, f, (i rfl).1, (i rfl).2⟩
theorem mid_get (pre c ext : List Value) (j : Nat) : (pre ++ c ++ ext)[j]? = if j < pre.length then pre[j]? else if j - pre.length < c.length then c[j - pre.length]? else ext[j - pre.length - c.length]? := by
  by_cases h0 : j < pre.length
  · rw [if_pos h0, List.append_assoc, List.getElem?_append_left h0]
  · rw [if_neg h0, List.append_assoc, List.getElem?_append_right (by omega)]
    by_cases h1 : j - pre.length < c.length
    · rw [if_pos h1, List.getElem?_append_left h1]
    · rw [if_neg h1, List.getElem?_append_right (by omega)]
theorem write_mid (pre c1 ext vs : List Value) (o : Nat) (h : o + vs.length ≤ c1.length) : write (pre ++ c1 ++ ext) (o + pre.length) vs = pre ++ write c1 o vs ++ ext := by
  apply List.ext_getElem?
  intro j
  rw [write_get _ _ _ _ (by simp; omega), mid_get, mid_get, write_length _ _ _ h, write_get _ _ _ _ h]
  by_cases h0 : j < pre.length
  · rw [if_pos (by omega), if_pos h0, if_pos h0]
  · rw [if_neg h0, if_neg h0]
    by_cases h1 : j - pre.length < c1.length
    · rw [if_pos h1, if_pos h1]
      by_cases h2 : j - pre.length < o
      · rw [if_pos (by omega), if_pos h2]
      · rw [if_neg (by omega), if_neg h2]
        by_cases h3 : j - pre.length < o + vs.length
        · rw [if_pos (by omega), if_pos h3]; congr 1; omega
        · rw [if_neg (by omega), if_neg h3]
    · rw [if_neg h1, if_neg h1, if_neg (by omega), if_neg (by omega)]
/-- Cells are written, on both sides. -/
theorem write_ok (h : HR P base w0 ρ s w) {b o : Nat} {c : List Value} {e : TypeId} {x : Ren} {vs vs' : List Value} (hb : s.get b = some (.cells c e false)) (hx : ρ b = some x) (hv : VRs ρ vs vs') (hl : o + vs.length ≤ c.length) (ho : vs.all oneC = true) :
    ∃ w', (storeCells ⟨x.r, o + x.d, none⟩ vs' 0).run P w = .ok () w' ∧ HR P base w0 ρ (s.put b (.cells (write c o vs) e false)) w' := by
  obtain ⟨c', fz, pre, c1, ext, a, b1, c2, d, e1, f, g, i⟩ := own_row h hb hx
  have hlen : pre.length + c1.length + ext.length = c'.size := by rw [← Array.length_toList, b1]; simp; omega
  have hd := d.length
  have hvl := hv.length
  obtain ⟨w', hr, hu⟩ := run_storeCells (P := P) (o := o + x.d) vs' 0 c' w a (by rw [e1]; exact i) (by omega) (by rw [hv.oneC]; exact ho)
  refine ⟨w', hr, h.upd hb rfl hx hu rfl ⟨(write c'.toList (o + x.d + 0) vs').toArray, fz, pre, write c1 o vs', ext, hu.at_, ?_, c2, d.write hv o, ?_, f, fun e => (by cases e), fun _ => ⟨g, i⟩⟩⟩
  · simp only [List.toList_toArray, Nat.add_zero]
    rw [b1, ← c2]
    exact write_mid _ _ _ _ _ (by omega)
  · rw [List.size_toArray, write_length _ _ _ (by simp; omega)]; simpa using e1
theorem store_ok (h : HR P base w0 ρ s w) {t : TypeId} {a a' v v' : Value} {s' : AS} (ha : VR ρ a a') (hv : VR ρ v v') (hs : aStore P s t a v = some s') : ∃ w', (Instr.storeAt t a' v').run P w = .ok () w' ∧ HR P base w0 ρ s' w' := by
  cases ha with
  | ptr hx =>
    rename_i b o x
    unfold aStore at hs
    simp only at hs
    cases hb : s.get b with
    | none => rw [hb] at hs; cases hs
    | some ob =>
      rw [hb] at hs
      cases ob with
      | cells c e ro =>
        cases ro with
        | true => cases hs
        | false =>
          simp only at hs
          by_cases hc : sizeO P t = some (vcells v).length ∧ o + (vcells v).length ≤ c.length ∧ (vcells v).all oneC = true
          · rw [if_pos hc] at hs; cases hs
            obtain ⟨h1, h2, h3⟩ := hc
            obtain ⟨w', hr, hH⟩ := write_ok h hb hx hv.vcells h2 h3
            refine ⟨w', ?_, hH⟩
            have hsz : v'.cells.size = (vcells v).length := by rw [← Array.length_toList, cells_vcells, hv.vcells.length]
            simp [Instr.storeAt, Instr.sureAddr, storeVar, run_sizeOf h1, hsz, cells_vcells, hr]
          · rw [if_neg hc] at hs; cases hs
      | _ => cases hs
  | _ => simp [aStore] at hs
/-- A row more, on both sides (the model's may be longer). -/
theorem new_ok (h : HR P base w0 ρ s w) (e : TypeId) {vs vs' : List Value} (hv : VRs ρ vs vs') (ext : List Value) (fz : Nat × Nat) (hfz : soft fz (vs'.length + ext.length)) :
    HR P base w0 (ρ.set s.size ⟨w.heap.size, 0, vs'.length + ext.length, P.cellsOf e⟩) (s.push (.cells vs e false)) (w.alloc (.cells (vs' ++ ext).toArray e fz)) ∧ ρ.le (ρ.set s.size ⟨w.heap.size, 0, vs'.length + ext.length, P.cellsOf e⟩) := by
  have hle := Rho.le_set (ρ := ρ) ⟨w.heap.size, 0, vs'.length + ext.length, P.cellsOf e⟩ h.fresh
  exact ⟨h.push ⟨(vs' ++ ext).toArray, fz, [], vs', ext, heap_alloc_new .., by simp, rfl, hv.mono hle, by simp, rfl, fun e => (by cases e), fun _ => ⟨h.big, hfz⟩⟩, hle⟩
theorem soft0 (n : Nat) : soft (0, 0) n := fun i _ => by simp
theorem newVar_ok (h : HR P base w0 ρ s w) (e : TypeId) {v v' : Value} (hv : VR ρ v v') :
    ∃ a' w' ρ', (newVar e v').run P w = .ok a' w' ∧ HR P base w0 ρ' (aNew s e (vcells v)).2 w' ∧ VR ρ' (aNew s e (vcells v)).1 (.pointer (some a')) ∧ ρ.le ρ' := by
  obtain ⟨h1, h2⟩ := new_ok h e hv.vcells [] (0, 0) (soft0 _)
  refine ⟨⟨w.heap.size, 0, none⟩, _, _, ?_, h1, ?_, h2⟩
  · simp only [newVar, newRow, Sem.run_bind, run_newObj, Result.andThen, Sem.run_pure, List.append_nil, ← cells_vcells]; rfl
  · exact VR.ptr (o := 0) (Rho.set_self ρ _ _)
end
end Go.Proofs.YtchjiocljlbhkaaW.Mill
