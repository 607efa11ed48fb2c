/- What the small machine's operations do, the model's do: building, slices (the session's own). -/
import Derived.Test.YtchjiocljlbhkaaMill3
namespace Go.Proofs.YtchjiocljlbhkaaW.Mill
open Go Go.RowKit
set_option linter.unusedVariables false
set_option linter.unusedSimpArgs false
section
variable {P : Program} {base : Nat} {w0 w : World} {ρ : Rho} {s : AS}

/-! ### building -/
def PR (ρ : Rho) : List (Nat × Value) → List (Nat × Value) → Prop
  | [], [] => True
  | (i, v) :: l, (j, u) :: l' => j = i ∧ VR ρ v u ∧ PR ρ l l'
  | _, _ => False
theorem foldl_write (off : Nat) : ∀ (vs : List Value) (k : Nat) (c : Array Value), off + k + vs.length ≤ c.size →
    ((vs.zipIdx k).foldl (fun cs p => cs.setIfInBounds (off + p.2) p.1) c).toList = write c.toList (off + k) vs
  | [], k, c, h => by simp [write]
  | v :: vs, k, c, h => by
    simp only [List.length_cons] at h
    rw [List.zipIdx_cons, List.foldl_cons, foldl_write off vs (k + 1) _ (by simp; omega), Array.toList_setIfInBounds]
    exact write_set _ _ _ _ (by simp; omega)
theorem fill_ok {place place' : Nat → Option (Nat × Nat)} (hp : ∀ i, place' i = place i) : ∀ {parts parts' : List (Nat × Value)} {cs l : List Value} {cs' : Array Value}, PR ρ parts parts' → VRs ρ cs cs'.toList → aFill place cs parts = some l →
    ∃ l', Instr.fill place' cs' parts' = some l' ∧ VRs ρ l l'.toList
  | [], [], cs, l, cs', _, hc, h => by cases h; exact ⟨cs', rfl, hc⟩
  | (i, v) :: rest, (j, u) :: rest', cs, l, cs', ⟨hj, hv, hr⟩, hc, h => by
    subst hj
    simp only [aFill] at h
    simp only [Instr.fill, hp]
    cases hpl : place j with
    | none => rw [hpl] at h; cases h
    | some q =>
      obtain ⟨off, size⟩ := q
      rw [hpl] at h
      simp only at h
      by_cases hc1 : (vcells v).length = size ∧ off + (vcells v).length ≤ cs.length
      · rw [if_pos hc1] at h
        have hl := hv.vcells.length
        have hcl := hc.length
        have hu : u.cells.size = (vcells v).length := by rw [← Array.length_toList, cells_vcells, hl]
        have hcs : cs'.size = cs.length := by rw [← Array.length_toList, hcl]
        have hw : (u.cells.zipIdx.foldl (fun cs p => cs.setIfInBounds (off + p.2) p.1) cs').toList = write cs'.toList off (vcells u) := by
          rw [← Array.foldl_toList, Array.toList_zipIdx, cells_vcells]
          exact foldl_write off (vcells u) 0 cs' (by omega)
        have hcond : (u.cells.size ≠ size || off + u.cells.size > cs'.size) = false := by simp [hu, hcs]; omega
        obtain ⟨l', h1, h2⟩ := fill_ok hp hr (cs' := u.cells.zipIdx.foldl (fun cs p => cs.setIfInBounds (off + p.2) p.1) cs') (by rw [hw]; exact hc.write hv.vcells off) h
        exact ⟨l', by simp only [hcond]; exact h1, h2⟩
      · rw [if_neg hc1] at h; cases h
  | [], _ :: _, _, _, _, h, _, _ => h.elim
  | _ :: _, [], _, _, _, h, _, _ => by cases h
theorem run_places (w : World) : ∀ (fs : List Field), (fs.all fun f => (sizeO P f.type).isSome) = true →
    (fs.mapM (m := Sem) fun f => do pure (f.offset, ← sizeOf f.type)).run P w = .ok (fs.map fun f => (f.offset, P.cellsOf f.type)) w
  | [], _ => rfl
  | f :: fs, h => by
    simp only [List.all_cons, Bool.and_eq_true] at h
    obtain ⟨n, hn⟩ := Option.isSome_iff_exists.1 h.1
    have ih := run_places w fs h.2
    rw [List.mapM_cons]
    simp only [Sem.run_bind, run_sizeOf hn, Result.andThen, Sem.run_pure, ih, cellsOf_of hn, List.map_cons]
theorem build_ok {t : TypeId} {parts : List (Nat × Value)} {parts' : Array (Nat × Value)} {v : Value} (hp : PR ρ parts parts'.toList) (h : aBuild P t parts = some v) : ∃ v', (Instr.build t parts').run P w = .ok v' w ∧ VR ρ v v' := by
  unfold aBuild at h
  obtain ⟨z, hz, h⟩ := Option.bind_eq_some_iff.1 h
  obtain ⟨hzr, hzp⟩ := run_zero hz w
  have hzv : VRs ρ (vcells z) z.cells.toList := by rw [cells_vcells]; exact (VR.of_plain hzp).vcells
  cases hu : P.underlying t with
  | none => rw [hu] at h; cases h
  | some d =>
    rw [hu] at h
    cases d with
    | struct fs =>
      simp only at h
      by_cases hall : (fs.toList.all fun f => (sizeO P f.type).isSome) = true
      · rw [if_pos hall] at h
        obtain ⟨l, hl, h⟩ := Option.map_eq_some_iff.1 h
        subst h
        have hpl : ∀ i : Nat, ((fs.toList.map fun f => (f.offset, P.cellsOf f.type)).toArray)[i]? = (fs[i]?).bind fun f => (sizeO P f.type).map fun n => (f.offset, n) := by
          intro i
          rw [List.getElem?_toArray, List.getElem?_map, Array.getElem?_toList]
          cases hi : fs[i]? with
          | none => rfl
          | some f =>
            have hm : f ∈ fs.toList := by rw [Array.mem_toList_iff]; exact Array.mem_of_getElem? hi
            obtain ⟨n, hn⟩ := Option.isSome_iff_exists.1 (List.all_eq_true.1 hall f hm)
            simp [hn, cellsOf_of hn]
        obtain ⟨l', h1, h2⟩ := fill_ok hpl hp hzv hl
        refine ⟨.agg l', ?_, .agg (by simpa using h2)⟩
        simp only [Instr.build, Sem.run_bind, hzr, run_underlying hu, Result.andThen, Array.mapM_eq_mapM_toList, Sem.run_map, run_places w _ hall]
        rw [h1]; rfl
      · rw [if_neg hall] at h; cases h
    | array n e =>
      simp only at h
      obtain ⟨k, hk, h⟩ := Option.bind_eq_some_iff.1 h
      obtain ⟨l, hl, h⟩ := Option.map_eq_some_iff.1 h
      subst h
      obtain ⟨l', h1, h2⟩ := fill_ok (fun _ => rfl) hp hzv hl
      refine ⟨.agg l', ?_, .agg (by simpa using h2)⟩
      simp only [Instr.build, Sem.run_bind, hzr, run_underlying hu, Result.andThen, run_sizeOf hk]
      rw [h1]; rfl
    | _ => cases h
theorem zeros_get (z : List Value) : ∀ (n i : Nat), i < n * z.length → (zeros z n)[i]? = z[i % z.length]?
  | 0, i, h => by omega
  | n + 1, i, h => by
    unfold zeros
    have hz : 0 < z.length := by rcases Nat.eq_zero_or_pos z.length with e | e; rw [e] at h; simp at h; exact e
    by_cases hi : i < z.length
    · rw [List.getElem?_append_left hi, Nat.mod_eq_of_lt hi]
    · rw [List.getElem?_append_right (by omega), zeros_get z n _ (by rw [Nat.add_mul] at h; omega), Nat.mod_eq_sub_mod (a := i) (by omega)]
theorem zeros_length (z : List Value) : ∀ n, (zeros z n).length = n * z.length
  | 0 => by simp [zeros]
  | n + 1 => by simp [zeros, zeros_length z n, Nat.add_mul, Nat.add_comm]
theorem zeros_plain {z : List Value} (h : z.all plainI = true) : ∀ n, (zeros z n).all plainI = true
  | 0 => rfl
  | n + 1 => by simp [zeros, h, zeros_plain h n]
theorem zeros_oneC {z : List Value} (h : z.all oneC = true) : ∀ n, (zeros z n).all oneC = true
  | 0 => rfl
  | n + 1 => by simp [zeros, h, zeros_oneC h n]
theorem range_zeros (z : Array Value) (n m : Nat) (hm : m = n * z.size) : ((Array.range m).map (z[· % z.size]!)).toList = zeros z.toList n := by
  apply List.ext_getElem?
  intro i
  by_cases hi : i < m
  · have hz : 0 < z.size := by rcases Nat.eq_zero_or_pos z.size with e | e; rw [e] at hm; simp at hm; omega; exact e
    have hlt : i % z.size < z.size := Nat.mod_lt _ hz
    rw [zeros_get _ _ _ (by simpa [← hm] using hi)]
    simp [hi, hlt, getElem!_pos]
  · rw [List.getElem?_eq_none (by simp; omega), List.getElem?_eq_none (by rw [zeros_length]; simp; omega)]
theorem vcells_plain {z : Value} (h : plainV z = true) (hn : ∀ vs, z ≠ .tuple vs) : (vcells z).all plainI = true := by
  cases z <;> first | exact h | (simp only [vcells, List.all_cons, List.all_nil, Bool.and_true]; exact h) | exact absurd rfl (hn _)
theorem zeroRel {z : Value} (hz : plainV z = true) : ∀ n, VRs ρ (zeros (vcells z) n) (zeros z.cells.toList n)
  | 0 => .nil
  | n + 1 => by rw [zeros, zeros]; exact VRs.append (zeroRel hz n) (by rw [cells_vcells]; exact (VR.of_plain hz).vcells)
theorem buildSlice_ok (h : HR P base w0 ρ s w) {t : TypeId} {len : Nat} {parts : List (Nat × Value)} {parts' : Array (Nat × Value)} {v : Value} {s' : AS} (hp : PR ρ parts parts'.toList) (hb : aBuildSlice P s t len parts = some (v, s')) :
    ∃ v' w' ρ', (Instr.buildSlice t len parts').run P w = .ok v' w' ∧ HR P base w0 ρ' s' w' ∧ VR ρ' v v' ∧ ρ.le ρ' := by
  unfold aBuildSlice at hb
  cases hu : P.underlying t with
  | none => rw [hu] at hb; cases hb
  | some d =>
    rw [hu] at hb
    cases d with
    | slice e =>
      simp only at hb
      obtain ⟨n, hn, hb⟩ := Option.bind_eq_some_iff.1 hb
      obtain ⟨z, hz, hb⟩ := Option.bind_eq_some_iff.1 hb
      by_cases hc : len * n ≤ 16777216 ∧ (vcells z).length = n
      · rw [if_pos hc] at hb
        obtain ⟨l, hl, hb⟩ := Option.map_eq_some_iff.1 hb
        cases hb
        obtain ⟨hzr, hzp⟩ := run_zero hz w
        have hzs : z.cells.size = n := by rw [← Array.length_toList, cells_vcells]; exact hc.2
        have hrow : ∀ zz : Array Value, (if len * n = 0 then zz = #[] else zz = z.cells) → ((Array.range (len * n)).map (zz[· % zz.size]!)).toList = zeros z.cells.toList len := by
          intro zz hzz
          by_cases h0 : len * n = 0
          · rw [h0]
            have : (zeros z.cells.toList len).length = 0 := by rw [zeros_length, Array.length_toList, hzs, h0]
            rw [List.eq_nil_of_length_eq_zero this]; exact List.eq_nil_of_length_eq_zero (by rw [Array.length_toList, Array.size_map, Array.size_range])
          · rw [if_neg h0] at hzz; subst hzz; exact range_zeros _ _ _ (by rw [hzs])
        obtain ⟨zz, hz1⟩ : ∃ zz : Array Value, (if len * n = 0 then zz = #[] else zz = z.cells) := by
          by_cases h0 : len * n = 0
          · exact ⟨#[], by rw [if_pos h0]⟩
          · exact ⟨z.cells, by rw [if_neg h0]⟩
        obtain ⟨l', h1, h2⟩ := fill_ok (place := fun i => some (i * n, n)) (fun _ => rfl) hp (cs' := (Array.range (len * n)).map (zz[· % zz.size]!)) (by rw [hrow zz hz1]; exact zeroRel hzp len) hl
        obtain ⟨g1, g2⟩ := new_ok h e h2 [] (0, 0) (soft0 _)
        refine ⟨.slice (some ⟨w.heap.size, 0, none⟩) len len, _, _, ?_, g1, ?_, g2⟩
        · have hle : ¬ len * n > 2 ^ 24 := by omega
          by_cases h0 : len * n = 0
          · rw [if_pos h0] at hz1; subst hz1
            simp only [Instr.buildSlice, Sem.run_bind, run_underlying hu, run_sizeOf hn, Result.andThen, if_neg hle, Sem.run_pure, if_pos h0]
            rw [h1]
            simp [newRow]
          · rw [if_neg h0] at hz1; subst hz1
            simp only [Instr.buildSlice, Sem.run_bind, run_underlying hu, run_sizeOf hn, Result.andThen, if_neg hle, Sem.run_pure, if_neg h0, hzr]
            rw [h1]
            simp [newRow]
        · exact VR.sliceX (o := 0) (Rho.set_self ρ _ _) (Nat.le_refl _) (fun _ => rfl)
      · rw [if_neg hc] at hb; cases hb
    | _ => cases hb

/-! ### slices -/

def IR : Option Int → Option Value → Prop
  | none, none => True
  | some i, some v => ∃ k, v = .int k i
  | _, _ => False
theorem bounds_ok {isS : Bool} {len cap cap' : Nat} {lo hi mx : Option Int} {lo' hi' mx' : Option Value} {l h m : Nat} (h1 : IR lo lo') (h2 : IR hi hi') (h3 : IR mx mx') (hc : cap ≤ cap') (hb : aBounds len cap lo hi mx = some (l, h, m)) (w : World) :
    (Instr.sliceBounds isS len cap' lo' hi' mx').run P w = .ok (l, h, if mx.isSome = true then m else cap') w ∧ l ≤ h ∧ h ≤ m ∧ m ≤ cap ∧ (mx.isSome = false → m = cap) := by
  unfold aBounds at hb
  simp only at hb
  by_cases hcnd : 0 ≤ lo.getD 0 ∧ lo.getD 0 ≤ hi.getD ↑len ∧ hi.getD ↑len ≤ mx.getD ↑cap ∧ mx.getD ↑cap ≤ ↑cap ∧ (mx.isSome = true → hi.isSome = true)
  · rw [if_pos hcnd] at hb
    cases hb
    obtain ⟨c1, c2, c3, c4, c5⟩ := hcnd
    have key : ∀ {i : Int} {y : Nat} {k : IntKind} {c : BoundsCode}, 0 ≤ i → i ≤ y → (Instr.sliceBound (.int k i) y c).run P w = .ok i.toNat w := fun a b => by simp [Instr.sliceBound, asIntOf, a, b]
    refine ⟨?_, by omega, by omega, by omega, fun hm => ?_⟩
    · cases mx with
      | none =>
        cases mx' with
        | some _ => exact h3.elim
        | none =>
          cases hi with
          | none =>
            cases hi' with
            | some _ => exact h2.elim
            | none =>
              cases lo with
              | none =>
                cases lo' with
                | some _ => exact h1.elim
                | none => simp [Instr.sliceBounds]
              | some i =>
                cases lo' with
                | none => exact h1.elim
                | some v =>
                  obtain ⟨k, rfl⟩ := h1
                  simp only [Option.getD] at c1 c2 c3 c4
                  simp [Instr.sliceBounds, key c1 c2]
          | some j =>
            cases hi' with
            | none => exact h2.elim
            | some u =>
              obtain ⟨ku, rfl⟩ := h2
              simp only [Option.getD] at c1 c2 c3 c4
              have k1 := key (k := ku) (c := if isS then .sliceAcap else .sliceAlen) (show (0 : Int) ≤ j from by omega) (show j ≤ (cap' : Nat) from by omega)
              cases lo with
              | none =>
                cases lo' with
                | some _ => exact h1.elim
                | none => simp [Instr.sliceBounds, k1]
              | some i =>
                cases lo' with
                | none => exact h1.elim
                | some v =>
                  obtain ⟨k, rfl⟩ := h1
                  simp only [Option.getD] at c1 c2
                  have k2 := key (k := k) (c := .sliceB) c1 (show i ≤ (j.toNat : Nat) from by omega)
                  simp [Instr.sliceBounds, k1, k2]
      | some q =>
        cases mx' with
        | none => exact h3.elim
        | some vq =>
          obtain ⟨kq, rfl⟩ := h3
          cases hi with
          | none => simp at c5
          | some j =>
            cases hi' with
            | none => exact h2.elim
            | some u =>
              obtain ⟨ku, rfl⟩ := h2
              simp only [Option.getD] at c1 c2 c3 c4
              have k0 := key (k := kq) (c := if isS then .slice3Acap else .slice3Alen) (show (0 : Int) ≤ q from by omega) (show q ≤ (cap' : Nat) from by omega)
              have k1 := key (k := ku) (c := .slice3B) (show (0 : Int) ≤ j from by omega) (show j ≤ (q.toNat : Nat) from by omega)
              cases lo with
              | none =>
                cases lo' with
                | some _ => exact h1.elim
                | none => simp [Instr.sliceBounds, k0, k1]
              | some i =>
                cases lo' with
                | none => exact h1.elim
                | some v =>
                  obtain ⟨k, rfl⟩ := h1
                  simp only [Option.getD] at c1 c2
                  have k2 := key (k := k) (c := .slice3C) c1 (show i ≤ (j.toNat : Nat) from by omega)
                  simp [Instr.sliceBounds, k0, k1, k2]
    · cases mx with
      | none => simp
      | some q => cases hm
  · rw [if_neg hcnd] at hb; cases hb
theorem slice_ok (h : HR P base w0 ρ s w) {t : TypeId} {x x' v : Value} {lo hi mx : Option Int} {lo' hi' mx' : Option Value} (hx : VR ρ x x') (h1 : IR lo lo') (h2 : IR hi hi') (h3 : IR mx mx') (hs : aSlice P s t x lo hi mx = some v) :
    ∃ v', (Instr.sliceAt t x' lo' hi' mx').run P w = .ok v' w ∧ VR ρ v v' := by
  unfold aSlice at hs
  cases hu : P.underlying t with
  | none => rw [hu] at hs; cases hs
  | some d =>
    rw [hu] at hs
    cases d with
    | slice e =>
      cases hx with
      | slice0 =>
        simp only at hs
        cases hb : aBounds 0 0 lo hi mx with
        | none => rw [hb] at hs; cases hs
        | some q =>
          obtain ⟨l, hh, m⟩ := q
          rw [hb] at hs
          obtain ⟨n, hn, hs⟩ := Option.map_eq_some_iff.1 hs
          subst hs
          obtain ⟨b1, b2, b3, b4, b5⟩ := bounds_ok (P := P) (isS := true) h1 h2 h3 (Nat.le_refl 0) hb w
          have e1 : l = 0 := by omega
          have e2 : hh = 0 := by omega
          have e3 : m = 0 := by omega
          subst e1; subst e2; subst e3
          refine ⟨.slice none 0 0, ?_, .slice0⟩
          simp only [Instr.sliceAt, Instr.slice, Sem.run_bind, run_underlying hu, Result.andThen, b1, run_sizeOf hn]
          simp
      | slice hr hnc hcc hoo hM =>
        rename_i b o o' len cap cap' xx
        simp only at hs
        cases hb : aBounds len cap lo hi mx with
        | none => rw [hb] at hs; cases hs
        | some q =>
          obtain ⟨l, hh, m⟩ := q
          rw [hb] at hs
          cases hn : sizeO P e with
          | none => rw [hn] at hs; cases hs
          | some n =>
            rw [hn] at hs
            cases hg : s.get b with
            | none => rw [hg] at hs; cases hs
            | some ob =>
              rw [hg] at hs
              cases ob with
              | cells c e' ro =>
                simp only at hs
                by_cases hne : n = P.cellsOf e'
                · rw [if_pos hne] at hs
                  obtain ⟨b1, b2, b3, b4, b5⟩ := bounds_ok (P := P) (isS := true) h1 h2 h3 hcc hb w
                  obtain ⟨c', hc, hsz, _, _⟩ := h.cell hg hr
                  have hsz' : xx.sz = n := by rw [hsz, hne]
                  have hrun : (Instr.sliceAt t (.slice (some ⟨xx.r, o', none⟩) len cap') lo' hi' mx').run P w = .ok (.slice (if (if mx.isSome = true then m else cap') = l then some ⟨xx.r, o', none⟩ else some ⟨xx.r, o' + l * n, none⟩) (hh - l) ((if mx.isSome = true then m else cap') - l)) w := by
                    simp only [Instr.sliceAt, Instr.slice, Sem.run_bind, run_underlying hu, Result.andThen, b1, run_sizeOf hn, Sem.run_pure, Option.map_some, add_addr]
                  by_cases hm : mx.isSome = true
                  · simp only [hm, if_true] at hrun
                    by_cases hml : m = l
                    · rw [if_pos ⟨hm, hml⟩] at hs; cases hs
                      rw [if_pos hml] at hrun
                      refine ⟨_, hrun, ?_⟩
                      rw [show m - l = 0 from by omega]
                      exact .sliceX hr (by omega) (fun h => absurd h (Nat.lt_irrefl 0))
                    · rw [if_neg (fun hh => hml hh.2), if_neg (by simp), if_pos hm] at hs; cases hs
                      rw [if_neg hml] at hrun
                      have hc0 : 0 < cap := by omega
                      exact ⟨_, hrun, .sliceX hr (by omega) (fun _ => by rw [hoo hc0]; omega)⟩
                  · rw [if_neg hm] at hrun
                    have hm' : mx.isSome = false := by simpa using hm
                    have hmc := b5 hm'
                    rw [if_neg (by simp [hm']), if_neg (by simp), if_neg hm] at hs
                    by_cases hml : m = l
                    · rw [if_pos ⟨trivial, hml⟩] at hs; cases hs
                      by_cases hcl : cap' = l
                      · rw [if_pos hcl] at hrun
                        refine ⟨_, hrun, ?_⟩
                        have : hh - l = 0 := by omega
                        rw [this, hcl, Nat.sub_self]
                        exact .slice hr (Nat.le_refl 0) (Nat.le_refl 0) (fun h => absurd h (Nat.lt_irrefl 0)) (by simp; have := hM; exact Nat.le_trans (Nat.le_add_right _ _) this)
                      · rw [if_neg hcl] at hrun
                        refine ⟨_, hrun, ?_⟩
                        have : hh - l = 0 := by omega
                        rw [this]
                        refine .slice hr (Nat.le_refl 0) (Nat.zero_le _) (fun h => absurd h (Nat.lt_irrefl 0)) ?_
                        rw [hsz', Nat.sub_mul]; rw [hsz'] at hM
                        have : l * n ≤ cap' * n := Nat.mul_le_mul_right n (by omega)
                        omega
                    · rw [if_neg (fun hh => hml hh.2)] at hs; cases hs
                      rw [if_neg (by omega)] at hrun
                      have hc0 : 0 < cap := by omega
                      refine ⟨_, hrun, .slice hr (by omega) (by omega) (fun _ => by rw [hoo hc0]; omega) ?_⟩
                      rw [hsz', Nat.sub_mul]; rw [hsz'] at hM
                      have : l * n ≤ cap' * n := Nat.mul_le_mul_right n (by omega)
                      omega
                · rw [if_neg hne] at hs; cases hs
              | _ => cases hs
      | sliceX hr hnc hoo =>
        rename_i b o o' len cap xx
        simp only at hs
        cases hb : aBounds len cap lo hi mx with
        | none => rw [hb] at hs; cases hs
        | some q =>
          obtain ⟨l, hh, m⟩ := q
          rw [hb] at hs
          cases hn : sizeO P e with
          | none => rw [hn] at hs; cases hs
          | some n =>
            rw [hn] at hs
            cases hg : s.get b with
            | none => rw [hg] at hs; cases hs
            | some ob =>
              rw [hg] at hs
              cases ob with
              | cells c e' ro =>
                simp only at hs
                by_cases hne : n = P.cellsOf e'
                · rw [if_pos hne] at hs
                  obtain ⟨b1, b2, b3, b4, b5⟩ := bounds_ok (P := P) (isS := true) h1 h2 h3 (Nat.le_refl cap) hb w
                  have hmm : (if mx.isSome = true then m else cap) = m := by
                    by_cases hm : mx.isSome = true
                    · rw [if_pos hm]
                    · rw [if_neg hm, b5 (by simpa using hm)]
                  rw [hmm] at b1
                  have hrun : (Instr.sliceAt t (.slice (some ⟨xx.r, o', none⟩) len cap) lo' hi' mx').run P w = .ok (.slice (if m = l then some ⟨xx.r, o', none⟩ else some ⟨xx.r, o' + l * n, none⟩) (hh - l) (m - l)) w := by
                    simp only [Instr.sliceAt, Instr.slice, Sem.run_bind, run_underlying hu, Result.andThen, b1, run_sizeOf hn, Sem.run_pure, Option.map_some, add_addr]
                  by_cases hml : m = l
                  · rw [if_pos hml] at hrun
                    have e0 : m - l = 0 := by omega
                    have hs' : v = .slice (some ⟨b, o, some 1⟩) (hh - l) 0 := by
                      by_cases hm : mx.isSome = true
                      · rw [if_pos ⟨hm, hml⟩] at hs; cases hs; rfl
                      · rw [if_neg (fun h => hm h.1), if_pos ⟨trivial, hml⟩] at hs; cases hs; rfl
                    subst hs'
                    exact ⟨_, hrun, by rw [e0]; exact .sliceX hr (by omega) (fun h => absurd h (Nat.lt_irrefl 0))⟩
                  · rw [if_neg hml] at hrun
                    have hs' : v = .slice (some ⟨b, o + l * n, some 1⟩) (hh - l) (m - l) := by
                      rw [if_neg (fun h => hml h.2), if_neg (fun h => hml h.2)] at hs
                      by_cases hm : mx.isSome = true
                      · rw [if_pos hm] at hs; cases hs; rfl
                      · rw [if_neg hm, if_neg (fun h => hml h.2)] at hs; cases hs; rfl
                    subst hs'
                    exact ⟨_, hrun, .sliceX hr (by omega) (fun _ => by rw [hoo (by omega)]; omega)⟩
                · rw [if_neg hne] at hs; cases hs
              | _ => cases hs
      | _ => cases hs
    | array n e =>
      cases hx with
      | ptr hr =>
        rename_i b o xx
        simp only at hs
        cases hb : aBounds n n lo hi mx with
        | none => rw [hb] at hs; cases hs
        | some q =>
          obtain ⟨l, hh, m⟩ := q
          rw [hb] at hs
          cases hn : sizeO P e with
          | none => rw [hn] at hs; cases hs
          | some k =>
            rw [hn] at hs
            cases hs
            obtain ⟨b1, b2, b3, b4, b5⟩ := bounds_ok (P := P) (isS := false) h1 h2 h3 (Nat.le_refl n) hb w
            have hmm : (if mx.isSome = true then m else n) = m := by
              by_cases hm : mx.isSome = true
              · rw [if_pos hm]
              · rw [if_neg hm, b5 (by simpa using hm)]
            rw [hmm] at b1
            refine ⟨.slice (some ⟨xx.r, (if m = l then o else o + l * k) + xx.d, none⟩) (hh - l) (m - l), ?_, .sliceX hr (by omega) (fun _ => rfl)⟩
            simp only [Instr.sliceAt, Sem.run_bind, run_underlying hu, Result.andThen, Instr.sureAddr, Sem.run_pure, b1, run_sizeOf hn, add_addr]
            by_cases hml : m = l
            · simp [hml]
            · simp only [if_neg hml]; rw [show o + xx.d + l * k = o + l * k + xx.d from by omega]
      | _ => cases hs
    | _ => cases hs
end
end Go.Proofs.YtchjiocljlbhkaaW.Mill
