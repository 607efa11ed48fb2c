/- make([]T, 0, n) and what is appended in its room: the whole room is told, zeros behind what was put. -/
import Derived.Test.YtdjajecgojndfaaWWords
namespace Go.Proofs.Ytdjajecgojndfaa.Print
open Go.RowKit Go.Proofs.YtdjajecgojndfaaW.PrintWords
set_option linter.unusedVariables false
set_option linter.unusedSimpArgs false
theorem mkroom {P : Program} {ops : Array Oper} {rest : List Oper} {o : Oper} {a : Act} {Q : Exit → Act → World → Prop} {α : Type} (d : Kd α) {w0 W : World} (base e : Nat) (hgd : o.guard = none) {N : Tmp} (hd : o.dst = some N) (t : TypeId) (x y : Operand) (ho : o.op = .makeSlice t x y) (n : Int) (hx : a.eval x = .int .i64 0) (hy : a.eval y = .int .i64 n)
    (ht : P.underlying t = some (.slice e)) (z : Value) (bytes : Nat) (hinfo : (P.info? e).map (fun i => (i.zero, i.size, i.bytes)) = some (some z, d.sz, bytes)) (hz : z.cells.size = d.sz) (hs0 : 0 < d.sz) (hb0 : 0 < bytes)
    (z0 : α) {ok okp : Nat → Prop} (hzero : d.M W base okp z0 z.cells.toList) (hok : ∀ k, okp k → ok k) (hfresh : ok W.heap.size) (h0 : 0 ≤ n) (hl : n.toNat * bytes ≤ 281474976710656) (HB : Below base w0 W) (hbase : base ≤ W.heap.size)
    (h : ∀ g w1, d.R e w1 base ok (.slice (some ⟨g, 0, none⟩) n.toNat n.toNat) (List.replicate n.toNat z0) → Below base w0 w1 → wpList P ops Q rest (a.put o.dst (.slice (some ⟨g, 0, none⟩) 0 n.toNat)) w1) : wpList P ops Q (o :: rest) a W := by
  obtain ⟨m, rfl⟩ := Int.eq_ofNat_of_zero_le h0
  simp only [Int.toNat_natCast] at hl h
  obtain ⟨i0, hi, hzz⟩ := Option.map_eq_some_iff.1 hinfo
  simp only [Prod.mk.injEq] at hzz
  obtain ⟨hz0, hz1, hz2⟩ := hzz
  have hm : m ≤ 281474976710656 := Nat.le_trans (Nat.le_mul_of_pos_right _ hb0) hl
  have hr := run_make (P := P) W t e i0 z ht hi hz0 .i64 .i64 (0 : Int) (m : Int) (by omega) (by omega)
    (by
      have h3 : ((i0.bytes * m : Nat) : Int) ≤ 281474976710656 := by rw [hz2, Nat.mul_comm]; omega
      rwa [Int.natCast_mul] at h3) (by omega)
  simp only [Int.toNat_natCast, Int.toNat_zero] at hr
  rw [hz1] at hr
  have hrun : (execOp a.eval o).run P W = .ok (.value (.slice (some ⟨W.heap.size, 0, none⟩) 0 m)) (W.alloc (.cells (madeCells z.cells (m * d.sz)) e)) := by simp [execOp, ho, hx, hy, hr]
  have hrep := Kd.reps_made hz hs0 hzero m
  have full : d.R e (W.alloc (.cells (madeCells z.cells (m * d.sz)) e)) base ok (.slice (some ⟨W.heap.size, 0, none⟩) m m) (List.replicate m z0) := by
    refine ⟨fun k hk => ?_, (madeCells z.cells (m * d.sz)).toList, ?_, ?_⟩
    · have : W.heap.size = k := by simpa [Value.ownBlock] using hk
      subst this
      exact hfresh
    · have h2 := World.ownsRow_lit (base := base) (e := e) (size := d.sz) W (madeCells z.cells (m * d.sz)) m hbase (by simp only [maxLen]; omega) (by have := hrep.1; simpa using this)
      simpa using h2
    · refine hrep.imp_ (fun p c hp => d.M_mono (fun k hk => ⟨hok k hk.1, fun he => ?_⟩) (Kd.M_below (d.M_bound hp) (below_alloc (Below.refl _ _) _)))
      have h3 : k = W.heap.size := by simpa [Value.ownBlock] using he
      have := hk.2.2.1
      omega
  exact Kd.event_run hgd hrun (h _ _ full (HB.alloc hbase _))
theorem room_append {P : Program} {ops : Array Oper} {rest : List Oper} {o : Oper} {a : Act} {Q : Exit → Act → World → Prop} {α : Type} {enc : α → Value} {h1 : ∀ x, (enc x).oneCell' = true} (d0 : α) {w0 W : World} (base : Nat) (hgd : o.guard = none) (s x : Operand) (t e : TypeId)
    (ho : o.op = .call { callee := .builtin .append, args := #[s, x], argTypes := #[t, t] }) (ht : P.underlying t = some (.slice e)) (hinfo : (P.info? e).map (·.size) = some 1)
    (g cap : Nat) (xs ys zs : List α) (A : Option Addr) (c : Nat) (ok : Nat → Prop) (hs : a.eval s = .slice (some ⟨g, 0, none⟩) xs.length cap) (hx : a.eval x = .slice A ys.length c)
    (HO : Kd.R (Kd.scalar enc h1) e W base ok (.slice (some ⟨g, 0, none⟩) cap cap) (xs ++ zs)) (HR : Kd.C (Kd.scalar enc h1) W A ys.length ys) (hl : ys.length ≤ zs.length) (HB : Below base w0 W) (hbase : base ≤ W.heap.size)
    (h : ∀ w1, Kd.R (Kd.scalar enc h1) e w1 base ok (.slice (some ⟨g, 0, none⟩) cap cap) (xs ++ ys ++ zs.drop ys.length) → Below base w0 w1 → W.grownBy w1 (some g) → wpList P ops Q rest (a.put o.dst (.slice (some ⟨g, 0, none⟩) (xs ++ ys).length cap)) w1) :
    wpList P ops Q (o :: rest) a W := by
  have hR := Kd.reads_of_C (enc := enc) (d := d0) (h1 := h1) HR
  obtain ⟨i0, hi, hsz⟩ := Option.map_eq_some_iff.1 hinfo
  have hown := Kd.own_of_R HO
  obtain ⟨hcl, -, -⟩ := Kd.R_reads' HO
  rcases hown.2 with ⟨h, _⟩ | ⟨g', cap', cur, hv, hb, hh, hnc, hcm, hcs, htake⟩
  · cases h
  cases hv
  have hcl' : (xs ++ zs).length = xs.length + zs.length := List.length_append
  have hcs1 : cur.size = (xs ++ zs).length := by rw [hcs, Nat.mul_one]
  have hcur : cur.toList = encs enc (xs ++ zs) := by
    rw [← htake, List.take_of_length_le]
    rw [Array.length_toList, hcs]
    exact Nat.le_refl _
  have hrun : ∃ w1, (Builtin.append_ #[t, t] o.type #[.slice (some ⟨g, 0, none⟩) xs.length (xs ++ zs).length, .slice A ys.length c]).run P W = .ok (.slice (some ⟨g, 0, none⟩) (xs ++ ys).length (xs ++ zs).length) w1 ∧ Kd.R (Kd.scalar enc h1) e w1 base ok (.slice (some ⟨g, 0, none⟩) (xs ++ zs).length (xs ++ zs).length) (xs ++ ys ++ zs.drop ys.length) ∧ W.grownBy w1 (some g) := by
    rcases A with _ | ad
    · have h0 : ys.length = 0 := by
        rcases Nat.eq_zero_or_pos ys.length with h0 | h0
        · exact h0
        · obtain ⟨ad, h, _⟩ := hR.2.2 h0
          cases h
      obtain rfl : ys = [] := List.eq_nil_of_length_eq_zero h0
      refine ⟨W, ?_, by rw [List.append_nil, List.length_nil, List.drop_zero]; exact HO, World.grownBy.refl W _⟩
      have hle : xs.length ≤ xs.length + zs.length := Nat.le_add_right _ _
      simp [Builtin.append_, run_underlying ht, sizeOf, typeInfo, hi, Builtin.lenOf, Builtin.firstCells, hle, storeCells]
    · have hnews : ∀ j u, (encs enc ys)[j]? = some u → W.cell? (ad.add j) = some u := by
        intro j u hu
        have hj : j < ys.length := by
          rcases Nat.lt_or_ge j ys.length with h | h
          · exact h
          · rw [List.getElem?_eq_none (by rw [encs_length]; exact h)] at hu
            cases hu
        obtain ⟨ad', he, hc⟩ := hR.2.2 (by omega)
        cases he
        rw [encs_get (d := d0) _ j hj] at hu
        rw [hc j hj, ← hu]
      have hone : ∀ u ∈ encs enc ys, u.oneCell' = true := by
        intro u hu; simp only [encs, List.mem_map] at hu; obtain ⟨q, _, rfl⟩ := hu; exact h1 q
      have hrr := run_append_room (P := P) W t o.type e i0 ht hi g xs.length (xs ++ zs).length cur hh ad ys.length c (encs enc ys) (by rw [encs_length, hsz, Nat.mul_one]) hnews hone (by omega) (by rw [encs_length, hsz, hcs1]; omega)
      have hin : (cur.toList.take (xs.length * i0.size) ++ encs enc ys ++ cur.toList.drop (xs.length * i0.size + (encs enc ys).length)) = encs enc (xs ++ ys ++ zs.drop ys.length) := by
        rw [hcur, hsz, Nat.mul_one, encs_length, encs_append, encs_append, encs_append, List.take_left' (encs_length xs), Nat.add_comm, ← List.drop_drop]
        congr 1
        rw [List.drop_drop, Nat.add_comm, ← List.drop_drop, List.drop_left' (encs_length xs)]
        simp [encs]
      rw [hin] at hrr
      refine ⟨W.setRow g (encs enc (xs ++ ys ++ zs.drop ys.length)).toArray, by rw [List.length_append (as := xs) (bs := ys)]; exact hrr, ?_, ⟨rfl, rfl, rfl, by simp, fun k _ hk => setRow_other W g k _ (fun e => hk (by simp [e]))⟩⟩
      have hlen : (xs ++ ys ++ zs.drop ys.length).length = (xs ++ zs).length := by simp only [List.length_append, List.length_drop]; omega
      rw [← hlen]
      refine Kd.R_of_own ?_ (fun k hk => HO.1 k (by simpa [Value.ownBlock] using hk))
      refine ⟨by rw [encs_length, Nat.mul_one], .inr ⟨g, _, (encs enc (xs ++ ys ++ zs.drop ys.length)).toArray, rfl, hb, setRow_heap W g cur _ e _ hh, Nat.le_refl _, by rw [hlen]; exact hcm, ?_, ?_⟩⟩
      · rw [List.size_toArray, encs_length, Nat.mul_one]
      · rw [List.take_of_length_le]
        rw [encs_length, Nat.mul_one]
        exact Nat.le_refl _
  obtain ⟨w1, hr1, h2, hg⟩ := hrun
  refine wpList_plain hgd fun K hK => ?_
  unfold Oper.wp execOp
  simp only [ho, resolve, invoke, builtin, Sem.run_bind, Sem.run_pure, Result.andThen_ok, List.map_toArray, List.map_cons, List.map_nil, hs, hx, hr1]
  exact hK _ _ (h w1 h2 (HB.grown hg hbase (fun k hk => by cases hk; exact hb)) hg)
end Go.Proofs.Ytdjajecgojndfaa.Print
