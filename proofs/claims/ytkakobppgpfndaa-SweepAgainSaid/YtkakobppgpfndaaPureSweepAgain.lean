/- As often as one likes, in whichever order: the law's pure part. -/
import Derived.Test.YtkakobppgpfndaaPrint
import Derived.Test.YtkakobppgpfndaaPureTable
namespace Go.Proofs.Ytkakobppgpfndaa.Pure
open Go.RowKit Go.Proofs.Ytkakobppgpfndaa.Print Go.Proofs.YtkakobppgpfndaaW.PrintWords Go.Proofs.YtkakobppgpfndaaW.PrintMore
set_option linter.unusedSimpArgs false
set_option linter.unusedVariables false

theorem cnt_none (p : Nat → Bool) (h : ∀ j, p j = false) : ∀ m n, cnt p n m = 0 := by
  intro m
  induction m with
  | zero => intro n; rfl
  | succ m ih => intro n; rw [cnt, h n, ih]; rfl
theorem again_N {x : Ent} {w : Int} (h : okX x = true) : sweepN (sweepX x w) w = 0 := by
  unfold sweepN
  rw [if_pos (okX_swept h), sweepX_ok h]
  exact cnt_none _ (fun j => by simp only [Int.toNat_natCast, Nat.testBit_and]; cases x.f1.toNat.testBit j <;> cases w.toNat.testBit j <;> rfl) _ _
theorem again_X {x : Ent} {w : Int} (h : okX x = true) : sweepX (sweepX x w) w = sweepX x w := by
  rw [sweepX_ok (okX_swept h), sweepX_ok h]
  simp only [Int.toNat_natCast, Nat.and_assoc, Nat.and_self]
  by_cases h0 : x.f1.toNat &&& w.toNat = 0
  · simp [h0]
  · simp [h0]
theorem again_freed {l : List Ent} {ws : List Int} (hg : goodT l = true) (he : ws.length = l.length) : ∀ m i, i + m = l.length → freed (List.zipWith sweepX l ws) ws i m = 0 := by
  intro m
  induction m with
  | zero => intro i _; rfl
  | succ m ih =>
    intro i hi
    have hlt : i < l.length := by omega
    rw [freed, rd_ent _ i (show i < (List.zipWith sweepX l ws).length by simp; omega), rd_int ws i (by omega), List.getElem_zipWith, again_N (good_all hg _ (List.getElem_mem hlt)), ih (i + 1) (by omega)]
theorem again_zip {l : List Ent} {ws : List Int} (hg : goodT l = true) (he : ws.length = l.length) : List.zipWith sweepX (List.zipWith sweepX l ws) ws = List.zipWith sweepX l ws := by
  refine List.ext_getElem (by simp [he]) fun j h1 h2 => ?_
  rw [List.getElem_zipWith, List.getElem_zipWith]
  exact again_X (good_all hg _ (List.getElem_mem _))
theorem same_l0 (l : List Ent) (hl : l.length ≤ 256) : ∀ (m i fuel : Nat), i + m = l.length → atticref14_Same.l0 (m + 1 + fuel) (i : Int) l l = some true := by
  intro m
  induction m with
  | zero => intro i fuel hi; rw [show 0 + 1 + fuel = fuel + 1 from by omega, atticref14_Same.l0, if_neg (by omega)]
  | succ m ih =>
    intro i fuel hi
    have ih' := ih (i + 1) fuel (by omega)
    rw [show m + 1 + 1 + fuel = (m + 1 + fuel) + 1 from by omega, atticref14_Same.l0, if_pos (by omega), if_pos (by omega), if_pos (by omega), wsucc (by omega), ih']
    simp
theorem same (l : List Ent) (hl : l.length ≤ 256) {k : Nat} (hk : 500 ≤ k) : atticref14_Same.f k l l = some true := by
  unfold atticref14_Same.f
  rw [if_pos rfl]
  have := same_l0 l hl l.length 0 (k - l.length - 1) (by omega)
  rw [show l.length + 1 + (k - l.length - 1) = k from by omega] at this
  exact this
theorem equal_l0 (l : List Ent) (hl : l.length ≤ 256) : ∀ (m i fuel : Nat), i + m = l.length → api_Entry_21.l0 (m + 1 + fuel) l l (l.length : Int) (i : Int) = some true := by
  intro m
  induction m with
  | zero => intro i fuel hi; rw [show 0 + 1 + fuel = fuel + 1 from by omega, api_Entry_21.l0, if_neg (by omega)]
  | succ m ih =>
    intro i fuel hi
    have ih' := ih (i + 1) fuel (by omega)
    rw [show m + 1 + 1 + fuel = (m + 1 + fuel) + 1 from by omega, api_Entry_21.l0, if_pos (by omega), if_pos (by omega), if_pos (by omega), if_pos (by omega), wsucc (by omega), ih']
    simp
theorem equal (l : List Ent) (hl : l.length ≤ 256) {k : Nat} (hk : 500 ≤ k) : api_Entry_21.f k l l = some true := by
  unfold api_Entry_21.f
  rw [if_pos rfl]
  have := equal_l0 l hl l.length 0 (k - l.length - 1) (by omega)
  rw [show l.length + 1 + (k - l.length - 1) = k from by omega] at this
  exact this

/-- Each entry is as it was, or swept. -/
def Mid (l : List Ent) (ws : List Int) (cur : List Ent) : Prop := cur.length = l.length ∧ ∀ j (h : j < l.length) (h' : j < cur.length) (hw : j < ws.length), cur[j] = l[j] ∨ cur[j] = sweepX l[j] ws[j]
theorem mid_step {l : List Ent} {ws : List Int} {cur : List Ent} (hU : U l) (hW : UW ws) (hg : goodT l = true) (he : ws.length = l.length) (h : Mid l ws cur) (j : Nat) (hj : j < l.length) {k : Nat} (hk : 100 ≤ k) :
    ∃ n : Int, sweep_Entry.f k (rd_T24 cur (j : Int)).f0 (rd_T24 cur (j : Int)).f1 (rd ws (j : Int)) = some ((sweepX (rd_T24 l (j : Int)) (rd ws (j : Int))).f0, (sweepX (rd_T24 l (j : Int)) (rd ws (j : Int))).f1, n)
      ∧ Mid l ws (cur.set j (sweepX (rd_T24 l (j : Int)) (rd ws (j : Int)))) := by
  have hc : j < cur.length := by rw [h.1]; exact hj
  have hw : j < ws.length := by omega
  have hok := good_all hg _ (List.getElem_mem hj)
  have hux := hU _ (List.getElem_mem hj)
  have huw := hW _ (List.getElem_mem hw)
  rw [rd_ent cur j hc, rd_int ws j hw, rd_ent l j hj]
  refine ⟨(sweepN cur[j] ws[j] : Int), ?_, ?_, ?_⟩
  · rcases h.2 j hj hc hw with e | e
    · rw [e, sweepE _ _ hux huw hk]
    · rw [e, sweepE _ _ (sweepX_u hux) huw hk, again_X hok]
  · rw [List.length_set]; exact h.1
  · intro i hi hi' hiw
    by_cases hij : j = i
    · subst hij
      rw [List.getElem_set_self]
      exact .inr rfl
    · rw [List.getElem_set_ne hij]
      exact h.2 i hi (by rw [h.1]; exact hi) hiw

theorem again_l1 (l : List Ent) (ws : List Int) (hU : U l) (hW : UW ws) (hg : goodT l = true) (he : ws.length = l.length) : ∀ (m i fuel : Nat) (cur : List Ent), i + m = l.length → 500 ≤ fuel → Mid l ws cur →
    (∀ j (h : j < l.length) (h' : j < cur.length) (hw : j < ws.length), l.length - i ≤ j → cur[j] = sweepX l[j] ws[j]) →
    atticlaw21_SweepAgain.l1 (m + 1 + fuel) ws cur (l.length : Int) (i : Int) (List.zipWith sweepX l ws) = some true := by
  have hlen := good_len hg
  intro m
  induction m with
  | zero =>
    intro i fuel cur hi hf hM hd
    have hcur : cur = List.zipWith sweepX l ws := by
      refine List.ext_getElem (by simp [hM.1, he]) fun j ha hb => ?_
      rw [List.getElem_zipWith]
      have hm := hM.1
      exact hd j (by omega) ha (by omega) (by omega)
    rw [show 0 + 1 + fuel = fuel + 1 from by omega, atticlaw21_SweepAgain.l1, if_neg (by omega), hcur, equal _ (by simp [he]; omega) hf]
    rfl
  | succ m ih =>
    intro i fuel cur hi hf hM hd
    have hm := hM.1
    have hj : l.length - 1 - i < l.length := by omega
    have ew : wrap64 ((wrap64 ((cur.length : Int) - 1)) - (i : Int)) = ((l.length - 1 - i : Nat) : Int) := by
      rw [w64 (n := (cur.length : Int) - 1) (by omega) (by omega), w64 (by omega) (by omega)]; omega
    obtain ⟨n, hE, hM'⟩ := mid_step hU hW hg he hM (l.length - 1 - i) hj (k := m + 1 + fuel) (by omega)
    rw [show m + 1 + 1 + fuel = (m + 1 + fuel) + 1 from by omega, atticlaw21_SweepAgain.l1, if_pos (by omega), ew, if_pos (by omega), if_pos (by omega), if_pos (by omega), hE, Option.bind_some, wsucc (by omega), Int.toNat_natCast]
    refine ih (i + 1) fuel _ (by omega) hf hM' ?_
    intro j h h' hw hle
    rw [List.length_set] at h'
    by_cases hji : l.length - 1 - i = j
    · subst hji
      rw [List.getElem_set_self, rd_ent l _ hj, rd_int ws _ (by omega)]
    · rw [List.getElem_set_ne hji]
      exact hd j h h' hw (by omega)
theorem again_succ {i : Nat} (h : i < 4611686018427387904) : wrap64 ((i : Int) + 1) = ((i + 1 : Nat) : Int) := by rw [w64 (by omega) (by omega)]; rfl
theorem again_mod {v n : Nat} (h : v < 256) : Int.tmod (wrap64 (v : Int)) (n : Int) = ((v % n : Nat) : Int) := by
  rw [w64 (by omega) (by omega), Int.tmod_eq_emod_of_nonneg (by omega)]; rfl
theorem again_l0 (l : List Ent) (ws ord : List Int) (hU : U l) (hW : UW ws) (hg : goodT l = true) (he : ws.length = l.length) (hO : ∀ y ∈ ord, 0 ≤ y ∧ y < 256) (hol : ord.length ≤ 140737488351232) : ∀ (m i fuel : Nat) (cur : List Ent), i + m = ord.length → 1000 ≤ fuel → Mid l ws cur →
    atticlaw21_SweepAgain.l0 (m + 1 + fuel) ws cur ord (ord.length : Int) (i : Int) (List.zipWith sweepX l ws) = some true := by
  have hlen := good_len hg
  intro m
  induction m with
  | zero =>
    intro i fuel cur hi hf hM
    have hm := hM.1
    have h1 := again_l1 l ws hU hW hg he l.length 0 (fuel - l.length - 1) cur (by omega) (by omega) hM (fun j h h' hw hle => absurd hle (by omega))
    rw [show l.length + 1 + (fuel - l.length - 1) = fuel from by omega] at h1
    rw [show 0 + 1 + fuel = fuel + 1 from by omega, atticlaw21_SweepAgain.l0, if_neg (by omega), hm]
    exact h1
  | succ m ih =>
    intro i fuel cur hi hf hM
    have hm := hM.1
    have hlt : i < ord.length := by omega
    obtain ⟨v, hv, hv2⟩ : ∃ v : Nat, ord[i] = (v : Int) ∧ v < 256 := by have := hO _ (List.getElem_mem hlt); exact ⟨ord[i].toNat, by omega, by omega⟩
    have hj : v % l.length < l.length := Nat.mod_lt _ (by omega)
    obtain ⟨n, hE, hM'⟩ := mid_step hU hW hg he hM (v % l.length) hj (k := m + 1 + fuel) (by omega)
    rw [show m + 1 + 1 + fuel = (m + 1 + fuel) + 1 from by omega, atticlaw21_SweepAgain.l0, if_pos (by omega), if_pos (by omega), if_pos (by omega), hm, if_neg (by omega), rd_int ord i hlt, hv, again_mod hv2, if_pos (by omega), if_pos (by omega), if_pos (by omega), hE, Option.bind_some, again_succ (by omega), Int.toNat_natCast]
    exact ih (i + 1) fuel _ (by omega) hf hM'

theorem SweepAgain : atticlaw21_SweepAgain.Pure := by
  rintro ⟨l⟩ ws ord ⟨h0, h1⟩ ⟨h2, h3⟩ ⟨h4, h5⟩
  have hU : U l := U_of h1
  have hW : UW ws := UW_of h3
  have hO : ∀ y ∈ ord, 0 ≤ y ∧ y < 256 := fun y hy => by
    have := h5 y hy
    simp [Lit.wf, IntKind.min, IntKind.max, IntKind.signed, IntKind.bits] at this
    omega
  have hol : ord.length ≤ 140737488351232 := by omega
  refine ⟨ord.length + 3001 + 1, ?_⟩
  unfold atticlaw21_SweepAgain.f
  rw [all l ws hU hW (by omega), Option.bind_some, live (by omega), Option.bind_some, if_pos rfl, atticlaw21_SweepAgain.j0]
  cases hg : goodT l with
  | false =>
    simp only [Bool.false_eq_true, if_false]
    rw [if_pos (by decide), live (by omega), Option.bind_some, if_pos rfl, check' l hU (by omega), Option.bind_some, hg]
    rfl
  | true =>
    have hlen := good_len hg
    simp only [if_true]
    by_cases he : ws.length = l.length
    · have hzl : (List.zipWith sweepX l ws).length = l.length := by simp [he]
      have hzU : U (List.zipWith sweepX l ws) := swept_U hU
      have hzg := good_swept (ws := ws) hg he
      have hfr : freed (List.zipWith sweepX l ws) ws 0 (List.zipWith sweepX l ws).length = 0 := by rw [hzl]; exact again_freed hg he _ _ (by omega)
      rw [if_pos he]
      simp only []
      rw [if_neg (by decide), all _ ws hzU hW (by omega), hzg, if_pos rfl, if_pos (by omega), hfr, again_zip hg he, Option.bind_some]
      simp only []
      rw [if_pos trivial, if_pos (show ((0 : Nat) : Int) = 0 from rfl), same _ (by omega) (by omega), Option.bind_some, if_pos rfl, show ord.length + 3001 = (ord.length + 3000) + 1 from rfl, atticlaw21_SweepAgain.j1, if_neg (by rw [hzl]; simp), clone_api_Entry.f, if_pos (by omega), Option.bind_some]
      have := again_l0 l ws ord hU hW hg he hO hol ord.length 0 2999 l (by omega) (by omega) ⟨rfl, fun j h h' hw => .inl rfl⟩
      rw [show ord.length + 1 + 2999 = ord.length + 3000 from by omega] at this
      exact this
    · rw [if_neg he]
      simp only []
      rw [if_pos (by decide), live (by omega), Option.bind_some, if_pos rfl, check' l hU (by omega), Option.bind_some, hg, if_pos rfl, if_pos rfl]
      have : ((ws.length : Int) != (l.length : Int)) = true := bne_iff_ne.mpr (by omega)
      rw [this]

end Go.Proofs.Ytkakobppgpfndaa.Pure
