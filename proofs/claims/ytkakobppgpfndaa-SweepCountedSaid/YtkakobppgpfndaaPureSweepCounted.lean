/- Nothing marked is freed: the law's pure part. -/
import Derived.Test.YtkakobppgpfndaaPrint
import Derived.Test.YtkakobppgpfndaaPureTable
namespace Go.Proofs.Ytkakobppgpfndaa.Pure
open Go.RowKit Go.Proofs.Ytkakobppgpfndaa.Print Go.Proofs.YtkakobppgpfndaaW.PrintWords Go.Proofs.YtkakobppgpfndaaW.PrintMore
set_option linter.unusedSimpArgs false
set_option linter.unusedVariables false

theorem counted_l0 (l : List Ent) (ws : List Int) (hU : U l) (hW : UW ws) (hg : goodT l = true) (he : ws.length = l.length) : ∀ (m i fuel : Nat), i + m = l.length →
    atticlaw21_SweepCounted.l0 (m + 1 + fuel) ws (List.zipWith sweepX l ws) ((List.zipWith sweepX l ws).length : Int) (i : Int) l = some true := by
  intro m
  have hlen := good_len hg
  have hzl : (List.zipWith sweepX l ws).length = l.length := by simp [he]
  induction m with
  | zero =>
    intro i fuel hi
    rw [show 0 + 1 + fuel = fuel + 1 from by omega, atticlaw21_SweepCounted.l0, if_neg (by omega)]
  | succ m ih =>
    intro i fuel hi
    have hlt : i < l.length := by omega
    have hwl : i < ws.length := by omega
    have hux := hU _ (List.getElem_mem hlt)
    have huw := hW _ (List.getElem_mem hwl)
    have hok := good_all hg _ (List.getElem_mem hlt)
    have ih' := ih (i + 1) fuel (by omega)
    rw [show m + 1 + 1 + fuel = (m + 1 + fuel) + 1 from by omega, atticlaw21_SweepCounted.l0, if_pos (by omega), if_pos (by omega), if_pos (by omega), if_pos (by omega), if_pos (by omega),
      rd_ent _ i (show i < (List.zipWith sweepX l ws).length by omega), rd_ent l i hlt, rd_int ws i hwl, List.getElem_zipWith, wsucc (by omega), u32_and _ _ hux.1 hux.2 huw.1 huw.2, ih', sweepX_ok hok]
    rw [if_pos rfl]
    by_cases h0 : l[i].f1.toNat &&& ws[i].toNat = 0
    · simp [h0]
    · have hc : ¬ l[i].f0 = -1 := fun hc => h0 (by rw [ok_cls hok hc]; simp)
      have hz : ¬ (((l[i].f1.toNat &&& ws[i].toNat : Nat) : Int) = 0) := by omega
      simp only [if_neg h0, beq_eq_false_iff_ne.mpr hc, beq_eq_false_iff_ne.mpr hz]
      simp [hc]

theorem SweepCounted : atticlaw21_SweepCounted.Pure := by
  rintro ⟨l⟩ ws ⟨h0, h1⟩ ⟨h2, h3⟩
  have hU : U l := U_of h1
  have hW : UW ws := UW_of h3
  refine ⟨20001, ?_⟩
  unfold atticlaw21_SweepCounted.f
  rw [all l ws hU hW (by omega), Option.bind_some, live (by omega), Option.bind_some, if_pos rfl]
  show atticlaw21_SweepCounted.j0 (20000 + 1) _ _ _ l _ = _
  rw [atticlaw21_SweepCounted.j0]
  cases hg : goodT l with
  | false =>
    simp only [Bool.false_eq_true, if_false]
    rw [if_pos (by decide), live (by omega), Option.bind_some, if_pos rfl, check' l hU (by omega), Option.bind_some, hg]
    rfl
  | true =>
    have hlen := good_len hg
    simp only [if_true]
    by_cases he : ws.length = l.length
    · have hzl : (List.zipWith sweepX l ws).length = l.length := by simp [he]
      have hzU : U (List.zipWith sweepX l ws) := swept_U hU
      have hzg := good_swept (ws := ws) hg he
      have ht := takens_swept hg he l.length 0 (by omega)
      have hb := takens_le l l.length 0
      have hw : (takens l 0 l.length : Int) = wrap64 ((takens (List.zipWith sweepX l ws) 0 l.length : Int) + (freed l ws 0 l.length : Int)) := by
        generalize takens l 0 l.length = a at *
        generalize takens (List.zipWith sweepX l ws) 0 l.length = b at *
        generalize freed l ws 0 l.length = c at *
        rw [wadd (by omega), ht]
      rw [if_pos he]
      simp only []
      rw [if_neg (by decide), if_pos (by omega), if_pos (by omega), taken l hU hlen.2 (by omega), Option.bind_some, taken _ hzU (by omega) (by omega), Option.bind_some, hzl, if_pos hw, check' _ hzU (by omega), Option.bind_some, hzg, if_pos rfl]
      show atticlaw21_SweepCounted.j1 (19999 + 1) _ _ _ _ = _
      rw [atticlaw21_SweepCounted.j1, if_neg (by decide)]
      have := counted_l0 l ws hU hW hg he l.length 0 (19999 - l.length - 1) (by omega)
      rw [show l.length + 1 + (19999 - l.length - 1) = 19999 from by omega] at this
      exact this
    · rw [if_neg he]
      simp only []
      rw [if_pos (by decide), live (by omega), Option.bind_some, if_pos rfl, check' l hU (by omega), Option.bind_some, hg, if_pos rfl, if_pos rfl]
      have : ((ws.length : Int) != (l.length : Int)) = true := bne_iff_ne.mpr (by omega)
      rw [this]

end Go.Proofs.Ytkakobppgpfndaa.Pure
