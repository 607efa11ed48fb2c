/- Any marks as words, any words as marks; any table, swept by any words: the law's pure part, at inputs of a bulk that the second form allows. -/
import Derived.Test.YtkakobppgpfndaaPrint
import Derived.Test.YtkakobppgpfndaaPureWords
import Derived.Test.YtkakobppgpfndaaPureLive
import Derived.Test.YtkakobppgpfndaaPureTable
import Derived.Test.YtkakobppgpfndaaPureEntryRef
namespace Go.Proofs.Ytkakobppgpfndaa.Pure
open Go.RowKit Go.Proofs.Ytkakobppgpfndaa.Print Go.Proofs.YtkakobppgpfndaaW.PrintWords Go.Proofs.YtkakobppgpfndaaW.PrintMore
set_option linter.unusedSimpArgs false
set_option linter.unusedVariables false

theorem rmarks_l1 (ws : List Int) (hW : UW ws) (i : Nat) (hi : i < ws.length) (hl : ws.length ≤ 2000000) : ∀ (j n K : Nat), n + j = 32 →
    atticref21_Marks.l1 (j + 1 + K) ws (marksN ws (32 * i + n)) (i : Int) (n : Int) = atticref21_Marks.l0 K ws (marksN ws (32 * (i + 1))) ((i + 1 : Nat) : Int) := by
  intro j
  induction j with
  | zero =>
    intro n K hn
    rw [show 0 + 1 + K = K + 1 from by omega, atticref21_Marks.l1, if_neg (by omega), wsuccL (by omega), show 32 * i + n = 32 * (i + 1) from by omega]
  | succ j ih =>
    intro n K hn
    have ih' := ih (n + 1) K (by omega)
    obtain ⟨e, he⟩ := nat_of (hW _ (List.getElem_mem hi))
    have hr : rd ws (i : Int) = ((ws[i].toNat : Nat) : Int) := by rw [rd_int ws i hi]; exact e
    have hb : (Int.tmod (shr .u32 (rd ws (i : Int)) (IntKind.u64.wrap (n : Int))) 2 == 1) = mk1 ws (32 * i + n) := by
      rw [mk1_at ws i n (by omega), hr, bit2' _ n (by omega), Int.toNat_natCast]
    rw [show j + 1 + 1 + K = (j + 1 + K) + 1 from by omega, atticref21_Marks.l1, if_pos (by omega), if_pos (by omega), if_pos (by omega), if_pos (by rw [wrap_u64]; omega), if_pos (by rw [marksN_len]; omega), hb, ← marksN_succ, wsuccL (by omega)]
    exact ih'
theorem rmarks_l0 (ws : List Int) (hW : UW ws) (hl : ws.length ≤ 2000000) : ∀ (m i fuel : Nat), i + m = ws.length → atticref21_Marks.l0 (m * 34 + 1 + fuel) ws (marksN ws (32 * i)) (i : Int) = some (marksN ws (32 * ws.length)) := by
  intro m
  induction m with
  | zero =>
    intro i fuel hi
    rw [show 0 * 34 + 1 + fuel = fuel + 1 from by omega, atticref21_Marks.l0, if_neg (by omega), show i = ws.length from by omega]
  | succ m ih =>
    intro i fuel hi
    have h1 := rmarks_l1 ws hW i (by omega) hl 32 0 (m * 34 + 1 + fuel) rfl
    rw [show 32 * i + 0 = 32 * i from rfl] at h1
    rw [show (m + 1) * 34 + 1 + fuel = (32 + 1 + (m * 34 + 1 + fuel)) + 1 from by omega, atticref21_Marks.l0, if_pos (by omega), show (0 : Int) = ((0 : Nat) : Int) from rfl, h1]
    exact ih (i + 1) fuel (by omega)
theorem rmarks (ws : List Int) (hW : UW ws) (hl : ws.length ≤ 2000000) {k : Nat} (hk : ws.length * 34 + 1 ≤ k) : atticref21_Marks.f k ws = some (marksN ws (32 * ws.length)) := by
  have h := rmarks_l0 ws hW hl ws.length 0 (k - (ws.length * 34 + 1)) (by omega)
  rw [show ws.length * 34 + 1 + (k - (ws.length * 34 + 1)) = k from by omega] at h
  unfold atticref21_Marks.f
  exact h
theorem rwords_l0 (ms : List Bool) (n : Nat) (hn : ms.length = 32 * n) (hl : ms.length ≤ 100000000) : ∀ (m i fuel : Nat), i + m = ms.length → atticref21_Words.l0 (m + 1 + fuel) ms (wordsN ms n i) (i : Int) = some (wordsN ms n ms.length, 0) := by
  intro m
  induction m with
  | zero =>
    intro i fuel hi
    rw [show 0 + 1 + fuel = fuel + 1 from by omega, atticref21_Words.l0, if_neg (by omega), show i = ms.length from by omega]
  | succ m ih =>
    intro i fuel hi
    have ih' := ih (i + 1) fuel (by omega)
    have hj : i / 32 < n := by omega
    rw [show m + 1 + 1 + fuel = (m + 1 + fuel) + 1 from by omega, atticref21_Words.l0, if_pos (by omega), if_pos (by omega), wsuccL (by omega), div32 i (by omega), mod32, wordsN_at ms n i _ hj, wordsN_len]
    cases h : rdOf false ms (i : Int) with
    | true =>
      rw [if_pos rfl, if_pos (by omega), if_pos (by omega), if_pos (by rw [wrap_u64]; omega), add_word _ _ (by omega) (word_step h).2, Int.toNat_natCast, wordsN_step h hj]
      exact ih'
    | false =>
      rw [if_neg (by decide), wordsN_skip h]
      exact ih'
theorem rwords (ms : List Bool) (hl : ms.length ≤ 100000000) {k : Nat} (hk : ms.length + 1 ≤ k) : atticref21_Words.f k ms = some (if ms.length % 32 = 0 then (wordsN ms (ms.length / 32) ms.length, 0) else ([], 1)) := by
  unfold atticref21_Words.f
  by_cases h : ms.length % 32 = 0
  · have hw : wrap64 ((ms.length : Int) / 32) = ((ms.length / 32 : Nat) : Int) := by
      rw [show (ms.length : Int) / 32 = ((ms.length / 32 : Nat) : Int) from by omega, w64 (by omega) (by omega)]
    have h0 := rwords_l0 ms (ms.length / 32) (by omega) hl ms.length 0 (k - (ms.length + 1)) (by omega)
    rw [show ms.length + 1 + (k - (ms.length + 1)) = k from by omega, wordsN_zero] at h0
    rw [if_pos (by omega), hw, if_pos (by omega), if_pos (by omega), Int.toNat_natCast, if_pos h]
    exact h0
  · rw [if_neg (by omega), if_neg h]
theorem sweepE' (x : Ent) (w : Int) (h : 0 ≤ x.f1 ∧ x.f1 < 4294967296) (hw : 0 ≤ w ∧ w < 4294967296) {k : Nat} (hk : 100 ≤ k) :
    atticref21_Entry.f k x.f0 x.f1 w = some ((sweepX x w).f0, (sweepX x w).f1, (sweepN x w : Int)) := by
  obtain ⟨e, hl⟩ := nat_of h
  obtain ⟨e', hl'⟩ := nat_of hw
  have := sweep' x.f0 x.f1.toNat w.toNat hl hl' hk
  rw [← e, ← e'] at this
  rw [this]
  unfold sweepX sweepN swept okX
  cases okE x.f0 x.f1.toNat <;> rfl
theorem rall_l0 (l : List Ent) (ws : List Int) (hU : U l) (hW : UW ws) (hl : l.length ≤ 256) (he : ws.length = l.length) : ∀ (m i s fuel : Nat), i + m = l.length → 100 ≤ fuel → s ≤ 32 * i →
    atticref21_All.l0 (m + 1 + fuel) ws (s : Int) (i : Int) l ((List.zipWith sweepX l ws).take i) = some (List.zipWith sweepX l ws, ((s + freed l ws i m : Nat) : Int), 0) := by
  have hz : (List.zipWith sweepX l ws).length = l.length := by simp [he]
  intro m
  induction m with
  | zero =>
    intro i s fuel hi hf hs
    rw [show 0 + 1 + fuel = fuel + 1 from by omega, atticref21_All.l0, if_neg (by omega), List.take_of_length_le (by omega)]
    rfl
  | succ m ih =>
    intro i s fuel hi hf hs
    have hlt : i < l.length := by omega
    have hux := hU _ (List.getElem_mem hlt)
    have huw := hW _ (List.getElem_mem (show i < ws.length by omega))
    obtain ⟨q, hn, hq⟩ : ∃ q, q ≤ 32 ∧ Aside0 (sweepN l[i] ws[i] = q) := ⟨_, sweepN_le _ _, ⟨rfl⟩⟩
    have hap : (List.zipWith sweepX l ws).take i ++ [(⟨(sweepX l[i] ws[i]).f0, (sweepX l[i] ws[i]).f1⟩ : Ent)] = (List.zipWith sweepX l ws).take (i + 1) := by
      rw [List.take_add_one, List.getElem?_eq_getElem (show i < (List.zipWith sweepX l ws).length by omega), List.getElem_zipWith]
      rfl
    have hlen : ((List.zipWith sweepX l ws).take i).length < 8796093022208 := by rw [List.length_take]; omega
    rw [show m + 1 + 1 + fuel = (m + 1 + fuel) + 1 from by omega, atticref21_All.l0, if_pos (by omega), if_pos (by omega), if_pos (by omega), rd_ent l i hlt, rd_int ws i (by omega), sweepE' _ _ hux huw (by omega), Option.bind_some, if_pos hlen, hap, wsucc (by omega), hq.out, wadd (show s + q < 1000000000 by omega)]
    refine (ih (i + 1) (s + q) fuel (by omega) hf (by omega)).trans ?_
    rw [freed, rd_ent l i hlt, rd_int ws i (by omega), Nat.add_assoc, hq.out]
theorem rall (l : List Ent) (ws : List Int) (hU : U l) (hW : UW ws) {k : Nat} (hk : 500 ≤ k) : atticref21_All.f k l ws = some (if goodT l then (if ws.length = l.length then (List.zipWith sweepX l ws, (freed l ws 0 l.length : Int), 0) else ([], 0, 1)) else ([], 0, 140)) := by
  unfold atticref21_All.f
  rw [check' l hU (by omega), Option.bind_some]
  cases hg : goodT l with
  | false => rfl
  | true =>
    have hl := good_len hg
    simp only [if_true]
    by_cases he : ws.length = l.length
    · rw [if_pos (by omega), if_pos he]
      have := rall_l0 l ws hU hW hl.2 he l.length 0 0 (k - l.length - 1) (by omega) (by omega) (by omega)
      rw [show l.length + 1 + (k - l.length - 1) = k from by omega] at this
      simpa using this
    · rw [if_neg (by omega), if_neg he]
theorem tsame_l0 (l : List Ent) (hl : l.length ≤ 256) : ∀ (m i fuel : Nat), i + m = l.length → atticref14_Same.l0 (m + 1 + fuel) (i : Int) l l = some true := by
  intro m
  induction m with
  | zero => intro i fuel hi; rw [show 0 + 1 + fuel = fuel + 1 from by omega, atticref14_Same.l0, if_neg (by omega)]
  | succ m ih =>
    intro i fuel hi
    have ih' := ih (i + 1) fuel (by omega)
    rw [show m + 1 + 1 + fuel = (m + 1 + fuel) + 1 from by omega, atticref14_Same.l0, if_pos (by omega), if_pos (by omega), if_pos (by omega), wsucc (by omega), ih']
    simp
theorem tsame (l : List Ent) (hl : l.length ≤ 256) {k : Nat} (hk : 500 ≤ k) : atticref14_Same.f k l l = some true := by
  unfold atticref14_Same.f
  rw [if_pos rfl]
  have := tsame_l0 l hl l.length 0 (k - l.length - 1) (by omega)
  rw [show l.length + 1 + (k - l.length - 1) = k from by omega] at this
  exact this

theorem SweepTables : atticlaw21_SweepTables.UptoPure := by
  rintro ⟨l⟩ ws ms ⟨g0, g1⟩ ⟨h0, h1⟩ ⟨h2, h3⟩ hb
  rw [ones_sum, ones_sum] at hb
  have hU : U l := U_of g1
  have hW : UW ws := UW_of h1
  refine ⟨100000000, ?_⟩
  unfold atticlaw21_SweepTables.f
  rw [words ms (by omega) (by omega), Option.bind_some, rwords ms (by omega) (by omega), Option.bind_some, all l ws hU hW (by omega), Option.bind_some, rall l ws hU hW (by omega), Option.bind_some, live (by omega), Option.bind_some, if_pos rfl]
  have hlw : (if ms.length % 32 = 0 then (wordsN ms (ms.length / 32) ms.length, (0 : Int)) else ([], 1)).1.length ≤ 50000000 := by
    split
    · rw [wordsN_len]; omega
    · simp
  have hlt : (if goodT l then (if ws.length = l.length then (List.zipWith sweepX l ws, (freed l ws 0 l.length : Int), (0 : Int)) else ([], 0, 1)) else ([], 0, 140)).1.length ≤ 256 := by
    cases hg : goodT l with
    | false => simp
    | true =>
      have hl := good_len hg
      simp only [if_true]
      split
      · simp; omega
      · simp
  generalize (if ms.length % 32 = 0 then (wordsN ms (ms.length / 32) ms.length, (0 : Int)) else ([], 1)) = p at hlw
  generalize (if goodT l then (if ws.length = l.length then (List.zipWith sweepX l ws, (freed l ws 0 l.length : Int), (0 : Int)) else ([], 0, 1)) else ([], 0, 140)) = q at hlt
  rw [eqw _ (Nat.le_trans hlw (by omega)) (Nat.le_trans (Nat.succ_le_succ hlw) (by omega)), Option.bind_some, if_pos rfl, if_pos rfl, marks ws hW (by omega) (by omega), Option.bind_some, rmarks ws hW (by omega) (by omega), Option.bind_some, eqb _ (by rw [marksN_len]; omega) (by rw [marksN_len]; omega), Option.bind_some, if_pos rfl, tsame _ hlt (by omega), Option.bind_some, if_pos rfl, if_pos rfl]
  simp

end Go.Proofs.Ytkakobppgpfndaa.Pure
