/- Which states may be: the check, and runs. -/
import Derived.Test.YtnmpmjbkelogaaaPrint
import Derived.Test.YtnmpmjbkelogaaaPureU19
namespace Go.Proofs.Ytnmpmjbkelogaaa.Pure
open Go.RowKit Go.Proofs.Ytnmpmjbkelogaaa.Print Go.Proofs.YtnmpmjbkelogaaaW.PrintWords Go.Proofs.YtnmpmjbkelogaaaW.PrintMore
set_option linter.unusedSimpArgs false
set_option linter.unusedVariables false

theorem chkMarks_false (lc : List Cel) : ∀ (m : List Bool) (j : Nat), chkMarks lc m j = false ↔ ∀ i, m.getD i false = true → (lc.getD (j + i) ⟨0, []⟩).f0 ≠ 0
  | [], j => ⟨fun _ i h => by simp at h, fun _ => rfl⟩
  | b :: m, j => by
    rw [chkMarks, Bool.or_eq_false_iff, chkMarks_false lc m (j + 1)]
    have e : (rd_T56 lc (j : Int)).f0 = (lc.getD j ⟨0, []⟩).f0 := rfl
    rw [e]
    constructor
    · rintro ⟨h1, h2⟩ i hi
      cases i with
      | zero =>
        rw [List.getD_cons_zero] at hi
        rw [hi, Bool.true_and] at h1
        exact of_decide_eq_false h1
      | succ i =>
        rw [List.getD_cons_succ] at hi
        have := h2 i hi
        rwa [show j + 1 + i = j + (i + 1) from by omega] at this
    · intro h
      refine ⟨?_, fun i hi => ?_⟩
      · cases b with
        | false => rfl
        | true => rw [Bool.true_and]; exact decide_eq_false (h 0 rfl)
      · have := h (i + 1) (by rw [List.getD_cons_succ]; exact hi)
        rwa [show j + (i + 1) = j + 1 + i from by omega] at this
theorem chkStack_false (lc : List Cel) (m : List Bool) (st : List Int) : ∀ (l : List Int) (j : Nat), chkStack lc m st l j = false ↔ ∀ i (h : i < l.length), isThere lc l[i] = true ∧ rdOf false m l[i] = true ∧ l[i] ∉ st.take (j + i)
  | [], j => ⟨fun _ i h => absurd h (Nat.not_lt_zero _), fun _ => rfl⟩
  | p :: l, j => by
    rw [chkStack, Bool.or_eq_false_iff, chkStack_false lc m st l (j + 1)]
    have e : (!isThere lc p || !rdOf false m p || (st.take j).contains p) = false ↔ isThere lc p = true ∧ rdOf false m p = true ∧ p ∉ st.take j := by
      cases isThere lc p <;> cases rdOf false m p <;> simp
    rw [e]
    constructor
    · rintro ⟨h1, h2⟩ i hi
      cases i with
      | zero => exact h1
      | succ i =>
        have := h2 i (by simpa using hi)
        rwa [show j + 1 + i = j + (i + 1) from by omega] at this
    · intro h
      refine ⟨h 0 (by simp), fun i hi => ?_⟩
      have := h (i + 1) (by simpa using hi)
      rwa [show j + (i + 1) = j + 1 + i from by omega] at this
theorem nodup_take (st : List Int) : (∀ i (h : i < st.length), st[i] ∉ st.take i) ↔ st.Nodup := by
  unfold List.Nodup
  rw [List.pairwise_iff_getElem]
  constructor
  · intro h i j hi hj hij e
    exact h j hj (List.mem_take_iff_getElem.2 ⟨i, by omega, e⟩)
  · intro h i hi hm
    obtain ⟨j, hj, e⟩ := List.mem_take_iff_getElem.1 hm
    exact h j i (by omega) hi (by omega) e
theorem chkBad_false {lc : List Cel} {lr : List Int} {room ph at_ : Int} {m : List Bool} {st : List Int} {sc : Bool} : chkBad lc lr room ph at_ m st sc = false ↔
    0 ≤ at_ ∧ at_ ≤ furth lc lr ph sc ∧ m.length = lc.length ∧ (st.length : Int) ≤ room ∧ ((ph = 2 ∨ ph = 3) → st = []) ∧ (sc = true → ph = 1) := by
  unfold chkBad
  simp only [Bool.or_eq_false_iff, decide_eq_false_iff_not, Decidable.not_not]
  constructor
  · rintro ⟨⟨⟨⟨⟨h1, h2⟩, h3⟩, h4⟩, h5⟩, h6⟩
    refine ⟨by omega, by omega, h3, by omega, fun h => ?_, fun h => ?_⟩
    · rw [decide_eq_true h, Bool.true_and] at h5
      have := of_decide_eq_false h5
      exact List.eq_nil_of_length_eq_zero (by omega)
    · rw [h, Bool.true_and] at h6
      have := of_decide_eq_false h6
      omega
  · rintro ⟨h1, h2, h3, h4, h5, h6⟩
    refine ⟨⟨⟨⟨⟨by omega, by omega⟩, h3⟩, by omega⟩, ?_⟩, ?_⟩
    · by_cases h : ph = 2 ∨ ph = 3
      · rw [h5 h]; simp
      · rw [decide_eq_false h]; rfl
    · cases sc with
      | false => rfl
      | true => rw [h6 rfl]; rfl
theorem rest_ok {lc : List Cel} {lr : List Int} {room ph at_ : Int} {m : List Bool} {st : List Int} {ov ag sc : Bool} (r0 : 1 ≤ room) (r1 : room ≤ 256) : chkRest lc lr room ph at_ m st sc = 0 ↔ Ok lc lr room ⟨ph, at_, m, st, ov, ag, sc⟩ := by
  unfold chkRest
  constructor
  · intro h
    have h1 : chkBad lc lr room ph at_ m st sc = false := by cases hb : chkBad lc lr room ph at_ m st sc with | false => rfl | true => rw [hb, if_pos rfl] at h; cases h
    rw [h1, if_neg Bool.false_ne_true] at h
    have h2 : chkMarks lc m 0 = false := by cases hb : chkMarks lc m 0 with | false => rfl | true => rw [hb, if_pos rfl] at h; cases h
    rw [h2, if_neg Bool.false_ne_true] at h
    have h3 : chkStack lc m st st 0 = false := by cases hb : chkStack lc m st st 0 with | false => rfl | true => rw [hb, if_pos rfl] at h; cases h
    obtain ⟨b1, b2, b3, b4, b5, b6⟩ := chkBad_false.1 h1
    have s := (chkStack_false lc m st st 0).1 h3
    refine ⟨⟨b3, b4, fun i hi => ?_, fun p hp => ?_, ?_⟩, r0, r1, b1, b2, b5, b6⟩
    · have := (chkMarks_false lc m 0).1 h2 i hi
      rwa [Nat.zero_add] at this
    · obtain ⟨i, hi, rfl⟩ := List.getElem_of_mem hp
      exact ⟨(s i hi).1, (s i hi).2.1⟩
    · refine (nodup_take st).1 fun i hi => ?_
      have := (s i hi).2.2
      rwa [Nat.zero_add] at this
  · rintro ⟨hB, _, _, b1, b2, b5, b6⟩
    rw [chkBad_false.2 ⟨b1, b2, hB.ml, hB.sl, b5, b6⟩, if_neg Bool.false_ne_true]
    rw [(chkMarks_false lc m 0).2 (fun i hi => by rw [Nat.zero_add]; exact hB.kd i hi), if_neg Bool.false_ne_true]
    rw [(chkStack_false lc m st st 0).2 (fun i hi => ⟨(hB.stk _ (List.getElem_mem hi)).1, (hB.stk _ (List.getElem_mem hi)).2, by rw [Nat.zero_add]; exact (nodup_take st).2 hB.nd i hi⟩), if_neg Bool.false_ne_true]
/-- Rounds enough for the view. -/
def Kv (lc : List Cel) (lr : List Int) (k : Nat) : Prop := mark_CheckView.f k lc lr = some (if viewB lc lr = true then 0 else 190)
theorem check_f {lc : List Cel} {lr : List Int} {k : Nat} (hk : Kv lc lr k) (hl : lc.length ≤ 281474976710656) (room : Int) (x : MS) :
    ∃ e, mark_Check.f k lc lr room x.ph x.at_ x.marks x.stack x.over x.again x.scan = some e ∧ (e = 0 ↔ viewB lc lr = true ∧ Ok lc lr room x) := by
  unfold mark_Check.f mark_New.f
  rw [hk, Option.bind_some]
  cases hv : viewB lc lr with
  | false => exact ⟨190, rfl, by simp⟩
  | true =>
    rw [if_pos rfl, if_pos rfl]
    by_cases h1 : room < 1
    · rw [if_pos h1]; exact ⟨1, rfl, ⟨fun h => absurd h (by decide), fun h => absurd h.2.r0 (by omega)⟩⟩
    · rw [if_neg h1]
      by_cases h2 : room > 256
      · rw [if_pos h2]; exact ⟨1, rfl, ⟨fun h => absurd h (by decide), fun h => absurd h.2.r1 (by omega)⟩⟩
      · rw [if_neg h2, if_pos (by omega), if_pos (by omega)]
        refine ⟨_, rfl, ?_⟩
        simp only [true_and]
        exact rest_ok (ov := x.over) (ag := x.again) (by omega) (by omega)
theorem kv_ev (lc : List Cel) (lr : List Int) (hG : VG lc) : ∃ K, ∀ k, K ≤ k → Kv lc lr k := view_f lc lr hG
theorem kc_ev (lc : List Cel) (h : ∀ c ∈ lc, c.f1.length < 17592186044416) : ∃ K, ∀ k, K ≤ k → Kc lc k := by
  induction lc with
  | nil => exact ⟨0, fun k _ c hc => by cases hc⟩
  | cons c lc ih =>
    obtain ⟨K, hK⟩ := ih (fun c hc => h c (List.mem_cons_of_mem _ hc))
    refine ⟨K + c.f1.length + 1, fun k hk d hd => ?_⟩
    rcases List.mem_cons.1 hd with rfl | hd
    · exact ⟨by omega, h _ List.mem_cons_self⟩
    · exact hK k (by omega) d hd
/-! ### runs -/
section
variable (lc : List Cel) (lr : List Int) (room : Int) (k : Nat)
def un (x : MS) : MS := (MS.unit (fun m j => mark_counts.f k lc lr m j) (fun m => pairedL lc m) lc.length lr room x).getD x
/-- So many units, if it is not done before; and how many. -/
def it : Nat → MS → MS × Nat
  | 0, x => (x, 0)
  | d + 1, x => if x.ph = 3 then (x, 0) else let q := it d (un lc lr room k x); (q.1, q.2 + 1)
end
variable {lc : List Cel} {lr : List Int} {room : Int} {k : Nat}
theorem un_ok (hv : viewB lc lr = true) (hk : Kc lc k) {x : MS} (hO : Ok lc lr room x) : MS.unit (fun m j => mark_counts.f k lc lr m j) (fun m => pairedL lc m) lc.length lr room x = some (un lc lr room k x) ∧ Ok lc lr room (un lc lr room k x) := by
  obtain ⟨y, h1, h2⟩ := unit_ok hv hk hO
  unfold un
  rw [h1]
  exact ⟨rfl, h2⟩
end Go.Proofs.Ytnmpmjbkelogaaa.Pure
