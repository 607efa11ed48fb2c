/- Assign, Put and Taken in plain lists; the beginning of each law of layer 14. -/
import Derived.Test.YtdjajecgojndfaaPrint
import Derived.Test.YtdjajecgojndfaaPureT14
namespace Go.Proofs.Ytdjajecgojndfaa.Pure
open Go.RowKit Go.Proofs.Ytdjajecgojndfaa.Print Go.Proofs.YtdjajecgojndfaaW.PrintWords Go.Proofs.YtdjajecgojndfaaW.PrintMore
set_option linter.unusedSimpArgs false
set_option linter.unusedVariables false


theorem begun {k : Nat} (hk : 300 ≤ k) : atticlaw14_begun.f k = some true := by
  refine up (fun k => atticlaw14_begun.mono k) hk ?_
  decide +kernel

/-! ### any slot's bit -/
def bitAt (a : Nat) (s : Int) : Bool := decide (0 ≤ s) && (decide (s < 32) && a.testBit s.toNat)
theorem bitAt_in {a : Nat} {s : Int} (h0 : 0 ≤ s) (h1 : s < 32) : bitAt a s = a.testBit s.toNat := by simp [bitAt, h0, h1]
theorem bitAt_out {a : Nat} {s : Int} (h : s < 0 ∨ 32 ≤ s) : bitAt a s = false := by
  unfold bitAt
  rcases h with h | h
  · rw [decide_eq_false (by omega : ¬ 0 ≤ s)]; rfl
  · rw [decide_eq_false (by omega : ¬ s < 32)]; simp
theorem get_any (a : Nat) (s : Int) (h0 : -9223372036854775808 ≤ s) (h1 : s ≤ 9223372036854775807) : bits_Get.f (row a) s = some (bitAt a s) := by
  by_cases hin : 0 ≤ s ∧ s < 32
  · rw [bitAt_in hin.1 hin.2]
    obtain ⟨i, rfl⟩ : ∃ i : Nat, s = (i : Int) := ⟨s.toNat, by omega⟩
    rw [get_bit a i (by omega), Int.toNat_natCast]
  · rw [bitAt_out (by omega)]
    have ht : bits_there.f (row a) s = some false := by
      unfold bits_there.f
      by_cases hs : s ≥ 0
      · rw [if_pos hs]
        have e : Int.tdiv s 8 = s / 8 := Int.tdiv_eq_ediv_of_nonneg hs
        rw [e, w64 (by omega) (by omega), decide_eq_false]
        simp only [row, List.length_cons, List.length_nil]; omega
      · rw [if_neg hs]
    rw [bits_Get.f, ht, Option.bind_some, if_neg (by decide)]
/-! ### copies, sameness -/
theorem clone (l : List Ent) (hl : l.length ≤ 400) : table_Clone.f l = some l := by
  rw [table_Clone.f, clone_api_Entry.f, if_pos (by omega)]; rfl
/-! ### an extent of a table -/
theorem withT (l : List Ent) (h : U l) (hl : l.length ≤ 400) (e : Int) {k : Nat} (hk : 100 ≤ k) : table_with.f k l e = some (if goodT l then (if 0 ≤ e ∧ e < l.length then (l, 0) else ([], 1)) else ([], 140)) := by
  rw [table_with.f, check l h hk, Option.bind_some]
  cases goodT l with
  | false => rfl
  | true =>
    rw [if_pos rfl, if_pos rfl, if_pos rfl]
    by_cases h0 : e < 0
    · rw [if_pos h0, if_neg (by omega)]
    · rw [if_neg h0]
      by_cases h1 : e ≥ (l.length : Int)
      · rw [if_pos h1, if_neg (by omega)]
      · rw [if_neg h1, clone l hl, if_pos (by omega)]; rfl
def asg (l : List Ent) (e c : Int) : List Ent × Int :=
  if goodT l then (if 0 ≤ e ∧ e < l.length then (if c < -1 ∨ 6 ≤ c then ([], 1) else if (rd_T34 l e).f1 = 0 then (l.set e.toNat ⟨c, 0⟩, 0) else ([], 7)) else ([], 1)) else ([], 140)
theorem assign (l : List Ent) (h : U l) (hl : l.length ≤ 400) (e c : Int) {k : Nat} (hk : 100 ≤ k) : table_Assign.f k l e c = some (asg l e c) := by
  obtain ⟨k, rfl⟩ : ∃ k', k = k' + 1 := ⟨k - 1, by omega⟩
  rw [table_Assign.f, withT l h hl e hk, Option.bind_some, asg]
  cases goodT l with
  | false => rfl
  | true =>
    rw [if_pos rfl, if_pos rfl]
    by_cases he : 0 ≤ e ∧ e < l.length
    · rw [if_pos he, if_pos he, if_pos rfl]
      by_cases h0 : c < -1
      · rw [if_pos h0, if_pos (Or.inl h0), table_Assign.j0, if_pos rfl]
      · rw [if_neg h0, table_Assign.j0]
        by_cases h1 : c ≥ 6
        · rw [decide_eq_true h1, if_pos rfl, if_pos (Or.inr h1)]
        · rw [decide_eq_false h1, if_neg (by decide), if_neg (show ¬ (c < -1 ∨ 6 ≤ c) by omega), if_pos he.1, if_pos he.2]
          by_cases hz : (rd_T34 l e).f1 = 0
          · rw [if_pos hz, if_pos hz, hz]
          · rw [if_neg hz, if_neg hz]
    · rw [if_neg he, if_neg he]; rfl
theorem asg_len (l : List Ent) (hl : l.length ≤ 400) (e c : Int) : (asg l e c).1.length ≤ 400 := by
  unfold asg; (repeat' split) <;> simp <;> omega

/-! ### Put, Taken -/
def put (l : List Ent) (e s : Int) (is : Bool) : List Ent × Int :=
  if goodT l then (if 0 ≤ e ∧ e < l.length then (if s < 0 ∨ slots (rd_T34 l e).f0 ≤ s then ([], 1) else
    if is = bitAt (rd_T34 l e).f1.toNat s then (if is then ([], 7) else ([], 4)) else (l.set e.toNat ⟨(rd_T34 l e).f0, Go.bits .xor .u32 (rd_T34 l e).f1 (shl .u32 1 s)⟩, 0)) else ([], 1)) else ([], 140)
theorem put_len (l : List Ent) (hl : l.length ≤ 400) (e s : Int) (is : Bool) : (put l e s is).1.length ≤ 400 := by
  unfold put; (repeat' split) <;> simp <;> omega
theorem cls {x : Ent} (h : okX x = true) : -1 ≤ x.f0 ∧ x.f0 < 6 := by
  unfold okX okE at h; simp at h; exact ⟨h.1, h.2.1⟩
theorem rd_in {l : List Ent} {e : Int} (he : 0 ≤ e ∧ e < l.length) : rd_T34 l e ∈ l := by
  obtain ⟨i, rfl⟩ : ∃ i : Nat, e = (i : Int) := ⟨e.toNat, by omega⟩
  rw [rd_ent l i (by omega)]; exact List.getElem_mem _
theorem putT (l : List Ent) (h : U l) (hl : l.length ≤ 400) (e s : Int) (is : Bool) (s0 : -9223372036854775808 ≤ s) (s1 : s ≤ 9223372036854775807) {k : Nat} (hk : 100 ≤ k) : table_Put.f k l e s is = some (put l e s is) := by
  rw [table_Put.f, withT l h hl e hk, Option.bind_some, put]
  cases hg : goodT l with
  | false => rfl
  | true =>
    rw [if_pos rfl, if_pos rfl]
    by_cases he : 0 ≤ e ∧ e < l.length
    · have hx := rd_in he
      obtain ⟨c0, c1⟩ := cls (good_all hg _ hx)
      obtain ⟨ea, hal⟩ := nat_of (h _ hx)
      rw [if_pos he, if_pos he, if_pos rfl, if_pos he.1, if_pos he.2]
      have hr : table_row.f (rd_T34 l e).f0 (rd_T34 l e).f1 = some (row (rd_T34 l e).f1.toNat) := by
        conv => lhs; rw [ea]
        exact row_eq _ _
      rw [hr, Option.bind_some, get_any _ s s0 s1, Option.bind_some]
      by_cases h0 : s < 0
      · rw [if_pos h0, if_pos (Or.inl h0)]
      · rw [if_neg h0, geom_slots _ c0 c1, Option.bind_some]
        by_cases h1 : s ≥ (slots (rd_T34 l e).f0 : Int)
        · rw [if_pos h1, if_pos (Or.inr h1)]
        · rw [if_neg h1, if_neg (show ¬ (s < 0 ∨ (slots (rd_T34 l e).f0 : Int) ≤ s) by omega)]
          have h2 : 0 ≤ s := by omega
          cases is <;> cases bitAt (rd_T34 l e).f1.toNat s <;> simp [h2]
    · rw [if_neg he, if_neg he]; rfl
def tkn (l : List Ent) (e s : Int) : Bool := goodT l && (decide (0 ≤ e ∧ e < l.length) && bitAt (rd_T34 l e).f1.toNat s)
theorem takenT (l : List Ent) (h : U l) (e s : Int) (s0 : -9223372036854775808 ≤ s) (s1 : s ≤ 9223372036854775807) {k : Nat} (hk : 100 ≤ k) : table_Taken.f k l e s = some (tkn l e s) := by
  rw [table_Taken.f, check l h hk, Option.bind_some, tkn]
  cases hg : goodT l with
  | false => rfl
  | true =>
    rw [if_pos rfl, if_pos rfl]
    by_cases h0 : e ≥ 0
    · rw [if_pos h0]
      by_cases h1 : e < (l.length : Int)
      · have hx := rd_in ⟨h0, h1⟩
        obtain ⟨ea, hal⟩ := nat_of (h _ hx)
        have hr : table_row.f (rd_T34 l e).f0 (rd_T34 l e).f1 = some (row (rd_T34 l e).f1.toNat) := by
          conv => lhs; rw [ea]
          exact row_eq _ _
        rw [if_pos h1, if_pos h0, hr, Option.bind_some, get_any _ s s0 s1, Option.bind_some, decide_eq_true ⟨h0, h1⟩]; rfl
      · rw [if_neg h1, decide_eq_false (by omega)]; rfl
    · rw [if_neg h0, decide_eq_false (by omega)]; rfl
end Go.Proofs.Ytdjajecgojndfaa.Pure
