/- A table's entries, checked, swept and counted: what the printed functions of the layers 14 and 21 come to, in plain lists. -/
import Derived.Test.YtkakobppgpfndaaPrint
import Derived.Test.YtkakobppgpfndaaPureEntry
import Derived.Test.YtkakobppgpfndaaPureEntry14
import Derived.Test.YtkakobppgpfndaaPureLive
namespace Go.Proofs.Ytkakobppgpfndaa.Pure
open Go.RowKit Go.Proofs.Ytkakobppgpfndaa.Print Go.Proofs.YtkakobppgpfndaaW.PrintWords Go.Proofs.YtkakobppgpfndaaW.PrintMore
set_option linter.unusedSimpArgs false
set_option linter.unusedVariables false

abbrev Ent := S24
/-- The words of a table's entries are words. -/
def U (l : List Ent) : Prop := ∀ y ∈ l, 0 ≤ y.f1 ∧ y.f1 < 4294967296
theorem U_of {l : List Ent} (h : ∀ y ∈ l, G24 y) : U l := fun y hy => by have := u32_range (h y hy).2; omega
def okX (x : Ent) : Bool := okE x.f0 x.f1.toNat
def goodT (l : List Ent) : Bool := decide (1 ≤ l.length) && (decide (l.length ≤ 256) && l.all okX)
theorem rd_ent (l : List Ent) (i : Nat) (h : i < l.length) : rd_T24 l (i : Int) = l[i] := by simp [rd_T24, h]
theorem entryX (x : Ent) (h : 0 ≤ x.f1 ∧ x.f1 < 4294967296) {k : Nat} (hk : 100 ≤ k) : atticref14_Entry.f k x.f0 x.f1 = some (okX x) := by
  obtain ⟨e, hl⟩ := nat_of h
  rw [e]; exact entry _ _ hl hk

/-! ### Check -/
theorem any_check {k : Nat} (hk : 100 ≤ k) : ∀ l : List Ent, U l → any_table_Check_1.f k l = some (!l.all okX)
  | [], _ => rfl
  | x :: l, h => by
    have hx := h x List.mem_cons_self
    obtain ⟨e, hl⟩ := nat_of hx
    have hm : table_Check_1.f k x.f0 x.f1 = some (!okX x) := by
      unfold table_Check_1.f
      rw [e, may _ _ hl hk]
      simp [okX, okE]
    rw [any_table_Check_1.f, hm, Option.bind_some, any_check hk l (fun y hy => h y (List.mem_cons_of_mem _ hy)), List.all_cons]
    cases okX x <;> simp
theorem check (l : List Ent) (h : U l) {k : Nat} (hk : 100 ≤ k) : table_Check.f k l = some (if goodT l then 0 else 140) := by
  unfold table_Check.f goodT
  by_cases h1 : (l.length : Int) < 1
  · rw [if_pos h1, decide_eq_false (by omega : ¬ 1 ≤ l.length)]; rfl
  · rw [if_neg h1, decide_eq_true (by omega : 1 ≤ l.length)]
    by_cases h2 : (l.length : Int) > 256
    · rw [if_pos h2, decide_eq_false (by omega : ¬ l.length ≤ 256)]; rfl
    · rw [if_neg h2, decide_eq_true (by omega : l.length ≤ 256), any_check hk l h, Option.bind_some]
      cases l.all okX <;> rfl
theorem check_l0 (l : List Ent) (h : U l) (hl : l.length ≤ 256) : ∀ (m i fuel : Nat), i + m = l.length → 100 ≤ fuel → atticref14_Check.l0 (m + 1 + fuel) (i : Int) l = some (if (l.drop i).all okX then 0 else 140)
  | 0, i, fuel, hi, hf => by
    rw [show 0 + 1 + fuel = fuel + 1 from by omega, atticref14_Check.l0, if_neg (by omega), List.drop_of_length_le (by omega)]
    rfl
  | m + 1, i, fuel, hi, hf => by
    have hlt : i < l.length := by omega
    have hw : wrap64 ((i : Int) + 1) = ((i + 1 : Nat) : Int) := by rw [w64 (by omega) (by omega)]; rfl
    rw [show m + 1 + 1 + fuel = (m + 1 + fuel) + 1 from by omega, atticref14_Check.l0, if_pos (by omega), if_pos (by omega), rd_ent l i hlt, entryX _ (h _ (List.getElem_mem hlt)) (by omega), Option.bind_some, hw, check_l0 l h hl m (i + 1) fuel (by omega) hf, List.drop_eq_getElem_cons hlt, List.all_cons]
    cases okX l[i] <;> rfl
theorem check' (l : List Ent) (h : U l) {k : Nat} (hk : 500 ≤ k) : atticref14_Check.f k l = some (if goodT l then 0 else 140) := by
  obtain ⟨k, rfl⟩ : ∃ k', k = k' + 1 := ⟨k - 1, by omega⟩
  unfold atticref14_Check.f goodT
  by_cases h1 : (l.length : Int) < 1
  · rw [if_pos h1, decide_eq_false (by omega : ¬ 1 ≤ l.length), atticref14_Check.j0]; rfl
  · rw [if_neg h1, decide_eq_true (by omega : 1 ≤ l.length)]
    by_cases h2 : (l.length : Int) > 256
    · rw [decide_eq_true h2, decide_eq_false (by omega : ¬ l.length ≤ 256), atticref14_Check.j0]; rfl
    · have := check_l0 l h (by omega) l.length 0 (k - l.length - 1) (by omega) (by omega)
      rw [show l.length + 1 + (k - l.length - 1) = k from by omega] at this
      rw [decide_eq_false h2, decide_eq_true (by omega : l.length ≤ 256), atticref14_Check.j0, if_neg (by decide), show (0 : Int) = ((0 : Nat) : Int) from rfl, this]
      rfl
theorem good_len {l : List Ent} (h : goodT l = true) : 1 ≤ l.length ∧ l.length ≤ 256 := by
  unfold goodT at h; simp at h; exact ⟨h.1, h.2.1⟩
theorem good_all {l : List Ent} (h : goodT l = true) : ∀ x ∈ l, okX x = true := by
  unfold goodT at h; simp at h; exact h.2.2

/-! ### All -/
def sweepX (x : Ent) (w : Int) : Ent := ⟨(swept x.f0 x.f1.toNat w.toNat).1, (swept x.f0 x.f1.toNat w.toNat).2.1⟩
def sweepN (x : Ent) (w : Int) : Nat := if okX x then cnt (fun j => x.f1.toNat.testBit j && !w.toNat.testBit j) 0 32 else 0
theorem sweepN_le (x : Ent) (w : Int) : sweepN x w ≤ 32 := by unfold sweepN; split; exact cnt_le _ _ _; omega
theorem sweepE (x : Ent) (w : Int) (h : 0 ≤ x.f1 ∧ x.f1 < 4294967296) (hw : 0 ≤ w ∧ w < 4294967296) {k : Nat} (hk : 100 ≤ k) :
    sweep_Entry.f k x.f0 x.f1 w = some ((sweepX x w).f0, (sweepX x w).f1, (sweepN x w : Int)) := by
  obtain ⟨e, hl⟩ := nat_of h
  obtain ⟨e', hl'⟩ := nat_of hw
  have := sweep x.f0 x.f1.toNat w.toNat hl hl' hk
  rw [← e, ← e'] at this
  rw [this]
  unfold sweepX sweepN swept okX
  cases okE x.f0 x.f1.toNat <;> rfl
theorem sweepX_u {x : Ent} {w : Int} (h : 0 ≤ x.f1 ∧ x.f1 < 4294967296) : 0 ≤ (sweepX x w).f1 ∧ (sweepX x w).f1 < 4294967296 := by
  obtain ⟨e, hl⟩ := nat_of h
  have := and_lt x.f1.toNat w.toNat hl
  unfold sweepX swept
  cases okE x.f0 x.f1.toNat <;> simp <;> omega
/-- How much is freed of the entries from the i-th on, n of them. -/
def freed (l : List Ent) (ws : List Int) : Nat → Nat → Nat
  | _, 0 => 0
  | i, n + 1 => sweepN (rd_T24 l (i : Int)) (rd ws (i : Int)) + freed l ws (i + 1) n
theorem freed_le (l : List Ent) (ws : List Int) : ∀ n i, freed l ws i n ≤ 32 * n
  | 0, _ => Nat.le_refl _
  | n + 1, i => by have := freed_le l ws n (i + 1); have := sweepN_le (rd_T24 l (i : Int)) (rd ws (i : Int)); unfold freed; omega
theorem all_l0 (l : List Ent) (ws : List Int) (hU : U l) (hW : UW ws) (hl : l.length ≤ 256) (he : ws.length = l.length) : ∀ (m i s fuel : Nat) (cur : List Ent), i + m = l.length → 100 ≤ fuel → s ≤ 32 * i → cur.length = l.length →
    (∀ j (h : j < l.length) (h' : j < cur.length), i ≤ j → cur[j] = l[j]) → (∀ j (h : j < l.length) (h' : j < cur.length) (hw : j < ws.length), j < i → cur[j] = sweepX l[j] ws[j]) →
    sweep_All.l0 (m + 1 + fuel) (s : Int) ws (ws.length : Int) (i : Int) cur = some (List.zipWith sweepX l ws, ((s + freed l ws i m : Nat) : Int), 0) := by
  intro m
  induction m with
  | zero =>
    intro i s fuel cur hi hf hs hc h1 h2
    rw [show 0 + 1 + fuel = fuel + 1 from by omega, sweep_All.l0, if_neg (by omega)]
    have : cur = List.zipWith sweepX l ws := by
      refine List.ext_getElem (by simp [hc, he]) fun j ha hb => ?_
      rw [List.getElem_zipWith]
      exact h2 j (by omega) ha (by omega) (by omega)
    rw [this]
    rfl
  | succ m ih =>
    intro i s fuel cur hi hf hs hc h1 h2
    have hlt : i < l.length := by omega
    have hx : cur[i] = l[i] := h1 i hlt (by omega) (Nat.le_refl _)
    have hux := hU _ (List.getElem_mem hlt)
    have huw := hW _ (List.getElem_mem (show i < ws.length by omega))
    obtain ⟨q, hn, hq⟩ : ∃ q, q ≤ 32 ∧ Aside0 (sweepN l[i] ws[i] = q) := ⟨_, sweepN_le _ _, ⟨rfl⟩⟩
    rw [show m + 1 + 1 + fuel = (m + 1 + fuel) + 1 from by omega, sweep_All.l0, if_pos (by omega), if_pos (by omega), if_pos (by omega), if_pos (by omega), rd_ent cur i (by omega), rd_int ws i (by omega), hx, sweepE _ _ hux huw (by omega), Option.bind_some, wsucc (by omega), hq.out]
    simp only [wadd (show s + q < 1000000000 by omega), Int.toNat_natCast]
    refine (ih (i + 1) (s + q) fuel _ (by omega) hf (by omega) (by simp [hc]) ?_ ?_).trans ?_
    · intro j h h' hij
      rw [List.getElem_set_ne (by omega)]
      exact h1 j h (by omega) (by omega)
    · intro j h h' hwj hij
      rcases Nat.lt_or_ge j i with hji | hji
      · rw [List.getElem_set_ne (by omega)]
        exact h2 j h (by omega) hwj hji
      · obtain rfl : j = i := by omega
        rw [List.getElem_set_self]
    · rw [freed, rd_ent l i hlt, rd_int ws i (by omega), Nat.add_assoc, hq.out]
theorem all (l : List Ent) (ws : List Int) (hU : U l) (hW : UW ws) {k : Nat} (hk : 500 ≤ k) : sweep_All.f k l ws = some (if goodT l then (if ws.length = l.length then (List.zipWith sweepX l ws, (freed l ws 0 l.length : Int), 0) else ([], 0, 1)) else ([], 0, 140)) := by
  unfold sweep_All.f
  rw [check l hU (by omega), Option.bind_some]
  cases hg : goodT l with
  | false => rfl
  | true =>
    have hl := good_len hg
    simp only [if_true]
    by_cases he : ws.length = l.length
    · rw [if_pos (by omega), if_pos he, table_Clone.f, clone_api_Entry.f, if_pos (by omega), Option.bind_some, Option.bind_some]
      have := all_l0 l ws hU hW hl.2 he l.length 0 0 (k - l.length - 1) l (by omega) (by omega) (by omega) rfl (fun j h h' _ => rfl) (fun j h h' hw hj => absurd hj (by omega))
      rw [show l.length + 1 + (k - l.length - 1) = k from by omega] at this
      simpa using this
    · rw [if_neg (by omega), if_neg he]
theorem swept_U {l : List Ent} {ws : List Int} (h : U l) : U (List.zipWith sweepX l ws) := by
  intro y hy
  obtain ⟨j, hj, rfl⟩ := List.getElem_of_mem hy
  rw [List.getElem_zipWith]
  exact sweepX_u (h _ (List.getElem_mem _))

/-! ### what sweeping does to a good table -/
theorem ok_cls {x : Ent} (h : okX x = true) (hc : x.f0 = -1) : x.f1.toNat = 0 := by
  unfold okX okE at h
  rw [hc] at h
  simp [slots] at h
  omega
theorem sweepX_ok {x : Ent} {w : Int} (h : okX x = true) : sweepX x w = ⟨if x.f1.toNat &&& w.toNat = 0 then -1 else x.f0, ((x.f1.toNat &&& w.toNat : Nat) : Int)⟩ := by
  unfold okX at h
  unfold sweepX swept
  rw [h]
  rfl
theorem okX_swept {x : Ent} {w : Int} (h : okX x = true) : okX (sweepX x w) = true := by
  rw [sweepX_ok h]
  unfold okX okE at h ⊢
  simp at h
  simp only [Int.toNat_natCast]
  by_cases h0 : x.f1.toNat &&& w.toNat = 0
  · rw [if_pos h0, h0]; rfl
  · rw [if_neg h0]
    have : x.f1.toNat &&& w.toNat ≤ x.f1.toNat := Nat.and_le_left
    simp
    exact ⟨h.1, h.2.1, Nat.lt_of_le_of_lt this h.2.2⟩
theorem good_swept {l : List Ent} {ws : List Int} (h : goodT l = true) (he : ws.length = l.length) : goodT (List.zipWith sweepX l ws) = true := by
  have hl := good_len h
  have ha := good_all h
  unfold goodT
  rw [decide_eq_true (by simp [he]; omega), decide_eq_true (by simp [he]; omega)]
  simp only [Bool.true_and]
  rw [List.all_eq_true]
  intro y hy
  obtain ⟨j, hj, rfl⟩ := List.getElem_of_mem hy
  rw [List.getElem_zipWith]
  exact okX_swept (ha _ (List.getElem_mem _))
end Go.Proofs.Ytkakobppgpfndaa.Pure
