/- Which tables may be, which are the same, new ones, what a class has, which slots are taken: the law's pure part. -/
import Derived.Test.YtdjajecgojndfaaPrint
import Derived.Test.YtdjajecgojndfaaPureR14
import Derived.Test.YtdjajecgojndfaaPureCounts
namespace Go.Proofs.Ytdjajecgojndfaa.Pure
open Go.RowKit Go.Proofs.Ytdjajecgojndfaa.Print Go.Proofs.YtdjajecgojndfaaW.PrintWords Go.Proofs.YtdjajecgojndfaaW.PrintMore
set_option linter.unusedSimpArgs false
set_option linter.unusedVariables false

abbrev Slo := S56
theorem rd_slo (l : List Slo) (i : Nat) (h : i < l.length) : rd_T56 l (i : Int) = l[i] := by simp [rd_T56, h]
/-! ### which are the same -/
theorem sames_l0 (l m : List Ent) (hl : l.length ≤ 400) (he : l.length = m.length) : ∀ (n i fuel : Nat), i + n = l.length →
    ∃ b, api_Entry_55.l0 (n + 1 + fuel) l m (l.length : Int) (i : Int) = some b ∧ atticref14_Same.l0 (n + 1 + fuel) (i : Int) l m = some b
  | 0, i, fuel, h => by
    refine ⟨true, ?_, ?_⟩
    · rw [show 0 + 1 + fuel = fuel + 1 from by omega, api_Entry_55.l0, if_neg (by omega)]
    · rw [show 0 + 1 + fuel = fuel + 1 from by omega, atticref14_Same.l0, if_neg (by omega)]
  | n + 1, i, fuel, h => by
    obtain ⟨b, h1, h2⟩ := sames_l0 l m hl he n (i + 1) fuel (by omega)
    rw [show n + 1 + 1 + fuel = (n + 1 + fuel) + 1 from by omega]
    by_cases hd : (!((rd_T34 l i).f0 == (rd_T34 m i).f0) || !((rd_T34 l i).f1 == (rd_T34 m i).f1)) = true
    · refine ⟨false, ?_, ?_⟩
      · rw [api_Entry_55.l0, if_pos (by omega), if_pos (by omega), if_pos (by omega), if_pos (by omega), if_pos hd]
      · rw [atticref14_Same.l0, if_pos (by omega), if_pos (by omega), if_pos (by omega), if_pos hd]
    · refine ⟨b, ?_, ?_⟩
      · rw [api_Entry_55.l0, if_pos (by omega), if_pos (by omega), if_pos (by omega), if_pos (by omega), if_neg hd, wsucc (by omega), h1]
      · rw [atticref14_Same.l0, if_pos (by omega), if_pos (by omega), if_pos (by omega), if_neg hd, wsucc (by omega), h2]
theorem sames (l m : List Ent) (hl : l.length ≤ 400) {k : Nat} (hk : 500 ≤ k) : ∃ b, table_Same.f k l m = some b ∧ atticref14_Same.f k l m = some b := by
  rw [table_Same.f, api_Entry_55.f, atticref14_Same.f]
  by_cases he : l.length = m.length
  · obtain ⟨b, h1, h2⟩ := sames_l0 l m hl he l.length 0 (k - l.length - 1) (by omega)
    rw [show l.length + 1 + (k - l.length - 1) = k from by omega] at h1 h2
    refine ⟨b, ?_, ?_⟩
    · rw [if_pos (by omega), show (0 : Int) = ((0 : Nat) : Int) from rfl, h1, Option.bind_some]
    · rw [if_pos (by omega), show (0 : Int) = ((0 : Nat) : Int) from rfl, h2]
  · exact ⟨false, by rw [if_neg (by omega)]; rfl, by rw [if_neg (by omega)]⟩
/-! ### new ones -/
theorem new_l0 (a : Nat) (ha : a ≤ 256) : ∀ (m i fuel : Nat), i + m = a → atticref14_New.l0 (m + 1 + fuel) (a : Int) (i : Int) (List.replicate i ⟨-1, 0⟩) = some (List.replicate a ⟨-1, 0⟩, 0)
  | 0, i, fuel, h => by
    obtain rfl : i = a := by omega
    rw [show 0 + 1 + fuel = fuel + 1 from by omega, atticref14_New.l0, if_neg (by omega)]
  | m + 1, i, fuel, h => by
    rw [show m + 1 + 1 + fuel = (m + 1 + fuel) + 1 from by omega, atticref14_New.l0, if_pos (by omega), if_pos (by rw [List.length_replicate]; omega), wsucc (by omega), ← List.replicate_succ', new_l0 a ha m (i + 1) fuel (by omega)]
theorem news (a : Int) {k : Nat} (hk : 500 ≤ k) : ∃ l e, table_New.f a = some (l, e) ∧ atticref14_New.f k a = some (l, e) ∧ l.length ≤ 400 := by
  obtain ⟨k, rfl⟩ : ∃ k', k = k' + 1 := ⟨k - 1, by omega⟩
  rw [table_New.f, atticref14_New.f]
  by_cases h0 : a < 1
  · exact ⟨[], 1, by rw [if_pos (Or.inl h0)], by rw [if_pos h0, atticref14_New.j0, if_pos rfl], by simp⟩
  · by_cases h1 : a > 256
    · exact ⟨[], 1, by rw [if_pos (Or.inr h1)], by rw [if_neg h0, atticref14_New.j0, decide_eq_true h1, if_pos rfl], by simp⟩
    · have h2 := new_l0 a.toNat (by omega) a.toNat 0 (k - a.toNat - 1) (by omega)
      rw [show a.toNat + 1 + (k - a.toNat - 1) = k from by omega, show (a.toNat : Int) = a from by omega] at h2
      refine ⟨List.replicate a.toNat ⟨-1, 0⟩, 0, by rw [if_neg (by omega)], ?_, by rw [List.length_replicate]; omega⟩
      rw [if_neg h0, atticref14_New.j0, decide_eq_false h1, if_neg (by decide)]
      exact h2
/-! ### what a class has -/
theorem slots_out {c : Int} (h : ¬ (-1 ≤ c ∧ c < 6)) : slots c = 0 := by
  unfold slots
  rw [if_neg (by omega), if_neg (by omega), if_neg (by omega), if_neg (by omega), if_neg (by omega), if_neg (by omega)]
theorem geom_slots_any (c : Int) : geom_Slots.f c = some (slots c : Int) := by
  by_cases h : -1 ≤ c ∧ c < 6
  · exact geom_slots c h.1 h.2
  · have hw : geom_within.f c 0 5 = some false := by
      unfold geom_within.f
      by_cases h0 : c ≥ 0
      · rw [if_pos h0, decide_eq_false (by omega)]
      · rw [if_neg h0]
    rw [slots_out h, geom_Slots.f, geom_SlotBytes.f, hw]
    rfl
theorem ref_slots_any (c : Int) {k : Nat} (hk : 20 ≤ k) : atticref04_Slots.f k c = some (slots c : Int) := by
  by_cases h : -1 ≤ c ∧ c < 6
  · exact ref_slots' c h.1 h.2 hk
  · obtain ⟨k, rfl⟩ : ∃ k', k = k' + 1 := ⟨k - 1, by omega⟩
    have hb : atticref04_SlotBytes.f (k + 1) c = some 0 := by
      rw [atticref04_SlotBytes.f]
      by_cases h0 : c < 0
      · rw [if_pos h0, atticref04_SlotBytes.j0, if_pos rfl]
      · rw [if_neg h0, atticref04_SlotBytes.j0, decide_eq_true (by omega), if_pos rfl]
    rw [slots_out h, atticref04_Slots.f, hb, Option.bind_some, if_pos rfl]
    rfl
theorem count_any (l : List Ent) (h : U l) (hl : l.length ≤ 400) (c : Int) {k : Nat} (hk : 100 ≤ k) :
    table_Count.f k l c = some (if goodT l then ((Ec l c : Int), ((Ec l c * slots c : Nat) : Int), (Tc l c : Int)) else (0, 0, 0)) := by
  rw [table_Count.f, check l h hk, Option.bind_some]
  cases goodT l with
  | false => rfl
  | true => rw [if_pos rfl, if_pos rfl, if_pos rfl, geom_slots_any c, Option.bind_some, sum_all l hl c]
theorem cnt_range (p : Nat → Bool) : ∀ m n, (List.range' n m).countP p = cnt p n m
  | 0, _ => rfl
  | m + 1, n => by rw [List.range'_succ, List.countP_cons, cnt_range p m (n + 1), cnt]; omega
theorem nb_cnt (x : Ent) : nb x = cnt x.f1.toNat.testBit 0 32 := by rw [nb, List.range_eq_range', cnt_range]
/-- The slots of a class that are taken, as the document counts them. -/
def Hc (l : List Ent) (c : Int) : Nat := (l.map fun x => if x.f0 = c then nb x else 0).sum
theorem Ec_cons (x : Ent) (l : List Ent) (c : Int) : Ec (x :: l) c = Ec l c + if x.f0 = c then 1 else 0 := by
  rw [Ec, List.countP_cons, Ec]; by_cases h : x.f0 = c <;> simp [h]
theorem Hc_cons (x : Ent) (l : List Ent) (c : Int) : Hc (x :: l) c = (if x.f0 = c then nb x else 0) + Hc l c := by
  rw [Hc, List.map_cons, List.sum_cons, Hc]
theorem nb_le (x : Ent) : nb x ≤ 32 := by rw [nb_cnt]; exact cnt_le _ _ _
theorem Hc_le (c : Int) : ∀ l : List Ent, Hc l c ≤ 32 * l.length
  | [] => by simp [Hc]
  | x :: l => by
    have := Hc_le c l
    have h := nb_le x
    unfold Hc at this ⊢
    rw [List.map_cons, List.sum_cons, List.length_cons]
    split <;> omega
theorem hits_upto (l : List Ent) (h : U l) (c : Int) : ∀ i, i ≤ l.length → (all14.upto l i).countP (fun x => (rd_T34 l x.1).f0 == c) = ((l.take i).map fun x => if x.f0 = c then nb x else 0).sum
  | 0, _ => by simp [all14.upto]
  | i + 1, hi => by
    have ih := hits_upto l h c i (by omega)
    have hx : rd_T34 l (i : Int) = l[i] := rd_ent l i (by omega)
    rw [all14.upto, List.range_succ, List.flatMap_append, List.countP_append, List.take_add_one, List.map_append, List.sum_append, List.getElem?_eq_getElem (by omega)]
    rw [show ((List.range i).flatMap fun j => all14.ones j (rd_T34 l (j : Int)) 32).countP (fun x => (rd_T34 l x.1).f0 == c) = (all14.upto l i).countP (fun x => (rd_T34 l x.1).f0 == c) from rfl, ih]
    simp only [List.flatMap_cons, List.flatMap_nil, List.append_nil, hx, Option.toList_some, List.map_cons, List.map_nil, List.sum_cons, List.sum_nil, Nat.add_zero]
    congr 1
    have hn := ones_len l[i] (h _ (List.getElem_mem _)) i
    have hc : ∀ y ∈ all14.ones i l[i] 32, ((rd_T34 l y.1).f0 == c) = (l[i].f0 == c) := by
      intro y hy
      rw [all14.ones, List.mem_map] at hy
      obtain ⟨j, _, rfl⟩ := hy
      show ((rd_T34 l (i : Int)).f0 == c) = _
      rw [hx]
    rw [List.countP_congr (q := fun _ => l[i].f0 == c) (fun y hy => by rw [hc y hy])]
    by_cases e : l[i].f0 = c
    · rw [if_pos e, ← hn]
      simp [e]
    · rw [if_neg e]
      simp [e]
theorem Tc_Hc (l : List Ent) (h : U l) (c : Int) : Tc l c = Hc l c := by
  have h1 := hits_upto l h c l.length (Nat.le_refl _)
  rw [List.take_length] at h1
  rw [Tc, Ls, all14.L, if_pos rfl, List.countP_append, h1, Hc, all14.ones]; simp
theorem hasE (l : List Ent) (h : U l) (i j : Nat) (hi : i < l.length) (hj : j < 32) : atticref14_has.f (rd_T34 l (i : Int)).f1 (j : Int) = some (l[i].f1.toNat.testBit j) := by
  obtain ⟨e, hl⟩ := nat_of (h _ (List.getElem_mem hi))
  rw [rd_ent l i hi]
  conv => lhs; rw [e]
  exact has _ j hj
theorem count_l1 (l : List Ent) (h : U l) (hl : l.length ≤ 400) (c : Int) (i : Nat) (hi : i < l.length) : ∀ (n j fuel e t g : Nat), j + n = 32 → g + n ≤ 100000 →
    atticref14_Count.l1 (n + 1 + fuel) c (i : Int) (j : Int) l (e : Int) (t : Int) (g : Int) = atticref14_Count.l0 fuel c ((i + 1 : Nat) : Int) l (e : Int) (t : Int) ((g + cnt l[i].f1.toNat.testBit j n : Nat) : Int)
  | 0, j, fuel, e, t, g, hj, _ => by
    rw [show 0 + 1 + fuel = fuel + 1 from by omega, atticref14_Count.l1, if_neg (by omega), wsucc (by omega)]; rfl
  | n + 1, j, fuel, e, t, g, hj, hg => by
    rw [show n + 1 + 1 + fuel = (n + 1 + fuel) + 1 from by omega, atticref14_Count.l1, if_pos (by omega), if_pos (by omega), if_pos (by omega), hasE l h i j hi (by omega), Option.bind_some, wsucc (by omega), cnt]
    cases hb : l[i].f1.toNat.testBit j with
    | true =>
      rw [if_pos rfl, if_pos rfl, wsucc (by omega), count_l1 l h hl c i hi n (j + 1) fuel e t (g + 1) (by omega) (by omega), Nat.add_assoc]
    | false =>
      rw [if_neg (by decide), if_neg (by decide), count_l1 l h hl c i hi n (j + 1) fuel e t g (by omega) (by omega), Nat.zero_add]
theorem count_l0 (l : List Ent) (h : U l) (hl : l.length ≤ 400) (c : Int) : ∀ (m i fuel e t g : Nat), i + m = l.length → 20 ≤ fuel → e + m ≤ 400 → t + 32 * m ≤ 20000 → g + 32 * m ≤ 20000 →
    atticref14_Count.l0 (34 * m + 1 + fuel) c (i : Int) l (e : Int) (t : Int) (g : Int) = some (((e + Ec (l.drop i) c : Nat) : Int), ((t + Ec (l.drop i) c * slots c : Nat) : Int), ((g + Hc (l.drop i) c : Nat) : Int))
  | 0, i, fuel, e, t, g, hi, hf, _, _, _ => by
    rw [show 34 * 0 + 1 + fuel = fuel + 1 from by omega, atticref14_Count.l0, if_neg (by omega), List.drop_of_length_le (by omega)]
    simp [Ec, Hc]
  | m + 1, i, fuel, e, t, g, hi, hf, he, ht, hg => by
    have hlt : i < l.length := by omega
    have hs := slots_le c
    rw [show 34 * (m + 1) + 1 + fuel = (32 + 1 + (34 * m + 1 + fuel)) + 1 from by omega, atticref14_Count.l0, if_pos (by omega), if_pos (by omega)]
    rw [List.drop_eq_getElem_cons hlt]
    by_cases hc : l[i].f0 = c
    · have e1 : Ec (l[i] :: l.drop (i + 1)) c = Ec (l.drop (i + 1)) c + 1 := by rw [Ec_cons, if_pos hc]
      have e2 : Hc (l[i] :: l.drop (i + 1)) c = nb l[i] + Hc (l.drop (i + 1)) c := by rw [Hc_cons, if_pos hc]
      have hn := nb_le l[i]
      rw [if_pos (by rw [rd_ent l i hlt]; exact hc), ref_slots_any c (by omega), Option.bind_some, wsucc (by omega), wadd (by omega), show (0 : Int) = ((0 : Nat) : Int) from rfl, count_l1 l h hl c i hlt 32 0 (34 * m + 1 + fuel) (e + 1) (t + slots c) g (by omega) (by omega), ← nb_cnt, count_l0 l h hl c m (i + 1) fuel (e + 1) (t + slots c) (g + nb l[i]) (by omega) hf (by omega) (by omega) (by omega), e1, e2]
      rw [Nat.add_mul, Nat.one_mul, show e + 1 + Ec (l.drop (i + 1)) c = e + (Ec (l.drop (i + 1)) c + 1) from by omega, show t + slots c + Ec (l.drop (i + 1)) c * slots c = t + (Ec (l.drop (i + 1)) c * slots c + slots c) from by omega, Nat.add_assoc g]
    · have e1 : Ec (l[i] :: l.drop (i + 1)) c = Ec (l.drop (i + 1)) c := by rw [Ec_cons, if_neg hc, Nat.add_zero]
      have e2 : Hc (l[i] :: l.drop (i + 1)) c = Hc (l.drop (i + 1)) c := by rw [Hc_cons, if_neg hc, Nat.zero_add]
      rw [if_neg (by rw [rd_ent l i hlt]; exact hc), wsucc (by omega), show 32 + 1 + (34 * m + 1 + fuel) = 34 * m + 1 + (33 + fuel) from by omega, count_l0 l h hl c m (i + 1) (33 + fuel) e t g (by omega) (by omega) (by omega) (by omega) (by omega), e1, e2]
theorem count' (l : List Ent) (h : U l) (hl : l.length ≤ 400) (c : Int) {k : Nat} (hk : 20000 ≤ k) :
    atticref14_Count.f k l c = some (if goodT l then ((Ec l c : Int), ((Ec l c * slots c : Nat) : Int), (Tc l c : Int)) else (0, 0, 0)) := by
  rw [atticref14_Count.f, check' l h (by omega), Option.bind_some]
  cases goodT l with
  | false => rfl
  | true =>
    have := count_l0 l h hl c l.length 0 (k - 34 * l.length - 1) 0 0 0 (by omega) (by omega) (by omega) (by omega) (by omega)
    rw [show 34 * l.length + 1 + (k - 34 * l.length - 1) = k from by omega] at this
    rw [if_pos rfl, if_pos rfl, if_pos rfl, show (0 : Int) = ((0 : Nat) : Int) from rfl, this, List.drop_zero, Tc_Hc l h c]
    simp only [Nat.zero_add]
/-! ### which slots are taken -/
def As (l : List Ent) : List (Int × Int) := if goodT l then Ls l else []
theorem As_len (l : List Ent) (hl : l.length ≤ 400) : (As l).length ≤ 12800 := by
  have := Ls_len l
  unfold As; split
  · omega
  · simp
theorem told' (l : List Ent) (h : U l) (hl : l.length ≤ 400) (m : Int) {k : Nat} (hk : 100 ≤ k) : told_All.f k l m = some (told14.of ((As l).take m.toNat)) := by
  rw [told_All.f, check l h hk, Option.bind_some, if_pos (by omega), As]
  cases goodT l with
  | false => rfl
  | true => rfl
theorem of_len (l : List (Int × Int)) : (told14.of l).length = l.length := by rw [told14.of, List.length_map]
theorem of_snoc (l : List (Int × Int)) (a b : Int) : told14.of l ++ [(⟨a, b⟩ : Slo)] = told14.of (l ++ [(a, b)]) := by simp [told14.of]
theorem all_l1 (l : List Ent) (h : U l) (hl : l.length ≤ 400) (i : Nat) (hi : i < l.length) : ∀ (n j fuel : Nat), j + n = 32 →
    atticref14_All.l1 (n + 1 + fuel) (told14.of (all14.L true l i j)) (i : Int) (j : Int) l = atticref14_All.l0 fuel (told14.of (all14.L true l (i + 1) 0)) ((i + 1 : Nat) : Int) l
  | 0, j, fuel, hj => by
    obtain rfl : j = 32 := by omega
    rw [show 0 + 1 + fuel = fuel + 1 from by omega, atticref14_All.l1, if_neg (by omega), wsucc (by omega), all14.L_row]
  | n + 1, j, fuel, hj => by
    have hL := cnt14.L_len true l i j
    have hb : all14.bit (rd_T34 l (i : Int)) j = l[i].f1.toNat.testBit j := by rw [rd_ent l i hi]; exact bit_is _ (h _ (List.getElem_mem hi)) j (by omega)
    rw [show n + 1 + 1 + fuel = (n + 1 + fuel) + 1 from by omega, atticref14_All.l1, if_pos (by omega), if_pos (by omega), if_pos (by omega), hasE l h i j hi (by omega), Option.bind_some, wsucc (by omega)]
    cases ht : l[i].f1.toNat.testBit j with
    | true =>
      rw [if_pos rfl, if_pos (by rw [of_len]; omega), of_snoc, ← all14.L_yes l i j (by rw [hb, ht]), all_l1 l h hl i hi n (j + 1) fuel (by omega)]
    | false =>
      rw [if_neg (by decide), ← all14.L_no true l i j (by rw [hb, ht]; rfl), all_l1 l h hl i hi n (j + 1) fuel (by omega)]
theorem all_l0 (l : List Ent) (h : U l) (hl : l.length ≤ 400) : ∀ (m i fuel : Nat), i + m = l.length → atticref14_All.l0 (34 * m + 1 + fuel) (told14.of (all14.L true l i 0)) (i : Int) l = some (told14.of (Ls l))
  | 0, i, fuel, hi => by
    obtain rfl : i = l.length := by omega
    rw [show 34 * 0 + 1 + fuel = fuel + 1 from by omega, atticref14_All.l0, if_neg (by omega), Ls]
  | m + 1, i, fuel, hi => by
    rw [show 34 * (m + 1) + 1 + fuel = (32 + 1 + (34 * m + 1 + fuel)) + 1 from by omega, atticref14_All.l0, if_pos (by omega)]
    exact (all_l1 l h hl i (by omega) 32 0 (34 * m + 1 + fuel) (by omega)).trans (all_l0 l h hl m (i + 1) fuel (by omega))
theorem all' (l : List Ent) (h : U l) (hl : l.length ≤ 400) {k : Nat} (hk : 20000 ≤ k) : atticref14_All.f k l = some (told14.of (As l)) := by
  rw [atticref14_All.f, check' l h (by omega), Option.bind_some, As]
  cases goodT l with
  | false => rfl
  | true =>
    have := all_l0 l h hl l.length 0 (k - 34 * l.length - 1) (by omega)
    rw [show 34 * l.length + 1 + (k - 34 * l.length - 1) = k from by omega, all14.L_zero] at this
    rw [if_pos rfl, if_pos rfl, if_pos rfl]
    exact this
theorem slot_l0 (l : List Slo) (hl : l.length ≤ 12800) : ∀ (m i fuel : Nat), i + m = l.length → atticref14_Slot.l0 (m + 1 + fuel) l l (l.length : Int) (i : Int) = some true
  | 0, i, fuel, h => by
    rw [show 0 + 1 + fuel = fuel + 1 from by omega, atticref14_Slot.l0, if_neg (by omega)]
  | m + 1, i, fuel, h => by
    rw [show m + 1 + 1 + fuel = (m + 1 + fuel) + 1 from by omega, atticref14_Slot.l0, if_pos (by omega), if_pos (by omega), if_pos (by omega), if_pos (by omega), if_neg (by simp), wsucc (by omega), slot_l0 l hl m (i + 1) fuel (by omega)]
theorem slot (l : List Slo) (hl : l.length ≤ 12800) {k : Nat} (hk : 20000 ≤ k) : atticref14_Slot.f k l l = some true := by
  have := slot_l0 l hl l.length 0 (k - l.length - 1) (by omega)
  rw [show l.length + 1 + (k - l.length - 1) = k from by omega] at this
  rw [atticref14_Slot.f, if_pos rfl]
  exact this
/-! ### the law -/
theorem TableIs : atticlaw14_TableIs.Pure := by
  rintro ⟨l⟩ ⟨m⟩ n c most ⟨h0, h1⟩ ⟨g0, g1⟩ hn hc hm
  have hU : U l := U_of h1
  have hm' : 0 ≤ most ∧ most ≤ 65535 := by
    simpa [Lit.wf, IntKind.min, IntKind.max, IntKind.signed, IntKind.bits] using hm
  refine ⟨30000, ?_⟩
  show atticlaw14_TableIs.f 30000 l m n c most = some true
  generalize hk : (30000 : Nat) = k
  have hk' : 30000 ≤ k := by omega
  clear hk
  rw [atticlaw14_TableIs.f, begun (by omega), Option.bind_some, if_pos rfl, atticlaw14_few.f, Option.bind_some]
  by_cases hl : (l.length : Int) ≤ 400
  · rw [decide_eq_true hl, if_pos rfl, atticlaw14_few.f, Option.bind_some]
    by_cases hm2 : (m.length : Int) ≤ 400
    · have hl' : l.length ≤ 400 := by omega
      obtain ⟨w, e, w1, w2, w3⟩ := news n (k := k) (by omega)
      obtain ⟨b, b1, b2⟩ := sames l m hl' (k := k) (by omega)
      obtain ⟨d, d1, d2⟩ := sames l l hl' (k := k) (by omega)
      obtain rfl : d = true := Option.some.inj (d2.symm.trans (same l hl' (by omega)))
      have hA := As_len l hl'
      rw [decide_eq_true hm2, if_pos rfl, w1, Option.bind_some, w2, Option.bind_some, check l hU (by omega), Option.bind_some, check' l hU (by omega), Option.bind_some, if_pos rfl, b1, Option.bind_some, b2, Option.bind_some, if_neg (by simp), d1, Option.bind_some, if_pos rfl, same w w3 (by omega), Option.bind_some, if_pos rfl, if_pos rfl, count_any l hU hl' c (by omega), Option.bind_some, count' l hU hl' c (by omega), Option.bind_some, if_neg (by simp), all' l hU hl' (by omega), Option.bind_some, told' l hU hl' 1048576 (by omega), Option.bind_some]
      rw [List.take_of_length_le (by omega), slot _ (by rw [of_len]; exact hA) (by omega), Option.bind_some, if_pos rfl, told' l hU hl' _ (by omega), Option.bind_some, w64 (by omega) (by omega), of_len]
      have hmn : mn ((As l).length : Int) most = if most < ((As l).length : Int) then most else ((As l).length : Int) := rfl
      have e1 : 0 ≤ mn ((As l).length : Int) most := by rw [hmn]; split <;> omega
      have e2 : mn ((As l).length : Int) most ≤ ((As l).length : Int) := by rw [hmn]; split <;> omega
      have e3 : (told14.of (As l)).take (mn ((As l).length : Int) most).toNat = told14.of ((As l).take most.toNat) := by
        rw [told14.of, told14.of, ← List.map_take, hmn]
        split
        · rfl
        · rw [Int.toNat_natCast, List.take_of_length_le (Nat.le_refl _), List.take_of_length_le (by omega)]
      rw [if_pos e1, if_pos e2, e3, slot _ (by rw [of_len]; exact Nat.le_trans (List.length_take_le' _ _) hA) (by omega), Option.bind_some]
    · rw [decide_eq_false hm2, if_neg (by decide)]; rfl
  · rw [decide_eq_false hl, if_neg (by decide)]; rfl
end Go.Proofs.Ytdjajecgojndfaa.Pure
