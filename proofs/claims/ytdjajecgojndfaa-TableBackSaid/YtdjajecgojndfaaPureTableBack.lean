/- An entry comes back from its bytes, a table from its blocks: the law's pure part. -/
import Derived.Test.YtdjajecgojndfaaPrint
import Derived.Test.YtdjajecgojndfaaPureG14
import Derived.Test.YtdjajecgojndfaaPureS14
namespace Go.Proofs.Ytdjajecgojndfaa.Pure
open Go.RowKit Go.Proofs.Ytdjajecgojndfaa.Print Go.Proofs.YtdjajecgojndfaaW.PrintWords Go.Proofs.YtdjajecgojndfaaW.PrintMore
set_option linter.unusedSimpArgs false
set_option linter.unusedVariables false

/-- What has been read back behind 'at' entries. -/
def Fm (l : List Ent) (p : Nat) : List Ent := l.take p ++ List.replicate (l.length - p) zE
theorem Fm_len (l : List Ent) (p : Nat) : (Fm l p).length = l.length := by rw [Fm, List.length_append, List.length_take, List.length_replicate]; omega
theorem Fm_all (l : List Ent) (p : Nat) (h : l.length ≤ p) : Fm l p = l := by rw [Fm, List.take_of_length_le h, Nat.sub_eq_zero_of_le h]; simp
theorem Fm_set (l : List Ent) (p : Nat) (h : p < l.length) : (Fm l p).set p l[p] = Fm l (p + 1) := by
  rw [Fm, Fm, List.set_append_right _ _ (by rw [List.length_take]; omega), List.length_take, Nat.min_eq_left (by omega), Nat.sub_self, show l.length - p = (l.length - (p + 1)) + 1 from by omega, List.replicate_succ, List.set_cons_zero, List.take_add_one, List.getElem?_eq_getElem h, List.append_assoc]
  rfl
def Pgs (l : List Ent) (n : Nat) : List (List Int) := (List.range n).map (pg l)
theorem Pgs_len (l : List Ent) (n : Nat) : (Pgs l n).length = n := by rw [Pgs, List.length_map, List.length_range]
theorem rd_pgs (l : List Ent) (n i : Nat) (h : i < n) : rd_L7 (Pgs l n) (i : Int) = pg l i := by
  have : i < (Pgs l n).length := by rw [Pgs_len]; exact h
  simp [rd_L7, Pgs, h]
theorem from_l1 (l : List Ent) (hU : U l) (hg : goodT l = true) (i n : Nat) (hi : i < 8) : ∀ (m j fuel : Nat), j + m = 32 → 100 ≤ fuel →
    table_From.l1 (2 * m + 1 + fuel) (l.length : Int) (i : Int) (pg l i) (Pgs l n) (n : Int) (i : Int) (j : Int) (Fm l (32 * i + j)) = table_From.l0 fuel (l.length : Int) (Pgs l n) (n : Int) ((i + 1 : Nat) : Int) (Fm l (32 * (i + 1)))
  | 0, j, fuel, hj, hf => by
    obtain rfl : j = 32 := by omega
    rw [show 2 * 0 + 1 + fuel = fuel + 1 from by omega, table_From.l1, if_neg (by omega), wsucc (by omega)]
    rfl
  | m + 1, j, fuel, hj, hf => by
    obtain ⟨g1, g2⟩ := good_len hg
    have hat : wrap64 (((32 * i : Nat) : Int) + (j : Int)) = ((32 * i + j : Nat) : Int) := wadd (by omega)
    have hE : gE l i j = bt (l.getD (32 * i + j) zE) := rfl
    rw [show 2 * (m + 1) + 1 + fuel = (2 * m + 1 + fuel + 1) + 1 from by omega, table_From.l1, if_pos (by omega), wmul8 (by omega), wsucc (by omega), wmul8 (by omega), if_pos (by omega), if_pos (by omega), if_pos (by rw [pg_len]; omega), Int.toNat_natCast, Int.toNat_natCast, pg_cut l i j (by omega), parse _ (by rw [hE]; exact By_bt _) (by omega), Option.bind_some, wmul32 (by omega), hat, hE]
    by_cases hl : 32 * i + j < l.length
    · have hmem := List.getElem_mem hl
      rw [getD_in hl, prs_bt _ (hU _ hmem) (good_all hg _ hmem)]
      simp only
      rw [if_pos trivial, if_neg (by omega), table_From.j2, if_neg (by decide), if_pos (by omega), if_pos (by omega), if_pos (by rw [Fm_len]; omega), wsucc (by omega), Int.toNat_natCast, show (⟨l[32 * i + j].f0, l[32 * i + j].f1⟩ : Ent) = l[32 * i + j] from rfl, Fm_set l _ hl, show 32 * i + j + 1 = 32 * i + (j + 1) from by omega, from_l1 l hU hg i n hi m (j + 1) fuel (by omega) hf]
    · have hz : l.getD (32 * i + j) zE = zE := by rw [List.getD_eq_getElem?_getD, List.getElem?_eq_none (by omega)]; rfl
      rw [hz, prs_bt zE (by decide) okX_z]
      simp only [zE]
      rw [if_pos trivial, if_pos (by omega), table_From.j2, if_neg (by decide), if_neg (by omega), wsucc (by omega), show Fm l (32 * i + j) = Fm l (32 * i + (j + 1)) from by rw [Fm_all l _ (by omega), Fm_all l _ (by omega)], from_l1 l hU hg i n hi m (j + 1) fuel (by omega) hf]
theorem from_l0 (l : List Ent) (hU : U l) (hg : goodT l = true) (n : Nat) (hn : n = (l.length + 31) / 32) : ∀ (m i fuel : Nat), i + m = n → 100 ≤ fuel →
    table_From.l0 (66 * m + 1 + fuel) (l.length : Int) (Pgs l n) (n : Int) (i : Int) (Fm l (32 * i)) = some (l, 0)
  | 0, i, fuel, hi, hf => by
    rw [show 66 * 0 + 1 + fuel = fuel + 1 from by omega, table_From.l0, if_neg (by omega), Fm_all l _ (by omega)]
  | m + 1, i, fuel, hi, hf => by
    obtain ⟨g1, g2⟩ := good_len hg
    rw [show 66 * (m + 1) + 1 + fuel = (2 * 32 + 1 + (66 * m + 1 + fuel)) + 1 from by omega, table_From.l0, if_pos (by omega), if_pos (by omega), if_pos (by rw [Pgs_len]; omega), rd_pgs l n i (by omega), pg_len, if_pos (by decide)]
    exact (from_l1 l hU hg i n (by omega) 32 0 (66 * m + 1 + fuel) (by omega) (by omega)).trans (from_l0 l hU hg n hn m (i + 1) fuel (by omega) hf)
theorem fromT (l : List Ent) (hU : U l) (hg : goodT l = true) {k : Nat} (hk : 700 ≤ k) : table_From.f k (l.length : Int) (Pgs l ((l.length + 31) / 32)) = some (l, 0) := by
  obtain ⟨g1, g2⟩ := good_len hg
  have h := from_l0 l hU hg _ rfl ((l.length + 31) / 32) 0 (k - 66 * ((l.length + 31) / 32) - 1) (by omega) (by omega)
  rw [show 66 * ((l.length + 31) / 32) + 1 + (k - 66 * ((l.length + 31) / 32) - 1) = k from by omega] at h
  rw [table_From.f, table_New.f, if_neg (by omega), Option.bind_some, Int.toNat_natCast]
  simp only
  rw [if_pos trivial, pagesF _ (by omega), Option.bind_some, Pgs_len, if_pos rfl]
  have e : Fm l (32 * 0) = List.replicate l.length (⟨-1, 0⟩ : Ent) := by simp [Fm, zE]
  rw [e] at h
  exact h
theorem back_l0 (l : List Ent) (hU : U l) (hg : goodT l = true) (n : Nat) (hn : n = (l.length + 31) / 32) : ∀ (m i fuel : Nat), i + m = n → 1000 ≤ fuel →
    atticlaw14_TableBack.l0 (m + 1 + fuel) (Pgs l i) (n : Int) (i : Int) l = some true
  | 0, i, fuel, hi, hf => by
    obtain rfl : i = n := by omega
    obtain ⟨g1, g2⟩ := good_len hg
    rw [show 0 + 1 + fuel = fuel + 1 from by omega, atticlaw14_TableBack.l0, if_neg (by omega), hn, fromT l hU hg (by omega), Option.bind_some]
    simp only
    rw [if_pos trivial, sameT l (by omega) (by omega), Option.bind_some]
  | m + 1, i, fuel, hi, hf => by
    obtain ⟨g1, g2⟩ := good_len hg
    rw [show m + 1 + 1 + fuel = (m + 1 + fuel) + 1 from by omega, atticlaw14_TableBack.l0, if_pos (by omega), page l hU hg i (by omega) (by omega), Option.bind_some]
    simp only
    rw [if_pos trivial, pg_len, if_pos (by decide), if_pos (by rw [Pgs_len]; omega), wsucc (by omega), show Pgs l i ++ [pg l i] = Pgs l (i + 1) from by rw [Pgs, Pgs, List.range_succ, List.map_append]; rfl, back_l0 l hU hg n hn m (i + 1) fuel (by omega) hf]
theorem back_j2 (l : List Ent) (hU : U l) {k : Nat} (hk : 1500 ≤ k) : atticlaw14_TableBack.j2 (k + 1) l = some true := by
  rw [atticlaw14_TableBack.j2, check l hU (by omega), Option.bind_some]
  cases hg : goodT l with
  | false => rfl
  | true =>
    obtain ⟨g1, g2⟩ := good_len hg
    have e : wrap64 (Int.tdiv (wrap64 ((l.length : Int) + 31)) 32) = (((l.length + 31) / 32 : Nat) : Int) := by
      rw [w64 (n := (l.length : Int) + 31) (by omega) (by omega), Int.tdiv_eq_ediv_of_nonneg (by omega), w64 (by omega) (by omega)]
      omega
    have := back_l0 l hU hg _ rfl ((l.length + 31) / 32) 0 (k - (l.length + 31) / 32 - 1) (by omega) (by omega)
    rw [show (l.length + 31) / 32 + 1 + (k - (l.length + 31) / 32 - 1) = k from by omega] at this
    rw [if_pos rfl, if_pos rfl, e]
    exact this
theorem back_j1 (l : List Ent) (hU : U l) (b : List Int) (hb : By b) {k : Nat} (hk : 1500 ≤ k) : atticlaw14_TableBack.j1 (k + 2) b l = some true := by
  rw [atticlaw14_TableBack.j1, parse b hb (by omega), Option.bind_some]
  by_cases h : (prs b).2.2 = 0
  · obtain ⟨c, a, hp⟩ : ∃ c a, prs b = (c, a, 0) := ⟨(prs b).1, (prs b).2.1, by rw [← h]⟩
    obtain ⟨a0, a1, hok, hbt⟩ := prs_back b hb hp
    have hX := bytesX (⟨c, a⟩ : Ent) ⟨a0, a1⟩ (k := k + 1) (by omega)
    rw [hok, if_pos rfl, hbt] at hX
    rw [if_pos h, hp]
    simp only
    rw [hX, Option.bind_some]
    simp only
    rw [if_pos trivial, eq_self, Option.bind_some, if_pos rfl]
    exact back_j2 l hU hk
  · rw [if_neg h]
    exact back_j2 l hU hk
theorem TableBack : atticlaw14_TableBack.Pure := by
  rintro ⟨l⟩ ⟨c, a⟩ b ⟨h0, h1⟩ hE ⟨_, hB⟩
  have hU : U l := U_of h1
  have hb : By b := fun y hy => u8_range (hB y hy)
  have ha : 0 ≤ a ∧ a < 4294967296 := by exact (by have h := u32_range hE.2; exact ⟨h.1, Int.lt_of_le_of_lt h.2 (by decide)⟩)
  refine ⟨3000 + 2 + 1, ?_⟩
  show atticlaw14_TableBack.f (3000 + 2 + 1) l c a b = some true
  have hout : atticlaw14_TableBack.j0 (3000 + 2 + 1) b true l c a = some true := by rw [atticlaw14_TableBack.j0, if_pos rfl, begun (by omega), Option.bind_some]
  rw [atticlaw14_TableBack.f, begun (by omega), Option.bind_some, if_pos rfl, atticlaw14_few.f, Option.bind_some]
  by_cases hl : (l.length : Int) ≤ 400
  · rw [decide_eq_true hl, if_pos rfl]
    by_cases h3 : (b.length : Int) > 3000
    · rw [decide_eq_true h3]; exact hout
    · have hX := bytesX (⟨c, a⟩ : Ent) ha (k := 3000 + 2) (by omega)
      rw [decide_eq_false h3, atticlaw14_TableBack.j0, if_neg (by decide), hX, Option.bind_some]
      cases hok : okX (⟨c, a⟩ : Ent) with
      | false =>
        show (if (140 : Int) = 0 then _ else _) = _
        rw [if_neg (by decide)]
        exact back_j1 l hU b hb (by omega)
      | true =>
        rw [if_pos rfl, if_pos rfl, parse _ (By_bt _) (by omega), Option.bind_some, prs_bt _ ha hok]
        simp only
        rw [if_pos trivial, if_neg (by simp), bt_len, if_pos (by decide)]
        exact back_j1 l hU b hb (by omega)
  · rw [decide_eq_false hl, if_neg (by decide)]; exact hout
end Go.Proofs.Ytdjajecgojndfaa.Pure
