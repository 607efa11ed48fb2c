/- All classes' extents are all extents, all that are taken are as many as one goes through; put there and back: the law's pure part. -/
import Derived.Test.YtdjajecgojndfaaPrint
import Derived.Test.YtdjajecgojndfaaPureFlip
namespace Go.Proofs.Ytdjajecgojndfaa.Pure
open Go.RowKit Go.Proofs.Ytdjajecgojndfaa.Print Go.Proofs.YtdjajecgojndfaaW.PrintWords Go.Proofs.YtdjajecgojndfaaW.PrintMore
set_option linter.unusedSimpArgs false
set_option linter.unusedVariables false

theorem step1 (l : List Ent) (h : U l) (hl : l.length ≤ 400) (hg : goodT l = true) (a b : Nat) (ha : a ≤ 100000) (hb : b ≤ 100000) (c : Int) (h0 : -1 ≤ c) (h1 : c < 6) {k : Nat} (hk : 100 ≤ k) :
    atticlaw14_TableCounts_1.l0 (k + 1) (a : Int) (b : Int) c l = atticlaw14_TableCounts_1.l0 k ((a + Ec l c : Nat) : Int) ((b + Tc l c : Nat) : Int) (c + 1) l := by
  have h2 : Ec l c ≤ l.length := List.countP_le_length
  have h3 : Tc l c ≤ 32 * l.length := Nat.le_trans List.countP_le_length (Ls_len l)
  rw [atticlaw14_TableCounts_1.l0, if_pos h1, countF l h hl c h0 h1 hk, hg, if_pos rfl, Option.bind_some]
  simp only
  rw [wadd (by omega), wadd (by omega), w64 (by omega) (by omega)]
theorem counts1 (l : List Ent) (h : U l) (hl : l.length ≤ 400) (hg : goodT l = true) {k : Nat} (hk : 200 ≤ k) :
    atticlaw14_TableCounts_1.f k l = some ((l.length : Int), ((Ls l).length : Int)) := by
  obtain ⟨k, rfl⟩ : ∃ k', k = k' + 1 + 1 + 1 + 1 + 1 + 1 + 1 + 1 := ⟨k - 8, by omega⟩
  have hE := Ec_all hg
  have hT := Tc_all hg
  have hL := Ls_len l
  have e : atticlaw14_TableCounts_1.f (k + 1 + 1 + 1 + 1 + 1 + 1 + 1 + 1) l = atticlaw14_TableCounts_1.l0 (k + 1 + 1 + 1 + 1 + 1 + 1 + 1 + 1) ((0 : Nat) : Int) ((0 : Nat) : Int) (-1) l := rfl
  rw [e, step1 l h hl hg _ _ (by omega) (by omega) (-1) (by omega) (by omega) (by omega), show (-1 : Int) + 1 = 0 from rfl,
    step1 l h hl hg _ _ (by omega) (by omega) 0 (by omega) (by omega) (by omega), show (0 : Int) + 1 = 1 from rfl,
    step1 l h hl hg _ _ (by omega) (by omega) 1 (by omega) (by omega) (by omega), show (1 : Int) + 1 = 2 from rfl,
    step1 l h hl hg _ _ (by omega) (by omega) 2 (by omega) (by omega) (by omega), show (2 : Int) + 1 = 3 from rfl,
    step1 l h hl hg _ _ (by omega) (by omega) 3 (by omega) (by omega) (by omega), show (3 : Int) + 1 = 4 from rfl,
    step1 l h hl hg _ _ (by omega) (by omega) 4 (by omega) (by omega) (by omega), show (4 : Int) + 1 = 5 from rfl,
    step1 l h hl hg _ _ (by omega) (by omega) 5 (by omega) (by omega) (by omega), show (5 : Int) + 1 = 6 from rfl]
  rw [atticlaw14_TableCounts_1.l0, if_neg (by omega)]
  congr 2 <;> omega
theorem sameT_l0 (l : List Ent) (hl : l.length ≤ 400) : ∀ (m i fuel : Nat), i + m = l.length → api_Entry_55.l0 (m + 1 + fuel) l l (l.length : Int) (i : Int) = some true
  | 0, i, fuel, h => by
    rw [show 0 + 1 + fuel = fuel + 1 from by omega, api_Entry_55.l0, if_neg (by omega)]
  | m + 1, i, fuel, h => by
    rw [show m + 1 + 1 + fuel = (m + 1 + fuel) + 1 from by omega, api_Entry_55.l0, if_pos (by omega), if_pos (by omega), if_pos (by omega), if_pos (by omega), if_neg (by simp), wsucc (by omega), sameT_l0 l hl m (i + 1) fuel (by omega)]
theorem sameT (l : List Ent) (hl : l.length ≤ 400) {k : Nat} (hk : 500 ≤ k) : table_Same.f k l l = some true := by
  have := sameT_l0 l hl l.length 0 (k - l.length - 1) (by omega)
  rw [show l.length + 1 + (k - l.length - 1) = k from by omega] at this
  rw [table_Same.f, api_Entry_55.f, if_pos rfl, show (0 : Int) = ((0 : Nat) : Int) from rfl, this, Option.bind_some]
theorem told_len (l : List Ent) (h : U l) (hl : l.length ≤ 400) (hg : goodT l = true) {k : Nat} (hk : 100 ≤ k) : ∃ z, told_All.f k l 1048576 = some z ∧ z.length = (Ls l).length := by
  have hL := Ls_len l
  rw [told_All.f, check l h hk, hg, if_pos rfl, Option.bind_some, if_pos (by omega)]
  refine ⟨_, rfl, ?_⟩
  rw [told14.of, List.length_map, List.length_take, show all14.L ((0 : Int) == 0) l l.length 0 = Ls l from rfl]
  omega
theorem counts_j2 (l : List Ent) (h : U l) (hl : l.length ≤ 400) (e c : Int) {k : Nat} (hk : 600 ≤ k) : atticlaw14_TableCounts.j2 (k + 1) e c l = some true := by
  rw [atticlaw14_TableCounts.j2, assign l h hl e c (by omega), Option.bind_some]
  by_cases ha : (asg l e c).2 = 0
  · obtain ⟨i, hi, rfl, hg, hc, hz, hy⟩ := asg_ok (y := (asg l e c).1) (show asg l e c = ((asg l e c).1, 0) by rw [← ha])
    have hU := U_set h i (y := (⟨c, 0⟩ : Ent)) ⟨by show (0 : Int) ≤ 0; omega, by show (0 : Int) < 4294967296; omega⟩
    rw [if_pos ha, if_pos (by omega), if_pos (by omega), hy, rd_ent l i hi, assign _ hU (by simpa using hl) _ _ (by omega), asg_back hi hg hc hz, Option.bind_some, if_pos rfl, sameT l hl (by omega), Option.bind_some]
  · rw [if_neg ha]
theorem TableCounts : atticlaw14_TableCounts.Pure := by
  rintro ⟨l⟩ e s c ⟨h0, h1⟩ he hs hc
  have hU : U l := U_of h1
  obtain ⟨s0, s1⟩ := i64_range hs
  refine ⟨2000 + 1 + 1 + 1, ?_⟩
  show atticlaw14_TableCounts.f (2000 + 1 + 1 + 1) l e s c = some true
  rw [atticlaw14_TableCounts.f, begun (by omega), Option.bind_some, if_pos rfl, atticlaw14_few.f, Option.bind_some]
  by_cases hl : (l.length : Int) ≤ 400
  · have hl' : l.length ≤ 400 := by omega
    rw [decide_eq_true hl, if_pos rfl, check l hU (by omega), Option.bind_some, atticlaw14_TableCounts.j0]
    cases hg : goodT l with
    | false => rw [if_pos (by decide), begun (by omega), Option.bind_some]
    | true =>
      obtain ⟨z, hz, hzl⟩ := told_len l hU hl' hg (k := 2000 + 1 + 1) (by omega)
      rw [if_neg (by decide), counts1 l hU hl' hg (by omega), Option.bind_some, if_pos rfl, hz, Option.bind_some, hzl]
      rw [atticlaw14_TableCounts.j1, if_neg (by simp), takenT l hU e s s0 s1 (by omega), Option.bind_some, putT l hU hl' e s _ s0 s1 (by omega), Option.bind_some]
      by_cases hp : (put l e s (!tkn l e s)).2 = 0
      · obtain ⟨i, j, hi, rfl, rfl, hj, -, hb, hy⟩ := put_ok hU (y := (put l e s (!tkn l e s)).1) (show put l e s (!tkn l e s) = ((put l e s (!tkn l e s)).1, 0) by rw [← hp])
        have hj2 : j < 32 := Nat.lt_of_lt_of_le hj (slots_le _)
        have hx := hU _ (List.getElem_mem hi)
        have hok := good_all hg _ (List.getElem_mem hi)
        have hlt : l[i].f1.toNat < 2 ^ slots l[i].f0 := by unfold okX okE at hok; simp at hok; exact hok.2.2
        have hf := flip_lt _ hx j (slots l[i].f0) hj (slots_le _) hlt
        have hUy := U_set hU i (y := flipE l[i] j) ⟨hf.1, hf.2.1⟩
        have hgy := good_set hg i (okX_flip hx hok hj)
        have hly : (l.set i (flipE l[i] j)).length ≤ 400 := by simpa using hl'
        have hbk := put_back hU hi hj hg (!tkn l (i : Int) (j : Int)) hb
        have hti : tkn (l.set i (flipE l[i] j)) (i : Int) (j : Int) = !tkn l (i : Int) (j : Int) := by
          rw [tkn_is hgy (by simpa using hi) hj2, List.getElem_set_self, flip_bit, decide_eq_true rfl, tkn_is hg hi hj2]; simp
        have hn := Ls_set l hU i hi (y := flipE l[i] j) ⟨hf.1, hf.2.1⟩
        have hnf := nb_flip l[i] j hj2
        have hL := Ls_len l
        rw [Bool.not_not] at hbk hb
        rw [if_pos hp, hy, counts1 _ hUy hly hgy (by omega), Option.bind_some, putT _ hUy hly _ _ _ s0 s1 (by omega), hbk, Option.bind_some, if_pos rfl, sameT l hl' (by omega), Option.bind_some, if_pos rfl, takenT _ hUy _ _ s0 s1 (by omega), Option.bind_some, hti]
        rw [hb] at hnf
        cases ht : tkn l (i : Int) (j : Int) with
        | false =>
          rw [ht] at hnf hb
          rw [if_neg (by decide)] at hnf
          rw [if_neg (by decide), if_pos (by show ((Ls (l.set i (flipE l[i] j))).length : Int) = wrap64 (((Ls l).length : Int) + 1); rw [w64 (by omega) (by omega)]; omega), if_neg (by show ¬ ((Ls (l.set i (flipE l[i] j))).length : Int) = wrap64 (((Ls l).length : Int) - 1); rw [w64 (by omega) (by omega)]; omega), if_neg (by decide)]
          exact counts_j2 l hU hl' _ _ (by omega)
        | true =>
          rw [ht] at hnf hb
          have hpos := nb_pos hj2 hb
          rw [if_pos rfl] at hnf
          rw [if_neg (by decide), if_neg (by show ¬ ((Ls (l.set i (flipE l[i] j))).length : Int) = wrap64 (((Ls l).length : Int) + 1); rw [w64 (by omega) (by omega)]; omega), if_pos rfl, if_pos (by show ((Ls (l.set i (flipE l[i] j))).length : Int) = wrap64 (((Ls l).length : Int) - 1); rw [w64 (by omega) (by omega)]; omega)]
          exact counts_j2 l hU hl' _ _ (by omega)
      · rw [if_neg hp]
        exact counts_j2 l hU hl' _ _ (by omega)
  · rw [decide_eq_false hl, if_neg (by decide), atticlaw14_TableCounts.j0, if_pos rfl, begun (by omega), Option.bind_some]
end Go.Proofs.Ytdjajecgojndfaa.Pure
