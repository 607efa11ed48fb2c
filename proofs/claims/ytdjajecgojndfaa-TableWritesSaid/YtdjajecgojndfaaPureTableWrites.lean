/- An entry's bytes, the entry of any bytes; a table's blocks, the table of any blocks: the law's pure part. -/
import Derived.Test.YtdjajecgojndfaaPrint
import Derived.Test.YtdjajecgojndfaaPureG14
import Derived.Test.YtdjajecgojndfaaPureR14
import Derived.Test.YtdjajecgojndfaaPureN14
namespace Go.Proofs.Ytdjajecgojndfaa.Pure
open Go.RowKit Go.Proofs.Ytdjajecgojndfaa.Print Go.Proofs.YtdjajecgojndfaaW.PrintWords Go.Proofs.YtdjajecgojndfaaW.PrintMore
set_option linter.unusedSimpArgs false
set_option linter.unusedVariables false

/-! ### an entry's bytes -/
theorem bytes' (x : Ent) (h : 0 ≤ x.f1 ∧ x.f1 < 4294967296) {k : Nat} (hk : 100 ≤ k) : atticref14_Bytes.f k x.f0 x.f1 = some (if okX x then (bt x, 0) else ([], 140)) := by
  have e : ((x.f1.toNat : Nat) : Int) = x.f1 := by omega
  have hb : bt x = [(wrap64 (x.f0 + 1)) % 256, 0, 0, 0, (x.f1) % 256, (x.f1 / 256) % 256, (x.f1 / 65536) % 256, (x.f1 / 16777216) % 256] := by
    unfold bt row; rw [e]; rfl
  rw [atticref14_Bytes.f, entryX x h hk, Option.bind_some, hb]
  cases okX x <;> rfl
theorem parse' (b : List Int) (hb : By b) {k : Nat} (hk : 500 ≤ k) : atticref14_Parse.f k b = some (prs b) := by
  obtain ⟨k, rfl⟩ : ∃ k', k = k' + 1 := ⟨k - 1, by omega⟩
  rw [atticref14_Parse.f]
  by_cases h8 : b.length = 8
  · match b, h8 with
    | [b0, b1, b2, b3, b4, b5, b6, b7], _ =>
      have g : ∀ {y}, y ∈ [b0, b1, b2, b3, b4, b5, b6, b7] → 0 ≤ y ∧ y < 256 := fun h => hb _ h
      have h0 := g (y := b0) (by simp)
      have h4 := g (y := b4) (by simp)
      have h5 := g (y := b5) (by simp)
      have h6 := g (y := b6) (by simp)
      have h7 := g (y := b7) (by simp)
      clear g hb
      have hl : (([b0, b1, b2, b3, b4, b5, b6, b7] : List Int).length : Int) = 8 := rfl
      have r0 : rd [b0, b1, b2, b3, b4, b5, b6, b7] 0 = b0 := rfl
      have r1 : rd [b0, b1, b2, b3, b4, b5, b6, b7] 1 = b1 := rfl
      have r2 : rd [b0, b1, b2, b3, b4, b5, b6, b7] 2 = b2 := rfl
      have r3 : rd [b0, b1, b2, b3, b4, b5, b6, b7] 3 = b3 := rfl
      have r4 : rd [b0, b1, b2, b3, b4, b5, b6, b7] 4 = b4 := rfl
      have r5 : rd [b0, b1, b2, b3, b4, b5, b6, b7] 5 = b5 := rfl
      have r6 : rd [b0, b1, b2, b3, b4, b5, b6, b7] 6 = b6 := rfl
      have r7 : rd [b0, b1, b2, b3, b4, b5, b6, b7] 7 = b7 := rfl
      have hw : ((((((b4 % 4294967296) + ((256 * (b5 % 4294967296)) % 4294967296)) % 4294967296) + ((65536 * (b6 % 4294967296)) % 4294967296)) % 4294967296) + ((16777216 * (b7 % 4294967296)) % 4294967296)) % 4294967296 = wd b4 b5 b6 b7 := by unfold wd; omega
      have hwr : 0 ≤ wd b4 b5 b6 b7 ∧ wd b4 b5 b6 b7 < 4294967296 := by unfold wd; omega
      have hE := fun {k : Nat} (hk : 100 ≤ k) => entryX (⟨b0 - 1, wd b4 b5 b6 b7⟩ : Ent) hwr hk
      have key : ∀ x : Bool, atticref14_Parse.j0 (k + 1) [b0, b1, b2, b3, b4, b5, b6, b7] x = some (if x = true then (0, 0, 140) else if okE (b0 - 1) (wd b4 b5 b6 b7).toNat = true then (b0 - 1, wd b4 b5 b6 b7, 0) else (0, 0, 140)) := by
        intro x
        rw [atticref14_Parse.j0]
        cases x with
        | true => rfl
        | false =>
          rw [if_neg (by decide), hl, if_pos (by decide), if_pos (by decide), if_pos (by decide), if_pos (by decide), if_pos (by decide), r0, r4, r5, r6, r7, hw, w64 (n := b0) (by omega) (by omega), w64 (by omega) (by omega), hE (by omega), Option.bind_some]
          show (if okE (b0 - 1) (wd b4 b5 b6 b7).toNat = true then _ else _) = some (if okE (b0 - 1) (wd b4 b5 b6 b7).toNat = true then _ else _)
          split <;> rfl
      rw [hl, if_pos rfl, if_pos (show (0 : Int) < 8 by decide), if_pos (show (1 : Int) < 8 by decide), if_pos (show (2 : Int) < 8 by decide), if_pos (show (3 : Int) < 8 by decide), r0, r1, r2, r3, prs]
      simp only [key]
      by_cases h6' : b0 > 6
      · rw [if_pos h6', if_pos trivial, if_neg]
        rintro ⟨h, _⟩
        unfold okE at h
        simp at h
        omega
      · rw [if_neg h6']
        by_cases h1 : b1 = 0
        · rw [if_pos h1]
          by_cases h2 : b2 = 0
          · rw [if_pos h2]
            by_cases h3 : b3 = 0
            · rw [if_neg (by simp [h3])]
              by_cases hok : okE (b0 - 1) (wd b4 b5 b6 b7).toNat = true
              · rw [if_pos hok, if_pos ⟨hok, h1, h2, h3⟩]
              · rw [if_neg hok, if_neg (fun h => hok h.1)]
            · rw [if_pos (by simp [h3]), if_neg (fun h => h3 h.2.2.2)]
          · rw [if_neg h2, if_pos trivial, if_neg (fun h => h2 h.2.2.1)]
        · rw [if_neg h1, if_pos trivial, if_neg (fun h => h1 h.2.1)]
  · rw [if_neg (by omega), prs_not h8, atticref14_Parse.j0, if_pos rfl]
/-! ### a table's blocks -/
def pgs (l : List Ent) (i : Int) : List Int × Int := if goodT l then (if 0 ≤ i ∧ i < (((l.length + 31) / 32 : Nat) : Int) then (pg l i.toNat, 0) else ([], 1)) else ([], 140)
theorem pageAny (l : List Ent) (hU : U l) (i : Int) {k : Nat} (hk : 300 ≤ k) : table_Page.f k l i = some (pgs l i) := by
  rw [pgs]
  cases hg : goodT l with
  | false => rw [table_Page.f, check l hU (by omega), hg]; rfl
  | true =>
    obtain ⟨g1, g2⟩ := good_len hg
    rw [if_pos rfl]
    by_cases hi : 0 ≤ i ∧ i < (((l.length + 31) / 32 : Nat) : Int)
    · obtain ⟨n, rfl⟩ : ∃ n : Nat, i = (n : Int) := ⟨i.toNat, by omega⟩
      rw [if_pos hi, page l hU hg n (by omega) hk, Int.toNat_natCast]
    · obtain ⟨k, rfl⟩ : ∃ k', k = k' + 1 := ⟨k - 1, by omega⟩
      rw [if_neg hi, table_Page.f, check l hU (by omega), hg, if_pos rfl, Option.bind_some, if_pos rfl]
      by_cases h0 : i < 0
      · rw [if_pos h0, table_Page.j0, if_pos rfl]
      · rw [if_neg h0, pagesF _ (by omega), Option.bind_some, decide_eq_true (by omega), table_Page.j0, if_pos rfl]
theorem page_l0' (l : List Ent) (hU : U l) (hg : goodT l = true) (i : Nat) (hi : i < 8) : ∀ (m j fuel : Nat), j + m = 32 → 100 ≤ fuel →
    atticref14_Page.l0 (m + 1 + fuel) (i : Int) (pgU l i j) ((32 * i + j : Nat) : Int) l = some (pg l i, 0)
  | 0, j, fuel, hj, hf => by
    obtain rfl : j = 32 := by omega
    rw [show 0 + 1 + fuel = fuel + 1 from by omega, atticref14_Page.l0, wmul32 (by omega), w64 (by omega) (by omega), if_neg (by omega)]
    rfl
  | m + 1, j, fuel, hj, hf => by
    rw [show m + 1 + 1 + fuel = (m + 1 + fuel) + 1 from by omega, atticref14_Page.l0, wmul32 (by omega), w64 (by omega) (by omega), if_pos (by omega), if_pos (by decide), Option.bind_some, wsucc (by omega)]
    by_cases hl : 32 * i + j < l.length
    · have hmem := List.getElem_mem hl
      rw [if_pos (by omega), if_pos (by omega), rd_ent l _ hl, bytes' _ (hU _ hmem) (by omega), good_all hg _ hmem, if_pos rfl, Option.bind_some]
      simp only
      rw [if_pos (by rw [pgU_len, bt_len]; omega), show pgU l i j ++ bt l[32 * i + j] = pgU l i (j + 1) from by rw [pgU_succ, gE, getD_in hl], show 32 * i + j + 1 = 32 * i + (j + 1) from by omega, page_l0' l hU hg i hi m (j + 1) fuel (by omega) hf]
    · have hz : gE l i j = List.replicate 8 0 := by
        rw [gE, show l.getD (32 * i + j) zE = zE from by rw [List.getD_eq_getElem?_getD, List.getElem?_eq_none (by omega)]; rfl, bt_z]
      rw [if_neg (by omega), if_pos (by rw [pgU_len, List.length_replicate]; omega), show pgU l i j ++ List.replicate 8 0 = pgU l i (j + 1) from by rw [pgU_succ, hz], show 32 * i + j + 1 = 32 * i + (j + 1) from by omega, page_l0' l hU hg i hi m (j + 1) fuel (by omega) hf]
theorem div32 (n : Nat) (h : n ≤ 400) : wrap64 (Int.tdiv (wrap64 ((n : Int) + 31)) 32) = (((n + 31) / 32 : Nat) : Int) := by
  rw [w64 (n := (n : Int) + 31) (by omega) (by omega), Int.tdiv_eq_ediv_of_nonneg (by omega), w64 (by omega) (by omega)]
  omega
theorem pageAny' (l : List Ent) (hU : U l) (i : Int) {k : Nat} (hk : 600 ≤ k) : atticref14_Page.f k l i = some (pgs l i) := by
  obtain ⟨k, rfl⟩ : ∃ k', k = k' + 1 := ⟨k - 1, by omega⟩
  rw [pgs, atticref14_Page.f, check' l hU (by omega), Option.bind_some]
  cases hg : goodT l with
  | false => rfl
  | true =>
    obtain ⟨g1, g2⟩ := good_len hg
    rw [if_pos rfl, if_pos rfl, if_pos rfl]
    by_cases h0 : i < 0
    · rw [if_pos h0, atticref14_Page.j0, if_pos rfl, if_neg (by omega)]
    · obtain ⟨n, rfl⟩ : ∃ n : Nat, i = (n : Int) := ⟨i.toNat, by omega⟩
      rw [if_neg h0, div32 _ (by omega)]
      by_cases h1 : (n : Int) ≥ (((l.length + 31) / 32 : Nat) : Int)
      · rw [decide_eq_true h1, atticref14_Page.j0, if_pos rfl, if_neg (by omega)]
      · have := page_l0' l hU hg n (by omega) 32 0 (k - 33) (by omega) (by omega)
        rw [show 32 + 1 + (k - 33) = k from by omega] at this
        rw [decide_eq_false h1, atticref14_Page.j0, if_neg (by decide), if_pos (by omega), wmul32 (by omega), Int.toNat_natCast]
        exact this
/-! ### the table of blocks -/
def Bys (P : List (List Int)) : Prop := ∀ p ∈ P, By p
theorem rd_P (P : List (List Int)) (i : Nat) (h : i < P.length) : rd_L7 P (i : Int) = P[i] := by simp [rd_L7, h]
theorem By_cut {p : List Int} (h : By p) (a b : Nat) : By ((p.take b).drop a) := fun y hy => h y (List.mem_of_mem_take (List.mem_of_mem_drop hy))
theorem zeros_iff (b : List Int) (hb : By b) : (prs b = (-1, 0, 0)) ↔ b = List.replicate 8 0 := by
  constructor
  · intro h
    have := (prs_back b hb h).2.2.2
    rw [← this]; exact bt_z
  · rintro rfl
    rw [← bt_z]; exact prs_bt zE (by decide) okX_z
theorem strs_eq {x y : List Int} (hx : By x) (hy : By y) : (strOfNums x).toList = (strOfNums y).toList ↔ x = y := by
  rw [Lib.strOfNums_toList, Lib.strOfNums_toList]
  constructor
  · intro h
    induction x generalizing y with
    | nil => cases y with
      | nil => rfl
      | cons b y => simp [Lib.bytesOf] at h
    | cons a x ih => cases y with
      | nil => simp [Lib.bytesOf] at h
      | cons b y =>
        simp only [Lib.bytesOf, List.map_cons, List.cons.injEq] at h
        have h1 := u8_eq (hx a List.mem_cons_self) (hy b List.mem_cons_self)
        rw [h.1, beq_self_eq_true] at h1
        have h2 : a = b := by simpa using h1.symm
        rw [h2, ih (fun z hz => hx z (List.mem_cons_of_mem _ hz)) (fun z hz => hy z (List.mem_cons_of_mem _ hz)) h.2]
  · exact fun h => by rw [h]
theorem By_zeros (n : Nat) : By (List.replicate n 0) := fun y hy => by have := List.eq_of_mem_replicate hy; omega
theorem prs_cases (b : List Int) : (∃ c a, prs b = (c, a, 0)) ∨ prs b = (0, 0, 140) := by
  unfold prs
  split
  · split
    · exact .inl ⟨_, _, rfl⟩
    · exact .inr rfl
  · exact .inr rfl
abbrev Res := List Ent × Int
theorem froms_l1 (n : Nat) (hn : n ≤ 256) (P : List (List Int)) (hP : Bys P) (i : Nat) (hi : i < P.length) (hi8 : i < 8) (hp : P[i].length = 256) (f1 f2 : Nat) (h1 : 100 ≤ f1) (h2 : 500 ≤ f2)
    (hk : ∀ mm : List Ent, mm.length = n → ∃ r : Res, table_From.l0 f1 (n : Int) P (P.length : Int) ((i + 1 : Nat) : Int) mm = some r ∧ atticref14_From.l0 f2 (n : Int) P ((i + 1 : Nat) : Int) mm = some r ∧ r.1.length ≤ 256) :
    ∀ (m j : Nat) (mm : List Ent), j + m = 32 → mm.length = n → ∃ r : Res, table_From.l1 (2 * m + 1 + f1) (n : Int) (i : Int) P[i] P (P.length : Int) (i : Int) (j : Int) mm = some r ∧ atticref14_From.l1 (m + 1 + f2) (n : Int) P (i : Int) (j : Int) mm = some r ∧ r.1.length ≤ 256
  | 0, j, mm, hj, hm => by
    obtain rfl : j = 32 := by omega
    obtain ⟨r, r1, r2, r3⟩ := hk mm hm
    refine ⟨r, ?_, ?_, r3⟩
    · rw [show 2 * 0 + 1 + f1 = f1 + 1 from by omega, table_From.l1, if_neg (by omega), wsucc (by omega), r1]
    · rw [show 0 + 1 + f2 = f2 + 1 from by omega, atticref14_From.l1, if_neg (by omega), wsucc (by omega), r2]
  | m + 1, j, mm, hj, hm => by
    have hat : wrap64 (((32 * i : Nat) : Int) + (j : Int)) = ((32 * i + j : Nat) : Int) := wadd (by omega)
    have hw : wrap64 (((8 * j : Nat) : Int) + 8) = ((8 * (j + 1) : Nat) : Int) := by rw [w64 (by omega) (by omega)]; omega
    have hB : By ((P[i].take (8 * (j + 1))).drop (8 * j)) := By_cut (hP _ (List.getElem_mem hi)) _ _
    obtain ⟨b, hb⟩ : ∃ b, b = (P[i].take (8 * (j + 1))).drop (8 * j) := ⟨_, rfl⟩
    rw [show 2 * (m + 1) + 1 + f1 = (2 * m + 1 + f1 + 1) + 1 from by omega, show m + 1 + 1 + f2 = (m + 1 + f2) + 1 from by omega]
    have eT : table_From.l1 ((2 * m + 1 + f1 + 1) + 1) (n : Int) (i : Int) P[i] P (P.length : Int) (i : Int) (j : Int) mm = (if (prs b).2.2 = 0 then (if ((32 * i + j : Nat) : Int) ≥ (n : Int) then (table_From.j2 (2 * m + 1 + f1 + 1) (n : Int) (i : Int) P[i] ((32 * i + j : Nat) : Int) P (P.length : Int) (i : Int) (j : Int) (!((prs b).1 == (-1)) || (!((prs b).2.1 == 0))) mm (prs b).1 (prs b).2.1) else (table_From.j2 (2 * m + 1 + f1 + 1) (n : Int) (i : Int) P[i] ((32 * i + j : Nat) : Int) P (P.length : Int) (i : Int) (j : Int) false mm (prs b).1 (prs b).2.1)) else (table_From.j2 (2 * m + 1 + f1 + 1) (n : Int) (i : Int) P[i] ((32 * i + j : Nat) : Int) P (P.length : Int) (i : Int) (j : Int) true mm (prs b).1 (prs b).2.1)) := by
      rw [table_From.l1, if_pos (by omega), wmul8 (by omega), wsucc (by omega), wmul8 (by omega), if_pos (by omega), if_pos (by omega), if_pos (by omega), Int.toNat_natCast, Int.toNat_natCast, parse _ hB (by omega), Option.bind_some, wmul32 (by omega), hat, hb]
    have eR : atticref14_From.l1 ((m + 1 + f2) + 1) (n : Int) P (i : Int) (j : Int) mm = (if ((32 * i + j : Nat) : Int) ≥ (n : Int) then (if (strOfNums b).toList = (strOfNums (List.replicate 8 0)).toList then (atticref14_From.l1 (m + 1 + f2) (n : Int) P (i : Int) ((j + 1 : Nat) : Int) mm) else (some (([] : List Ent), 140))) else (if (prs b).2.2 = 0 then (if (0 : Int) ≤ ((32 * i + j : Nat) : Int) then (if ((32 * i + j : Nat) : Int) < (mm.length : Int) then (atticref14_From.l1 (m + 1 + f2) (n : Int) P (i : Int) ((j + 1 : Nat) : Int) (mm.set (32 * i + j) (⟨(prs b).1, (prs b).2.1⟩ : Ent))) else none) else none) else (some (([] : List Ent), (prs b).2.2)))) := by
      rw [atticref14_From.l1, if_pos (by omega), if_pos (by omega), if_pos (by omega), wmul8 (by omega), hw, if_pos (by omega), if_pos (by omega), rd_P P i hi, if_pos (by omega), Int.toNat_natCast, Int.toNat_natCast, parse' _ hB (by omega), wmul32 (by omega), hat, Int.toNat_natCast, wsucc (by omega), ← hb, if_pos (show 8 ≤ 281474976710656 by decide), Option.bind_some]
    rw [eT, eR]
    rw [← hb] at hB
    have rec_ := fun mm' hm' => froms_l1 n hn P hP i hi hi8 hp f1 f2 h1 h2 hk m (j + 1) mm' (by omega) hm'
    have bad : ∀ c a : Int, table_From.j2 (2 * m + 1 + f1 + 1) (n : Int) (i : Int) P[i] ((32 * i + j : Nat) : Int) P (P.length : Int) (i : Int) (j : Int) true mm c a = some ([], 140) := fun c a => by rw [table_From.j2, if_pos rfl]
    by_cases hge : ((32 * i + j : Nat) : Int) ≥ (n : Int)
    · rw [if_pos hge, if_pos hge]
      by_cases hz : b = List.replicate 8 0
      · rw [if_pos ((strs_eq hB (By_zeros 8)).2 hz), (zeros_iff b hB).2 hz, if_pos rfl]
        obtain ⟨r, r1, r2, r3⟩ := rec_ mm hm
        refine ⟨r, ?_, r2, r3⟩
        show table_From.j2 _ _ _ _ _ _ _ _ _ false mm (-1) 0 = _
        rw [table_From.j2, if_neg (by decide), if_neg (by omega), wsucc (by omega), r1]
      · rw [if_neg (fun h => hz ((strs_eq hB (By_zeros 8)).1 h))]
        refine ⟨([], 140), ?_, rfl, by simp⟩
        rcases prs_cases b with ⟨c, a, hp'⟩ | hp'
        · rw [hp', if_pos rfl]
          have : (!(c == (-1)) || (!(a == 0))) = true := by
            rw [Bool.or_eq_true, Bool.not_eq_true', Bool.not_eq_true', beq_eq_false_iff_ne, beq_eq_false_iff_ne]
            by_cases hc : c = -1
            · refine .inr fun ha => hz ((zeros_iff b hB).1 ?_)
              rw [hp', hc, ha]
            · exact .inl hc
          show table_From.j2 _ _ _ _ _ _ _ _ _ (!(c == (-1)) || (!(a == 0))) mm c a = _
          rw [this, bad]
        · rw [hp', if_neg (by decide), bad]
    · rw [if_neg hge, if_neg hge]
      rcases prs_cases b with ⟨c, a, hp'⟩ | hp'
      · rw [hp', if_pos rfl, if_pos rfl, if_pos (by omega), if_pos (by omega)]
        obtain ⟨r, r1, r2, r3⟩ := rec_ (mm.set (32 * i + j) ⟨c, a⟩) (by rw [List.length_set]; exact hm)
        refine ⟨r, ?_, r2, r3⟩
        rw [table_From.j2, if_neg (by decide), if_pos (by omega), if_pos (by omega), if_pos (by omega), wsucc (by omega), Int.toNat_natCast]
        exact r1
      · rw [hp', if_neg (by decide), if_neg (by decide), bad]
        exact ⟨([], 140), rfl, rfl, by simp⟩
theorem froms_l0 (n : Nat) (hn : n ≤ 256) (P : List (List Int)) (hP : Bys P) (hPl : P.length ≤ 8) : ∀ (m i : Nat) (mm : List Ent), i + m = P.length → mm.length = n →
    ∃ r : Res, table_From.l0 (66 * m + 1 + 600) (n : Int) P (P.length : Int) (i : Int) mm = some r ∧ atticref14_From.l0 (34 * m + 1 + 600) (n : Int) P (i : Int) mm = some r ∧ r.1.length ≤ 256
  | 0, i, mm, hi, hm => ⟨(mm, 0), by rw [show 66 * 0 + 1 + 600 = 600 + 1 from by omega, table_From.l0, if_neg (by omega)], by rw [show 34 * 0 + 1 + 600 = 600 + 1 from by omega, atticref14_From.l0, if_neg (by omega)], by rw [hm]; exact hn⟩
  | m + 1, i, mm, hi, hm => by
    have hlt : i < P.length := by omega
    have eT : table_From.l0 ((2 * 32 + 1 + (66 * m + 1 + 600)) + 1) (n : Int) P (P.length : Int) (i : Int) mm = (if (P[i].length : Int) = 256 then (table_From.l1 (2 * 32 + 1 + (66 * m + 1 + 600)) (n : Int) (i : Int) P[i] P (P.length : Int) (i : Int) 0 mm) else (some (([] : List Ent), 140))) := by
      rw [table_From.l0, if_pos (by omega), if_pos (by omega), if_pos (by omega), rd_P P i hlt]
    have eR : atticref14_From.l0 ((32 + 1 + (34 * m + 1 + 600)) + 1) (n : Int) P (i : Int) mm = (if (P[i].length : Int) = 256 then (atticref14_From.l1 (32 + 1 + (34 * m + 1 + 600)) (n : Int) P (i : Int) 0 mm) else (some (([] : List Ent), 140))) := by
      rw [atticref14_From.l0, if_pos (by omega), if_pos (by omega), rd_P P i hlt]
    rw [show 66 * (m + 1) + 1 + 600 = (2 * 32 + 1 + (66 * m + 1 + 600)) + 1 from by omega, show 34 * (m + 1) + 1 + 600 = (32 + 1 + (34 * m + 1 + 600)) + 1 from by omega, eT, eR]
    by_cases hp : P[i].length = 256
    · rw [if_pos (by omega), if_pos (by omega)]
      exact froms_l1 n hn P hP i hlt (by omega) hp _ _ (by omega) (by omega) (fun mm' hm' => froms_l0 n hn P hP hPl m (i + 1) mm' (by omega) hm') 32 0 mm (by omega) hm
    · rw [if_neg (by omega), if_neg (by omega)]
      exact ⟨([], 140), rfl, rfl, by simp⟩
theorem froms (a : Int) (P : List (List Int)) (hP : Bys P) (hPl : P.length ≤ 20) {k : Nat} (hk : 3000 ≤ k) : ∃ r : Res, table_From.f k a P = some r ∧ atticref14_From.f k a P = some r ∧ r.1.length ≤ 256 := by
  by_cases ha : a < 1 ∨ a > 256
  · refine ⟨([], 1), ?_, ?_, by simp⟩
    · rw [table_From.f, table_New.f, if_pos ha]; rfl
    · obtain ⟨w, e, w1, w2, w3⟩ := news a (k := k) (by omega)
      rw [table_New.f, if_pos ha] at w1
      cases w1
      rw [atticref14_From.f, w2]; rfl
  · obtain ⟨n, rfl⟩ : ∃ n : Nat, a = (n : Int) := ⟨a.toNat, by omega⟩
    obtain ⟨w, e, w1, w2, w3⟩ := news (n : Int) (k := k) (by omega)
    have hn : n ≤ 256 := by omega
    rw [table_From.f, atticref14_From.f, w1, w2, Option.bind_some, Option.bind_some]
    rw [table_New.f, if_neg ha] at w1
    cases w1
    simp only
    rw [if_pos trivial, if_pos trivial, pagesF n (by omega), div32 n (by omega), Option.bind_some]
    by_cases hq : (P.length : Int) = (((n + 31) / 32 : Nat) : Int)
    · have hl8 : P.length ≤ 8 := by omega
      obtain ⟨r, r1, r2, r3⟩ := froms_l0 n hn P hP hl8 P.length 0 (List.replicate n ⟨-1, 0⟩) (by omega) (by rw [List.length_replicate])
      rw [if_pos hq, if_pos hq, Int.toNat_natCast]
      refine ⟨r, ?_, ?_, r3⟩
      · exact up (fun k => (table_From.mono_l k).1 _ _ _ _ _) (by omega) r1
      · exact up (fun k => (atticref14_From.mono_l k).1 _ _ _ _) (by omega) r2
    · rw [if_neg hq, if_neg hq]
      exact ⟨([], 140), rfl, rfl, by simp⟩
/-! ### the law -/
theorem TableWrites : atticlaw14_TableWrites.Pure := by
  rintro ⟨c, a⟩ b ⟨l⟩ i n P hE ⟨_, hB⟩ ⟨h0, h1⟩ hi hn ⟨_, hP⟩
  have hU : U l := U_of h1
  have hb : By b := fun y hy => u8_range (hB y hy)
  have hPb : Bys P := fun p hp y hy => u8_range ((hP p hp).2 y hy)
  have ha : 0 ≤ a ∧ a < 4294967296 := by have h := u32_range hE.2; exact ⟨h.1, Int.lt_of_le_of_lt h.2 (by decide)⟩
  refine ⟨9000 + 1 + 1 + 1 + 1, ?_⟩
  show atticlaw14_TableWrites.f (9000 + 1 + 1 + 1 + 1) c a b l i n P = some true
  have hout : atticlaw14_TableWrites.j0 (9000 + 1 + 1 + 1 + 1) b i n P true c a l = some true := by rw [atticlaw14_TableWrites.j0, if_pos rfl, begun (by omega), Option.bind_some]
  rw [atticlaw14_TableWrites.f, begun (by omega), Option.bind_some, if_pos rfl, hout]
  by_cases h3 : (b.length : Int) > 3000
  · rw [if_pos h3]
  · rw [if_neg h3, atticlaw14_few.f, Option.bind_some]
    by_cases hl : (l.length : Int) ≤ 400
    · rw [decide_eq_true hl, if_pos rfl]
      by_cases h20 : (P.length : Int) > 20
      · rw [if_pos h20]
      · rw [if_neg h20, anyLong.f, Option.bind_some]
        cases P.any fun x => decide ((x.length : Int) > 3000) with
        | true => exact hout
        | false =>
          have hX := bytesX (⟨c, a⟩ : Ent) ha (k := 9000 + 1 + 1 + 1) (by omega)
          have hY := bytes' (⟨c, a⟩ : Ent) ha (k := 9000 + 1 + 1 + 1) (by omega)
          obtain ⟨r, r1, r2, r3⟩ := froms n P hPb (by omega) (k := 9000) (by omega)
          rw [atticlaw14_TableWrites.j0, if_neg (by decide), hX, Option.bind_some, hY, Option.bind_some, eq_self, Option.bind_some, if_pos rfl, bne_self_eq_false]
          rw [atticlaw14_TableWrites.j1, if_neg (by decide), parse b hb (by omega), Option.bind_some, parse' b hb (by omega), Option.bind_some, if_neg (by simp), bne_self_eq_false]
          rw [atticlaw14_TableWrites.j2, if_neg (by decide), pageAny l hU i (by omega), Option.bind_some, pageAny' l hU i (by omega), Option.bind_some, eq_self, Option.bind_some, if_pos rfl, bne_self_eq_false]
          rw [atticlaw14_TableWrites.j3, if_neg (by decide), r1, Option.bind_some, r2, Option.bind_some, same r.1 (by omega) (by omega), Option.bind_some, if_pos rfl, beq_self_eq_true]
    · rw [decide_eq_false hl, if_neg (by decide)]
end Go.Proofs.Ytdjajecgojndfaa.Pure
