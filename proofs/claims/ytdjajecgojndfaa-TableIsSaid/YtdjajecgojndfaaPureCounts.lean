/- What a class has, which slots are taken: in plain lists. -/
import Derived.Test.YtdjajecgojndfaaPrint
import Derived.Test.YtdjajecgojndfaaPureT14
namespace Go.Proofs.Ytdjajecgojndfaa.Pure
open Go.RowKit Go.Proofs.Ytdjajecgojndfaa.Print Go.Proofs.YtdjajecgojndfaaW.PrintWords Go.Proofs.YtdjajecgojndfaaW.PrintMore
set_option linter.unusedSimpArgs false
set_option linter.unusedVariables false

abbrev Tal := S41
theorem flat_if {α β : Type} (p : α → Bool) (c : β) : ∀ xs : List α, (xs.flatMap fun x => if p x = true then [c] else []) = List.replicate (xs.countP p) c
  | [] => rfl
  | x :: xs => by
    rw [List.flatMap_cons, flat_if p c xs, List.countP_cons]
    cases p x
    · simp
    · simp [List.replicate_succ]
theorem fold_rep (p q r : Nat) (hp : p ≤ 32) (hq : q ≤ 32) (hr : r ≤ 32) : ∀ (n x y z : Nat), x + n * 32 ≤ 900000000 → y + n * 32 ≤ 900000000 → z + n * 32 ≤ 900000000 →
    (List.replicate n (⟨(p : Int), (q : Int), (r : Int)⟩ : Tal)).foldl sum14.add ⟨(x : Int), (y : Int), (z : Int)⟩ = ⟨((x + n * p : Nat) : Int), ((y + n * q : Nat) : Int), ((z + n * r : Nat) : Int)⟩
  | 0, x, y, z, _, _, _ => by simp
  | n + 1, x, y, z, hx, hy, hz => by
    rw [List.replicate_succ, List.foldl_cons]
    have e : sum14.add ⟨(x : Int), (y : Int), (z : Int)⟩ (⟨(p : Int), (q : Int), (r : Int)⟩ : Tal) = ⟨((x + p : Nat) : Int), ((y + q : Nat) : Int), ((z + r : Nat) : Int)⟩ := by
      simp only [sum14.add]
      rw [wadd (by omega), wadd (by omega), wadd (by omega)]
    rw [e, fold_rep p q r hp hq hr n (x + p) (y + q) (z + r) (by omega) (by omega) (by omega)]
    simp only [Nat.add_mul, Nat.one_mul]
    congr 2 <;> omega
/-- The slots that are taken. -/
def Ls (l : List Ent) : List (Int × Int) := all14.L true l l.length 0
def Ec (l : List Ent) (c : Int) : Nat := l.countP fun x => x.f0 == c
def Tc (l : List Ent) (c : Int) : Nat := (Ls l).countP fun x => (rd_T34 l x.1).f0 == c
theorem Ls_len (l : List Ent) : (Ls l).length ≤ 32 * l.length := by have := cnt14.L_len true l l.length 0; simpa [Ls] using this
theorem exts_eq (c s : Int) (l : List Ent) : cnt14.exts c s l = List.replicate (Ec l c) ⟨1, s, 0⟩ := by
  rw [cnt14.exts, Ec, ← flat_if]
  congr 1; funext x; unfold cnt14.one
  by_cases h : x.f0 = c <;> simp [h]
theorem hits_eq (c : Int) (l : List Ent) : (Ls l).flatMap (cnt14.hit l c) = List.replicate (Tc l c) ⟨0, 0, 1⟩ := by
  rw [Tc, ← flat_if]
  congr 1; funext x; unfold cnt14.hit
  by_cases h : (rd_T34 l x.1).f0 = c <;> simp [h]
theorem sum_all (l : List Ent) (hl : l.length ≤ 400) (c : Int) : sum14.of (cnt14.all c (slots c : Int) l (all14.L true l l.length 0)) = ⟨(Ec l c : Int), ((Ec l c * slots c : Nat) : Int), (Tc l c : Int)⟩ := by
  have h1 : Ec l c ≤ l.length := List.countP_le_length
  have h2 : Tc l c ≤ 32 * l.length := Nat.le_trans List.countP_le_length (Ls_len l)
  have h3 := slots_le c
  have e1 := fold_rep 1 (slots c) 0 (by omega) h3 (by omega) (Ec l c) 0 0 0 (by omega) (by omega) (by omega)
  have h4 : Ec l c * slots c ≤ 400 * 32 := Nat.mul_le_mul (by omega) h3
  have e2 := fold_rep 0 0 1 (by omega) (by omega) (by omega) (Tc l c) (0 + Ec l c * 1) (0 + Ec l c * slots c) (0 + Ec l c * 0) (by omega) (by omega) (by omega)
  rw [sum14.of, cnt14.all, List.foldl_append, exts_eq, show all14.L true l l.length 0 = Ls l from rfl, hits_eq]
  have e3 : (List.replicate (Ec l c) (⟨1, (slots c : Int), 0⟩ : Tal)).foldl sum14.add ⟨0, 0, 0⟩ = ⟨((0 + Ec l c * 1 : Nat) : Int), ((0 + Ec l c * slots c : Nat) : Int), ((0 + Ec l c * 0 : Nat) : Int)⟩ := e1
  rw [e3]
  refine Eq.trans e2 ?_
  congr 2 <;> omega
theorem countF (l : List Ent) (h : U l) (hl : l.length ≤ 400) (c : Int) (h0 : -1 ≤ c) (h1 : c < 6) {k : Nat} (hk : 100 ≤ k) :
    table_Count.f k l c = some (if goodT l then ((Ec l c : Int), ((Ec l c * slots c : Nat) : Int), (Tc l c : Int)) else (0, 0, 0)) := by
  rw [table_Count.f, check l h hk, Option.bind_some]
  cases goodT l with
  | false => rfl
  | true => rw [if_pos rfl, if_pos rfl, if_pos rfl, geom_slots c h0 h1, Option.bind_some, sum_all l hl c]
/-- Each is of one of the seven classes. -/
theorem part7 {α : Type} (g : α → Int) : ∀ xs : List α, (∀ x ∈ xs, -1 ≤ g x ∧ g x < 6) →
    xs.countP (fun x => g x == -1) + xs.countP (fun x => g x == 0) + xs.countP (fun x => g x == 1) + xs.countP (fun x => g x == 2) + xs.countP (fun x => g x == 3) + xs.countP (fun x => g x == 4) + xs.countP (fun x => g x == 5) = xs.length
  | [], _ => rfl
  | x :: xs, h => by
    have ih := part7 g xs (fun y hy => h y (List.mem_cons_of_mem _ hy))
    have hx := h x List.mem_cons_self
    simp only [List.countP_cons, List.length_cons]
    have : g x = -1 ∨ g x = 0 ∨ g x = 1 ∨ g x = 2 ∨ g x = 3 ∨ g x = 4 ∨ g x = 5 := by omega
    rcases this with e | e | e | e | e | e | e <;> simp [e] <;> omega
theorem Ls_mem {l : List Ent} {x : Int × Int} (h : x ∈ Ls l) : 0 ≤ x.1 ∧ x.1 < l.length := by
  simp only [Ls, all14.L, if_true, all14.upto, all14.ones, List.mem_append, List.mem_flatMap, List.mem_range, List.mem_map, List.mem_filter] at h
  rcases h with ⟨i, hi, j, _, rfl⟩ | ⟨j, hj, rfl⟩
  · simp; omega
  · simp at hj
theorem Ec_all {l : List Ent} (hg : goodT l = true) : Ec l (-1) + Ec l 0 + Ec l 1 + Ec l 2 + Ec l 3 + Ec l 4 + Ec l 5 = l.length :=
  part7 (fun x : Ent => x.f0) l fun x hx => cls (good_all hg x hx)
theorem Tc_all {l : List Ent} (hg : goodT l = true) : Tc l (-1) + Tc l 0 + Tc l 1 + Tc l 2 + Tc l 3 + Tc l 4 + Tc l 5 = (Ls l).length :=
  part7 (fun x : Int × Int => (rd_T34 l x.1).f0) (Ls l) fun x hx => cls (good_all hg _ (rd_in (Ls_mem hx)))
/-! ### how many slots are taken -/
def nb (x : Ent) : Nat := (List.range 32).countP fun j => x.f1.toNat.testBit j
theorem bit_is (x : Ent) (h : 0 ≤ x.f1 ∧ x.f1 < 4294967296) (j : Nat) (hj : j < 32) : all14.bit x j = x.f1.toNat.testBit j := by
  have h1 := all14.get x j hj
  have e : all14.row x = row x.f1.toNat := by
    have := (nat_of h).1
    unfold all14.row row
    rw [← this]
  rw [e, get_bit _ _ hj] at h1
  exact (Option.some.inj h1).symm
theorem ones_len (x : Ent) (h : 0 ≤ x.f1 ∧ x.f1 < 4294967296) (i : Nat) : (all14.ones i x 32).length = nb x := by
  rw [all14.ones, List.length_map, nb, List.countP_eq_length_filter]
  congr 1
  refine List.filter_congr fun j hj => bit_is x h j (List.mem_range.1 hj)
theorem upto_len (l : List Ent) (h : U l) : ∀ i, i ≤ l.length → (all14.upto l i).length = ((l.take i).map nb).sum
  | 0, _ => by simp [all14.upto]
  | i + 1, hi => by
    have ih := upto_len l h i (by omega)
    have hx : rd_T34 l (i : Int) = l[i] := rd_ent l i (by omega)
    rw [all14.upto, List.range_succ, List.flatMap_append, List.length_append, List.take_add_one, List.map_append, List.sum_append, List.getElem?_eq_getElem (by omega)]
    rw [show ((List.range i).flatMap fun j => all14.ones j (rd_T34 l (j : Int)) 32).length = (all14.upto l i).length from rfl, ih]
    simp only [List.flatMap_cons, List.flatMap_nil, List.append_nil, hx, ones_len _ (h _ (List.getElem_mem _)), Option.toList_some, List.map_cons, List.map_nil, List.sum_cons, List.sum_nil, Nat.add_zero]
theorem Ls_sum (l : List Ent) (h : U l) : (Ls l).length = (l.map nb).sum := by
  have := upto_len l h l.length (Nat.le_refl _)
  rw [List.take_length] at this
  rw [Ls, all14.L, if_pos rfl, List.length_append, this, all14.ones]; simp
theorem sum_set : ∀ (xs : List Nat) (e v : Nat) (he : e < xs.length), (xs.set e v).sum + xs[e] = xs.sum + v
  | x :: xs, 0, v, _ => by simp; omega
  | x :: xs, e + 1, v, he => by
    have := sum_set xs e v (by simpa using he)
    simp only [List.set_cons_succ, List.sum_cons, List.getElem_cons_succ]; omega
theorem flip1 {p q : Nat → Bool} {s : Nat} (h0 : p s = false) (h1 : q s = true) (h : ∀ j, j ≠ s → q j = p j) : ∀ n, (List.range n).countP q = (List.range n).countP p + if s < n then 1 else 0
  | 0 => rfl
  | n + 1 => by
    rw [List.range_succ, List.countP_append, List.countP_append, flip1 h0 h1 h n, List.countP_singleton, List.countP_singleton]
    by_cases e : n = s
    · subst e; simp [h0, h1]
    · rw [h n e]
      by_cases hs : s < n
      · rw [if_pos hs, if_pos (show s < n + 1 by omega)]; omega
      · rw [if_neg hs, if_neg (show ¬ s < n + 1 by omega)]; omega
end Go.Proofs.Ytdjajecgojndfaa.Pure
