/- A slot that is put, and put back; a class that is given, and given back: in plain lists. -/
import Derived.Test.YtdjajecgojndfaaPrint
import Derived.Test.YtdjajecgojndfaaPureCounts
import Derived.Laws.BitsAllLaws
namespace Go.Proofs.Ytdjajecgojndfaa.Pure
open Go.RowKit Go.Proofs.Ytdjajecgojndfaa.Print Go.Proofs.YtdjajecgojndfaaW.PrintWords Go.Proofs.YtdjajecgojndfaaW.PrintMore
set_option linter.unusedSimpArgs false
set_option linter.unusedVariables false

theorem shl1 (r : Nat) (hr : r < 32) : shl .u32 1 (r : Int) = ((2 ^ r : Nat) : Int) := by
  have h : 2 ^ r < 2 ^ 32 := Nat.pow_lt_pow_right (by decide) hr
  unfold shl
  rw [Int.toNat_natCast, Nat.min_eq_left (by simp [IntKind.bits]; omega), Int.one_mul]
  have e : ((2 : Int) ^ r) = ((2 ^ r : Nat) : Int) := by simp
  rw [e]
  generalize 2 ^ r = q at h
  simp only [IntKind.wrap, IntKind.bits, IntKind.signed]
  first | (simp; omega) | omega
/-- An entry with one slot turned. -/
def flipE (x : Ent) (s : Nat) : Ent := ⟨x.f0, ((x.f1.toNat ^^^ 2 ^ s : Nat) : Int)⟩
theorem xor_is (x : Ent) (h : 0 ≤ x.f1 ∧ x.f1 < 4294967296) (s : Nat) (hs : s < 32) : (⟨x.f0, Go.bits .xor .u32 x.f1 (shl .u32 1 (s : Int))⟩ : Ent) = flipE x s := by
  have h2 : 2 ^ s < 2 ^ 32 := Nat.pow_lt_pow_right (by decide) hs
  rw [shl1 s hs, flipE]
  congr 1
  conv => lhs; rw [(nat_of h).1]
  exact u32_xor_nat _ _ (nat_of h).2 (by omega)
theorem flip_bit (x : Ent) (s j : Nat) : (flipE x s).f1.toNat.testBit j = (x.f1.toNat.testBit j != decide (s = j)) := by
  show ((x.f1.toNat ^^^ 2 ^ s : Nat) : Int).toNat.testBit j = _
  rw [Int.toNat_natCast, Nat.testBit_xor, Nat.testBit_two_pow]
theorem flip_lt (x : Ent) (h : 0 ≤ x.f1 ∧ x.f1 < 4294967296) (s n : Nat) (hs : s < n) (hn : n ≤ 32) (hx : x.f1.toNat < 2 ^ n) : 0 ≤ (flipE x s).f1 ∧ (flipE x s).f1 < 4294967296 ∧ (flipE x s).f1.toNat < 2 ^ n := by
  have h1 : x.f1.toNat ^^^ 2 ^ s < 2 ^ n := Nat.xor_lt_two_pow hx (Nat.pow_lt_pow_right (by decide) hs)
  have h2 : 2 ^ n ≤ 2 ^ 32 := Nat.pow_le_pow_right (by decide) hn
  refine ⟨by simp [flipE], ?_, by simpa [flipE] using h1⟩
  simp only [flipE]; omega
theorem flip_flip (x : Ent) (h : 0 ≤ x.f1 ∧ x.f1 < 4294967296) (s : Nat) : flipE (flipE x s) s = x := by
  have : (x.f1.toNat ^^^ 2 ^ s) ^^^ 2 ^ s = x.f1.toNat := by rw [Nat.xor_assoc, Nat.xor_self, Nat.xor_zero]
  show (⟨x.f0, ((((x.f1.toNat ^^^ 2 ^ s : Nat) : Int).toNat ^^^ 2 ^ s : Nat) : Int)⟩ : Ent) = x
  rw [Int.toNat_natCast, this, ← (nat_of h).1]
theorem nb_flip (x : Ent) (s : Nat) (hs : s < 32) : nb (flipE x s) = if x.f1.toNat.testBit s then nb x - 1 else nb x + 1 := by
  have hj : ∀ j, j ≠ s → (flipE x s).f1.toNat.testBit j = x.f1.toNat.testBit j := fun j hj => by rw [flip_bit, decide_eq_false (fun e => hj e.symm)]; simp
  have hs1 : (flipE x s).f1.toNat.testBit s = !x.f1.toNat.testBit s := by rw [flip_bit, decide_eq_true rfl]; simp
  unfold nb
  cases hb : x.f1.toNat.testBit s with
  | false =>
    rw [flip1 (p := fun j => x.f1.toNat.testBit j) (q := fun j => (flipE x s).f1.toNat.testBit j) hb (by show _ = true; rw [hs1, hb]; rfl) hj 32, if_pos hs]; simp
  | true =>
    have := flip1 (p := fun j => (flipE x s).f1.toNat.testBit j) (q := fun j => x.f1.toNat.testBit j) (s := s) (by show _ = false; rw [hs1, hb]; rfl) hb (fun j e => (hj j e).symm) 32
    rw [if_pos hs] at this
    rw [if_pos rfl]
    omega
theorem nb_pos {x : Ent} {s : Nat} (hs : s < 32) (h : x.f1.toNat.testBit s = true) : 1 ≤ nb x := by
  have := nb_flip x s hs
  rw [if_pos h] at this
  have h2 := nb_flip (flipE x s) s hs
  have hs1 : (flipE x s).f1.toNat.testBit s = false := by rw [flip_bit, decide_eq_true rfl, h]; rfl
  have e : nb (flipE (flipE x s) s) = nb x := by
    unfold nb
    congr 1; funext j
    rw [flip_bit, flip_bit]; cases x.f1.toNat.testBit j <;> cases decide (s = j) <;> rfl
  rw [e, hs1] at h2
  simp at h2; omega
theorem okX_flip {x : Ent} (h : 0 ≤ x.f1 ∧ x.f1 < 4294967296) (hx : okX x = true) {s : Nat} (hs : s < slots x.f0) : okX (flipE x s) = true := by
  unfold okX okE at hx ⊢
  simp at hx
  have := flip_lt x h s (slots x.f0) hs (slots_le _) hx.2.2
  show (decide (-1 ≤ x.f0) && (decide (x.f0 < 6) && decide ((flipE x s).f1.toNat < 2 ^ slots x.f0))) = true
  simp [hx.1, hx.2.1, this.2.2]
theorem good_set {l : List Ent} (hg : goodT l = true) (i : Nat) {y : Ent} (hy : okX y = true) : goodT (l.set i y) = true := by
  unfold goodT at hg ⊢
  simp only [List.length_set]
  simp at hg ⊢
  refine ⟨hg.1, hg.2.1, fun x hx => ?_⟩
  rcases List.mem_or_eq_of_mem_set hx with h | rfl
  · exact hg.2.2 x h
  · exact hy
theorem U_set {l : List Ent} (h : U l) (i : Nat) {y : Ent} (hy : 0 ≤ y.f1 ∧ y.f1 < 4294967296) : U (l.set i y) := fun x hx => by
  rcases List.mem_or_eq_of_mem_set hx with hm | rfl
  · exact h x hm
  · exact hy
theorem Ls_set (l : List Ent) (h : U l) (i : Nat) (hi : i < l.length) {y : Ent} (hy : 0 ≤ y.f1 ∧ y.f1 < 4294967296) : (Ls (l.set i y)).length + nb l[i] = (Ls l).length + nb y := by
  rw [Ls_sum _ (U_set h i hy), Ls_sum l h, List.map_set]
  have := sum_set (l.map nb) i (nb y) (by simpa using hi)
  simpa using this
theorem rd_set {l : List Ent} {i : Nat} (hi : i < l.length) (y : Ent) : rd_T34 (l.set i y) (i : Int) = y := by
  rw [rd_ent _ i (by simpa using hi)]; simp
theorem set_back {l : List Ent} {i : Nat} (hi : i < l.length) (y : Ent) : (l.set i y).set i l[i] = l := by
  rw [List.set_set]; exact List.set_getElem_self hi
/-- What a put leaves, where it is done. -/
theorem put_ok {l : List Ent} (h : U l) {e s : Int} {is : Bool} {y : List Ent} (hp : put l e s is = (y, 0)) :
    ∃ (i j : Nat) (hi : i < l.length), e = i ∧ s = j ∧ j < slots l[i].f0 ∧ goodT l = true ∧ l[i].f1.toNat.testBit j = !is ∧ y = l.set i (flipE l[i] j) := by
  unfold put at hp
  split at hp
  · rename_i hg
    split at hp
    · rename_i he
      split at hp
      · simp at hp
      · rename_i hs
        split at hp
        · split at hp <;> simp at hp
        · rename_i hb
          obtain ⟨i, rfl⟩ : ∃ i : Nat, e = (i : Int) := ⟨e.toNat, by omega⟩
          obtain ⟨j, rfl⟩ : ∃ j : Nat, s = (j : Int) := ⟨s.toNat, by omega⟩
          have hi : i < l.length := by omega
          have hr : rd_T34 l (i : Int) = l[i] := rd_ent l i hi
          rw [hr] at hp hs hb
          have hj : j < slots l[i].f0 := by omega
          have hj2 : j < 32 := Nat.lt_of_lt_of_le hj (slots_le _)
          rw [bitAt_in (by omega) (by omega), Int.toNat_natCast] at hb
          refine ⟨i, j, hi, rfl, rfl, hj, hg, ?_, ?_⟩
          · cases is <;> cases hx : l[i].f1.toNat.testBit j <;> simp [hx] at hb ⊢
          · have := (Prod.mk.inj hp).1
            rw [← this, Int.toNat_natCast, xor_is _ (h _ (List.getElem_mem hi)) j hj2]
    · simp at hp
  · simp at hp
theorem put_back {l : List Ent} (h : U l) {i j : Nat} (hi : i < l.length) (hj : j < slots l[i].f0) (hg : goodT l = true) (is : Bool) (hb : l[i].f1.toNat.testBit j = !is) :
    put (l.set i (flipE l[i] j)) (i : Int) (j : Int) (!is) = (l, 0) := by
  have hx := h _ (List.getElem_mem hi)
  have hok := good_all hg _ (List.getElem_mem hi)
  have hj2 : j < 32 := Nat.lt_of_lt_of_le hj (slots_le _)
  have hlt : l[i].f1.toNat < 2 ^ slots l[i].f0 := by unfold okX okE at hok; simp at hok; exact hok.2.2
  have hf := flip_lt _ hx j (slots l[i].f0) hj (slots_le _) hlt
  rw [put, if_pos (good_set hg i (okX_flip hx hok hj)), if_pos (by simp; omega), rd_set hi]
  rw [if_neg (show ¬ ((j : Int) < 0 ∨ (slots (flipE l[i] j).f0 : Int) ≤ (j : Int)) by show ¬ ((j : Int) < 0 ∨ (slots l[i].f0 : Int) ≤ (j : Int)); omega)]
  rw [bitAt_in (by omega) (by omega), Int.toNat_natCast, flip_bit, decide_eq_true rfl, hb]
  rw [if_neg (by cases is <;> simp), Int.toNat_natCast, xor_is _ ⟨hf.1, hf.2.1⟩ j hj2, flip_flip _ hx, set_back hi]
theorem tkn_is {l : List Ent} (hg : goodT l = true) {i j : Nat} (hi : i < l.length) (hj : j < 32) : tkn l (i : Int) (j : Int) = l[i].f1.toNat.testBit j := by
  rw [tkn, hg, decide_eq_true (show 0 ≤ (i : Int) ∧ (i : Int) < l.length by omega), rd_ent l i hi, bitAt_in (by omega) (by omega), Int.toNat_natCast]; rfl
theorem asg_ok {l : List Ent} {e c : Int} {y : List Ent} (ha : asg l e c = (y, 0)) :
    ∃ (i : Nat) (hi : i < l.length), e = i ∧ goodT l = true ∧ (-1 ≤ c ∧ c < 6) ∧ l[i].f1 = 0 ∧ y = l.set i ⟨c, 0⟩ := by
  unfold asg at ha
  split at ha
  · rename_i hg
    split at ha
    · rename_i he
      split at ha
      · simp at ha
      · rename_i hc
        split at ha
        · rename_i hz
          obtain ⟨i, rfl⟩ : ∃ i : Nat, e = (i : Int) := ⟨e.toNat, by omega⟩
          have hi : i < l.length := by omega
          rw [rd_ent l i hi] at hz
          exact ⟨i, hi, rfl, hg, by omega, hz, by rw [← (Prod.mk.inj ha).1, Int.toNat_natCast]⟩
        · simp at ha
    · simp at ha
  · simp at ha
theorem asg_back {l : List Ent} {i : Nat} (hi : i < l.length) (hg : goodT l = true) {c : Int} (hc : -1 ≤ c ∧ c < 6) (hz : l[i].f1 = 0) : asg (l.set i ⟨c, 0⟩) (i : Int) l[i].f0 = (l, 0) := by
  have hok := cls (good_all hg _ (List.getElem_mem hi))
  have hy : okX (⟨c, 0⟩ : Ent) = true := by
    unfold okX okE; simp [hc.1, hc.2]
    exact Nat.two_pow_pos _
  rw [asg, if_pos (good_set hg i hy), if_pos (by simp; omega), if_neg (show ¬ (l[i].f0 < -1 ∨ 6 ≤ l[i].f0) by omega), rd_set hi, if_pos rfl, Int.toNat_natCast]
  have e : (⟨l[i].f0, 0⟩ : Ent) = l[i] := by rw [← hz]
  rw [e, set_back hi]
end Go.Proofs.Ytdjajecgojndfaa.Pure
