/- An entry's bytes and what is read of any bytes. -/
import Derived.Test.YtdjajecgojndfaaPrint
import Derived.Test.YtdjajecgojndfaaPureT14
import Derived.Laws.BitsAllLaws
import Derived.Lib.Bytes
namespace Go.Proofs.Ytdjajecgojndfaa.Pure
open Go.RowKit Go.Proofs.Ytdjajecgojndfaa.Print Go.Proofs.YtdjajecgojndfaaW.PrintWords Go.Proofs.YtdjajecgojndfaaW.PrintMore
set_option linter.unusedSimpArgs false
set_option linter.unusedVariables false

def By (l : List Int) : Prop := ∀ y ∈ l, 0 ≤ y ∧ y < 256
theorem u8_range {n : Int} (h : (Lit.int .u8 n).wf = true) : 0 ≤ n ∧ n < 256 := by
  have : 0 ≤ n ∧ n ≤ 255 := by simpa [Lit.wf, IntKind.min, IntKind.max, IntKind.signed, IntKind.bits] using h
  omega
/-- An entry's bytes. -/
def bt (x : Ent) : List Int := [(wrap64 (x.f0 + 1)) % 256, 0, 0, 0] ++ row x.f1.toNat
theorem bt_len (x : Ent) : (bt x).length = 8 := rfl
theorem bytesX (x : Ent) (h : 0 ≤ x.f1 ∧ x.f1 < 4294967296) {k : Nat} (hk : 100 ≤ k) : table_Bytes.f k x.f0 x.f1 = some (if okX x then (bt x, 0) else ([], 140)) := by
  obtain ⟨e, hl⟩ := nat_of h
  have := bytes x.f0 x.f1.toNat hl hk
  rw [← e] at this
  exact this
/-- The word of four bytes. -/
def wd (b4 b5 b6 b7 : Int) : Int := b4 + 256 * b5 + 65536 * b6 + 16777216 * b7
theorem or4 (b4 b5 b6 b7 : Nat) (h4 : b4 < 256) (h5 : b5 < 256) (h6 : b6 < 256) (h7 : b7 < 256) :
    Go.bits .or .u32 (Go.bits .or .u32 (Go.bits .or .u32 ((b4 : Int) % 4294967296) ((((b5 : Int) % 4294967296) * 256) % 4294967296)) ((((b6 : Int) % 4294967296) * 65536) % 4294967296)) ((((b7 : Int) % 4294967296) * 16777216) % 4294967296) = wd b4 b5 b6 b7 := by
  have e4 : (b4 : Int) % 4294967296 = (b4 : Int) := by omega
  have e5 : (((b5 : Int) % 4294967296) * 256) % 4294967296 = ((2 ^ 8 * b5 : Nat) : Int) := by omega
  have e6 : (((b6 : Int) % 4294967296) * 65536) % 4294967296 = ((2 ^ 16 * b6 : Nat) : Int) := by omega
  have e7 : (((b7 : Int) % 4294967296) * 16777216) % 4294967296 = ((2 ^ 24 * b7 : Nat) : Int) := by omega
  have o1 : b4 ||| 2 ^ 8 * b5 = 2 ^ 8 * b5 + b4 := by rw [Nat.or_comm]; exact (Nat.two_pow_add_eq_or_of_lt (by omega) b5).symm
  have o2 : (2 ^ 8 * b5 + b4) ||| 2 ^ 16 * b6 = 2 ^ 16 * b6 + (2 ^ 8 * b5 + b4) := by rw [Nat.or_comm]; exact (Nat.two_pow_add_eq_or_of_lt (by omega) b6).symm
  have o3 : (2 ^ 16 * b6 + (2 ^ 8 * b5 + b4)) ||| 2 ^ 24 * b7 = 2 ^ 24 * b7 + (2 ^ 16 * b6 + (2 ^ 8 * b5 + b4)) := by rw [Nat.or_comm]; exact (Nat.two_pow_add_eq_or_of_lt (by omega) b7).symm
  rw [e4, e5, e6, e7, u32_or_nat _ _ (by omega) (by omega), o1, u32_or_nat _ _ (by omega) (by omega), o2, u32_or_nat _ _ (by omega) (by omega), o3, wd]
  omega
/-- What is read of any bytes. -/
def prs : List Int → Int × Int × Int
  | [b0, b1, b2, b3, b4, b5, b6, b7] => if okE (b0 - 1) (wd b4 b5 b6 b7).toNat = true ∧ b1 = 0 ∧ b2 = 0 ∧ b3 = 0 then (b0 - 1, wd b4 b5 b6 b7, 0) else (0, 0, 140)
  | _ => (0, 0, 140)
theorem prs_not {b : List Int} (h : b.length ≠ 8) : prs b = (0, 0, 140) := by
  unfold prs
  split
  · exact absurd rfl h
  · rfl
theorem u8_eq {x y : Int} (hx : 0 ≤ x ∧ x < 256) (hy : 0 ≤ y ∧ y < 256) : (UInt8.ofNat x.toNat == UInt8.ofNat y.toNat) = (x == y) := by
  rw [Bool.eq_iff_iff, beq_iff_eq, beq_iff_eq]
  constructor
  · intro h
    have h1 := congrArg UInt8.toNat h
    rw [UInt8.toNat_ofNat', UInt8.toNat_ofNat'] at h1
    omega
  · exact fun h => by rw [h]
theorem eq_self (l : List Int) : bytes_Equal.f l l = some true := by rw [bytes_Equal.f]; simp
theorem row_wd (b4 b5 b6 b7 : Int) (h4 : 0 ≤ b4 ∧ b4 < 256) (h5 : 0 ≤ b5 ∧ b5 < 256) (h6 : 0 ≤ b6 ∧ b6 < 256) (h7 : 0 ≤ b7 ∧ b7 < 256) : row (wd b4 b5 b6 b7).toNat = [b4, b5, b6, b7] := by
  have hn : ((wd b4 b5 b6 b7).toNat : Int) = wd b4 b5 b6 b7 := by unfold wd; omega
  unfold row
  rw [hn]
  unfold wd
  congr 1
  · omega
  congr 1
  · omega
  congr 1
  · omega
  congr 1
  omega
theorem parse (b : List Int) (hb : By b) {k : Nat} (hk : 100 ≤ k) : table_Parse.f k b = some (prs b) := by
  rw [table_Parse.f]
  by_cases h8 : b.length = 8
  · match b, h8 with
    | [b0, b1, b2, b3, b4, b5, b6, b7], _ =>
      have g : ∀ {y}, y ∈ [b0, b1, b2, b3, b4, b5, b6, b7] → 0 ≤ y ∧ y < 256 := fun h => hb _ h
      have h0 := g (y := b0) (by simp)
      have h1 := g (y := b1) (by simp)
      have h2 := g (y := b2) (by simp)
      have h3 := g (y := b3) (by simp)
      have h4 := g (y := b4) (by simp)
      have h5 := g (y := b5) (by simp)
      have h6 := g (y := b6) (by simp)
      have h7 := g (y := b7) (by simp)
      clear g hb
      obtain ⟨n4, rfl, l4⟩ : ∃ n : Nat, b4 = (n : Int) ∧ n < 256 := ⟨b4.toNat, by omega, by omega⟩
      obtain ⟨n5, rfl, l5⟩ : ∃ n : Nat, b5 = (n : Int) ∧ n < 256 := ⟨b5.toNat, by omega, by omega⟩
      obtain ⟨n6, rfl, l6⟩ : ∃ n : Nat, b6 = (n : Int) ∧ n < 256 := ⟨b6.toNat, by omega, by omega⟩
      obtain ⟨n7, rfl, l7⟩ : ∃ n : Nat, b7 = (n : Int) ∧ n < 256 := ⟨b7.toNat, by omega, by omega⟩
      have hw : 0 ≤ wd n4 n5 n6 n7 ∧ wd n4 n5 n6 n7 < 4294967296 := by unfold wd; omega
      have hR := row_wd n4 n5 n6 n7 h4 h5 h6 h7
      have r0 : rd [b0, b1, b2, b3, (n4 : Int), n5, n6, n7] 0 = b0 := rfl
      have r4 : rd [b0, b1, b2, b3, (n4 : Int), n5, n6, n7] 4 = n4 := rfl
      have r5 : rd [b0, b1, b2, b3, (n4 : Int), n5, n6, n7] 5 = n5 := rfl
      have r6 : rd [b0, b1, b2, b3, (n4 : Int), n5, n6, n7] 6 = n6 := rfl
      have r7 : rd [b0, b1, b2, b3, (n4 : Int), n5, n6, n7] 7 = n7 := rfl
      have hl : (([b0, b1, b2, b3, (n4 : Int), n5, n6, n7] : List Int).length : Int) = 8 := rfl
      have hX := bytesX (⟨b0 - 1, wd n4 n5 n6 n7⟩ : Ent) hw hk
      have hbt : bt (⟨b0 - 1, wd n4 n5 n6 n7⟩ : Ent) = [b0, 0, 0, 0, (n4 : Int), n5, n6, n7] := by
        show [(wrap64 (b0 - 1 + 1)) % 256, 0, 0, 0] ++ row (wd n4 n5 n6 n7).toNat = _
        rw [hR, w64 (by omega) (by omega), show (b0 - 1 + 1) % 256 = b0 from by omega]
        rfl
      rw [hbt] at hX
      rw [hl, if_pos rfl, if_pos (by decide), if_pos (by decide), if_pos (by decide), if_pos (by decide), if_pos (by decide), r0, r4, r5, r6, r7, or4 n4 n5 n6 n7 l4 l5 l6 l7, w64 (n := b0) (by omega) (by omega), w64 (by omega) (by omega), hX, Option.bind_some, prs]
      show (if (if okE (b0 - 1) (wd n4 n5 n6 n7).toNat = true then _ else _ : List Int × Int).2 = 0 then _ else _) = _
      cases hok : okE (b0 - 1) (wd n4 n5 n6 n7).toNat with
      | false => rfl
      | true =>
        have hx : okX (⟨b0 - 1, wd n4 n5 n6 n7⟩ : Ent) = true := hok
        rw [hx, if_pos rfl, if_pos rfl]
        have hE : bytes_Equal.f [b0, 0, 0, 0, (n4 : Int), n5, n6, n7] [b0, b1, b2, b3, (n4 : Int), n5, n6, n7] = some (decide (b1 = 0 ∧ b2 = 0 ∧ b3 = 0)) := by
          rw [bytes_Equal.f, Lib.strOfNums_toList, Lib.strOfNums_toList]
          simp only [Lib.bytesOf, List.map_cons, List.map_nil, List.cons_beq_cons, u8_eq (by omega : (0 : Int) ≤ 0 ∧ (0 : Int) < 256) h1, u8_eq (by omega : (0 : Int) ≤ 0 ∧ (0 : Int) < 256) h2, u8_eq (by omega : (0 : Int) ≤ 0 ∧ (0 : Int) < 256) h3]
          congr 1
          rw [Bool.eq_iff_iff, decide_eq_true_iff]
          simp only [Bool.and_eq_true, beq_iff_eq, beq_self_eq_true, true_and, and_true]
          constructor <;> (intro h; omega)
        rw [hE, Option.bind_some]
        by_cases hz : b1 = 0 ∧ b2 = 0 ∧ b3 = 0
        · rw [decide_eq_true hz, if_pos rfl, if_pos ⟨rfl, hz⟩]
        · rw [decide_eq_false hz, if_neg (by decide), if_neg (fun h => hz h.2)]
  · rw [if_neg (by omega), prs_not h8]
theorem prs_bt (x : Ent) (h : 0 ≤ x.f1 ∧ x.f1 < 4294967296) (hx : okX x = true) : prs (bt x) = (x.f0, x.f1, 0) := by
  obtain ⟨c0, c1⟩ := cls hx
  have hw : wd (x.f1.toNat % 256) (x.f1.toNat / 256 % 256) (x.f1.toNat / 65536 % 256) (x.f1.toNat / 16777216 % 256) = x.f1 := by unfold wd; omega
  have he : (wrap64 (x.f0 + 1)) % 256 - 1 = x.f0 := by rw [w64 (by omega) (by omega)]; omega
  show (if okE ((wrap64 (x.f0 + 1)) % 256 - 1) (wd (x.f1.toNat % 256) (x.f1.toNat / 256 % 256) (x.f1.toNat / 65536 % 256) (x.f1.toNat / 16777216 % 256)).toNat = true ∧ (0 : Int) = 0 ∧ (0 : Int) = 0 ∧ (0 : Int) = 0 then ((wrap64 (x.f0 + 1)) % 256 - 1, wd (x.f1.toNat % 256) (x.f1.toNat / 256 % 256) (x.f1.toNat / 65536 % 256) (x.f1.toNat / 16777216 % 256), 0) else (0, 0, 140)) = _
  rw [hw, he, if_pos ⟨hx, rfl, rfl, rfl⟩]
/-- What is read of bytes that may be writes them again. -/
theorem prs_back (b : List Int) (hb : By b) {c a : Int} (h : prs b = (c, a, 0)) : 0 ≤ a ∧ a < 4294967296 ∧ okX ⟨c, a⟩ = true ∧ bt ⟨c, a⟩ = b := by
  unfold prs at h
  split at h
  · rename_i b0 b1 b2 b3 b4 b5 b6 b7
    split at h
    · rename_i hz
      simp only [Prod.mk.injEq] at h
      obtain ⟨rfl, rfl, _⟩ := h
      obtain ⟨hok, rfl, rfl, rfl⟩ := hz
      have h0 := hb b0 (by simp)
      have h4 := hb b4 (by simp)
      have h5 := hb b5 (by simp)
      have h6 := hb b6 (by simp)
      have h7 := hb b7 (by simp)
      refine ⟨by unfold wd; omega, by unfold wd; omega, hok, ?_⟩
      show [(wrap64 (b0 - 1 + 1)) % 256, 0, 0, 0] ++ row (wd b4 b5 b6 b7).toNat = _
      rw [row_wd b4 b5 b6 b7 h4 h5 h6 h7, w64 (by omega) (by omega), show (b0 - 1 + 1) % 256 = b0 from by omega]
      rfl
    · simp at h
  · simp at h
end Go.Proofs.Ytdjajecgojndfaa.Pure
