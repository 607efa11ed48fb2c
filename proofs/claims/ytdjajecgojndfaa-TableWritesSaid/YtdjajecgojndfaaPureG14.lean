/- A table's blocks. -/
import Derived.Test.YtdjajecgojndfaaPrint
import Derived.Test.YtdjajecgojndfaaPureB14
namespace Go.Proofs.Ytdjajecgojndfaa.Pure
open Go.RowKit Go.Proofs.Ytdjajecgojndfaa.Print Go.Proofs.YtdjajecgojndfaaW.PrintWords Go.Proofs.YtdjajecgojndfaaW.PrintMore
set_option linter.unusedSimpArgs false
set_option linter.unusedVariables false

def zE : Ent := ⟨-1, 0⟩
theorem bt_z : bt zE = List.replicate 8 0 := by decide +kernel
theorem okX_z : okX zE = true := by decide +kernel
/-- The k-th entry of the i-th block, in bytes. -/
def gE (l : List Ent) (i k : Nat) : List Int := bt (l.getD (32 * i + k) zE)
theorem gE_len (l : List Ent) (i k : Nat) : (gE l i k).length = 8 := rfl
def pgU (l : List Ent) (i n : Nat) : List Int := (List.range n).flatMap (gE l i)
def pg (l : List Ent) (i : Nat) : List Int := pgU l i 32
theorem pgU_succ (l : List Ent) (i n : Nat) : pgU l i (n + 1) = pgU l i n ++ gE l i n := by
  rw [pgU, List.range_succ, List.flatMap_append, pgU]
  simp
theorem pgU_len (l : List Ent) (i : Nat) : ∀ n, (pgU l i n).length = 8 * n
  | 0 => rfl
  | n + 1 => by rw [pgU_succ, List.length_append, pgU_len l i n, gE_len]; omega
theorem pgU_zero (l : List Ent) (i m : Nat) (hz : l.length ≤ 32 * i + m) : ∀ d, pgU l i m ++ List.replicate (8 * d) 0 = pgU l i (m + d)
  | 0 => by simp
  | d + 1 => by
    rw [show m + (d + 1) = (m + d) + 1 from by omega, pgU_succ, ← pgU_zero l i m hz d, List.append_assoc]
    congr 1
    rw [show 8 * (d + 1) = 8 * d + 8 from by omega, ← List.replicate_append_replicate]
    congr 1
    rw [gE, show l.getD (32 * i + (m + d)) zE = zE from by rw [List.getD_eq_getElem?_getD, List.getElem?_eq_none (by omega)]; rfl, bt_z]
theorem wmul32 {i : Nat} (h : i < 10000000) : wrap64 (32 * (i : Int)) = ((32 * i : Nat) : Int) := by rw [w64 (by omega) (by omega)]; omega
theorem wmul8 {i : Nat} (h : i < 10000000) : wrap64 (8 * (i : Int)) = ((8 * i : Nat) : Int) := by rw [w64 (by omega) (by omega)]; omega
theorem pagesF (n : Nat) (h : n ≤ 400) : table_pages.f (n : Int) = some (((n + 31) / 32 : Nat) : Int) := by
  rw [table_pages.f, w64 (n := (n : Int) + 32) (by omega) (by omega), w64 (n := (n : Int) + 32 - 1) (by omega) (by omega), Int.tdiv_eq_ediv_of_nonneg (by omega), w64 (by omega) (by omega)]
  congr 1; omega
theorem getD_in {l : List Ent} {j : Nat} (h : j < l.length) : l.getD j zE = l[j] := by rw [List.getD_eq_getElem?_getD, List.getElem?_eq_getElem h]; rfl
theorem page_l0 (l : List Ent) (hU : U l) (hg : goodT l = true) (i : Nat) (s : List Ent) (hs : s.length ≤ 32) (hsl : ∀ j (h : j < s.length), 32 * i + j < l.length ∧ s[j] = l.getD (32 * i + j) zE) :
    ∀ (m j fuel : Nat), j + m = s.length → 100 ≤ fuel → table_Page.l0 (m + 1 + fuel) (pgU l i j) s (s.length : Int) (j : Int) = some (pgU l i s.length ++ List.replicate (256 - 8 * s.length) 0, 0)
  | 0, j, fuel, hj, hf => by
    obtain rfl : j = s.length := by omega
    rw [show 0 + 1 + fuel = fuel + 1 from by omega, table_Page.l0, if_neg (by omega), pgU_len]
  | m + 1, j, fuel, hj, hf => by
    have hlt : j < s.length := by omega
    obtain ⟨h1, h2⟩ := hsl j hlt
    have hmem : s[j] ∈ l := by rw [h2, getD_in h1]; exact List.getElem_mem _
    rw [show m + 1 + 1 + fuel = (m + 1 + fuel) + 1 from by omega, table_Page.l0, if_pos (by omega), if_pos (by omega), if_pos (by omega), rd_ent s j hlt, bytesX _ (hU _ hmem) (by omega), good_all hg _ hmem, if_pos rfl, Option.bind_some]
    simp only
    rw [if_pos (by rw [pgU_len, bt_len]; omega), wsucc (by omega), show pgU l i j ++ bt s[j] = pgU l i (j + 1) from by rw [pgU_succ, gE, h2], page_l0 l hU hg i s hs hsl m (j + 1) fuel (by omega) hf]
theorem page (l : List Ent) (hU : U l) (hg : goodT l = true) (i : Nat) (hi : i < (l.length + 31) / 32) {k : Nat} (hk : 300 ≤ k) : table_Page.f k l (i : Int) = some (pg l i, 0) := by
  obtain ⟨k, rfl⟩ : ∃ k', k = k' + 1 := ⟨k - 1, by omega⟩
  obtain ⟨g1, g2⟩ := good_len hg
  have hmn : mn (((32 * (i + 1) : Nat)) : Int) (l.length : Int) = ((min (32 * (i + 1)) l.length : Nat) : Int) := by unfold mn; split <;> omega
  rw [table_Page.f, check l hU (by omega), hg, if_pos rfl, Option.bind_some, if_pos rfl, if_neg (by omega), pagesF _ (by omega), Option.bind_some, decide_eq_false (by omega), table_Page.j0, if_neg (by decide), if_pos (by decide), wmul32 (by omega), wsucc (by omega), wmul32 (by omega), hmn, if_pos (by omega), if_pos (by omega), if_pos (by omega), Int.toNat_natCast, Int.toNat_natCast, Option.bind_some]
  have hsl : ((l.take (min (32 * (i + 1)) l.length)).drop (32 * i)).length = min (32 * (i + 1)) l.length - 32 * i := by rw [List.length_drop, List.length_take]; omega
  have := page_l0 l hU hg i ((l.take (min (32 * (i + 1)) l.length)).drop (32 * i)) (by omega) (fun j hj => by
    refine ⟨by omega, ?_⟩
    rw [getD_in (by omega), List.getElem_drop, List.getElem_take]) ((l.take (min (32 * (i + 1)) l.length)).drop (32 * i)).length 0 (k - ((l.take (min (32 * (i + 1)) l.length)).drop (32 * i)).length - 1) (by omega) (by omega)
  rw [show ((l.take (min (32 * (i + 1)) l.length)).drop (32 * i)).length + 1 + (k - ((l.take (min (32 * (i + 1)) l.length)).drop (32 * i)).length - 1) = k from by omega] at this
  refine Eq.trans this ?_
  congr 2
  by_cases hf : 32 * (i + 1) ≤ l.length
  · have e : ((l.take (min (32 * (i + 1)) l.length)).drop (32 * i)).length = 32 := by omega
    rw [e]; simp [pg]
  · have e : ((l.take (min (32 * (i + 1)) l.length)).drop (32 * i)).length = l.length - 32 * i := by omega
    rw [e, show 256 - 8 * (l.length - 32 * i) = 8 * (32 - (l.length - 32 * i)) from by omega, pgU_zero l i (l.length - 32 * i) (by omega), pg]
    congr 1; omega
end Go.Proofs.Ytdjajecgojndfaa.Pure
