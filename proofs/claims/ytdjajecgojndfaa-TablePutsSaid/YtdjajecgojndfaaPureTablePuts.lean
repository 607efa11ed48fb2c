/- What becomes of a table by a class that an extent gets, by a slot that is taken or let go: the law's pure part. -/
import Derived.Test.YtdjajecgojndfaaPrint
import Derived.Test.YtdjajecgojndfaaPurePuts
namespace Go.Proofs.Ytdjajecgojndfaa.Pure
open Go.RowKit Go.Proofs.Ytdjajecgojndfaa.Print Go.Proofs.YtdjajecgojndfaaW.PrintWords Go.Proofs.YtdjajecgojndfaaW.PrintMore
set_option linter.unusedSimpArgs false
set_option linter.unusedVariables false

theorem puts_end (l : List Ent) (h : U l) (hl : l.length ≤ 400) (e s : Int) (is : Bool) (s0 : -9223372036854775808 ≤ s) (s1 : s ≤ 9223372036854775807) (n : Int) (z : List Ent) {K : Nat} (hK : 600 ≤ K) :
    atticlaw14_TablePuts.l0 (K + 1) e s is n n l l z = some true := by
  obtain ⟨k, rfl⟩ : ∃ k', K = k' + 1 := ⟨K - 1, by omega⟩
  rw [atticlaw14_TablePuts.l0, if_neg (by omega), putT l h hl e s is s0 s1 (by omega), Option.bind_some, putT' l h hl e s is s0 s1 (by omega), Option.bind_some, same _ (put_len l hl e s is) (by omega), Option.bind_some, if_pos rfl, if_pos rfl,
    takenT l h e s s0 s1 (by omega), Option.bind_some, takenT' l h e s (by omega), Option.bind_some]
  rw [atticlaw14_TablePuts.j3, if_neg (by simp), clone l hl, Option.bind_some, same l hl (by omega), Option.bind_some, if_pos rfl, Option.bind_some]
theorem puts_loop (l : List Ent) (h : U l) (hl : l.length ≤ 400) (e s : Int) (is : Bool) (s0 : -9223372036854775808 ≤ s) (s1 : s ≤ 9223372036854775807) {K : Nat} (hK : 600 ≤ K) :
    ∀ (m i : Nat) (z : List Ent), i + m = z.length → z.length ≤ 400 → atticlaw14_TablePuts.l0 (m + (K + 1)) e s is (z.length : Int) (i : Int) l l z = some true
  | 0, i, z, hi, hz => by
    rw [show 0 + (K + 1) = K + 1 from by omega, show (i : Int) = (z.length : Int) from by omega]
    exact puts_end l h hl e s is s0 s1 _ z hK
  | m + 1, i, z, hi, hz => by
    rw [show m + 1 + (K + 1) = (m + (K + 1)) + 1 from by omega, atticlaw14_TablePuts.l0, if_pos (by omega), if_pos (by omega), if_pos (by omega), wsucc (by omega)]
    have := puts_loop l h hl e s is s0 s1 hK m (i + 1) (z.set (i : Int).toNat ⟨(rd_T34 z (i : Int)).f0, Go.bits .xor .u32 ((rd_T34 z (i : Int)).f1) 255⟩) (by simp; omega) (by simpa using hz)
    rwa [List.length_set] at this
theorem TablePuts : atticlaw14_TablePuts.Pure := by
  rintro ⟨l⟩ e c s is ⟨h0, h1⟩ he hc hs
  have hU : U l := U_of h1
  obtain ⟨s0, s1⟩ := i64_range hs
  refine ⟨2000 + 1 + 1, ?_⟩
  show atticlaw14_TablePuts.f (2000 + 1 + 1) l e c s is = some true
  rw [atticlaw14_TablePuts.f, begun (by omega), Option.bind_some, if_pos rfl, atticlaw14_few.f, Option.bind_some, atticlaw14_TablePuts.j0]
  by_cases hl : (l.length : Int) ≤ 400
  · have hl' : l.length ≤ 400 := by omega
    rw [decide_eq_true hl, if_neg (by decide), clone' l hl', Option.bind_some, assign l hU hl' e c (by omega), Option.bind_some, assign' l hU hl' e c (by omega), Option.bind_some, same _ (asg_len l hl' e c) (by omega), Option.bind_some, if_pos rfl]
    rw [atticlaw14_TablePuts.j1, if_neg (by simp)]
    have hz := asg_len l hl' e c
    have := puts_loop l hU hl' e s is s0 s1 (K := 2000 - ((asg l e c).1.length + 1)) (by omega) (asg l e c).1.length 0 (asg l e c).1 (by omega) hz
    rwa [show (asg l e c).1.length + (2000 - ((asg l e c).1.length + 1) + 1) = 2000 from by omega] at this
  · rw [decide_eq_false hl, if_pos (by decide), begun (by omega), Option.bind_some]
end Go.Proofs.Ytdjajecgojndfaa.Pure
