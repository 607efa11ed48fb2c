/- The law's example; rows that are the same. -/
import Derived.Test.YtnmpmjbkelogaaaPrint
import Derived.Test.YtnmpmjbkelogaaaPureV19
namespace Go.Proofs.Ytnmpmjbkelogaaa.Pure
open Go.RowKit Go.Proofs.Ytnmpmjbkelogaaa.Print Go.Proofs.YtnmpmjbkelogaaaW.PrintWords Go.Proofs.YtnmpmjbkelogaaaW.PrintMore
set_option linter.unusedSimpArgs false
set_option linter.unusedVariables false

theorem live_k {k : Nat} (hk : 20 ≤ k) : atticlaw19_live.f k = some true := at_rounds (g := fun k => atticlaw19_live.f k) atticlaw19_live.mono hk (show atticlaw19_live.f 20 = some true from by kernel_rfl)
theorem eqI_l0' (l : List Int) (hl : l.length ≤ 9223372036854775807) : ∀ (m j k : Nat), j + m = l.length → m < k → slices_Equal_int_int.l0 k l l (l.length : Int) (j : Int) = some true
  | 0, j, k, hj, hk => by
    obtain ⟨k, rfl⟩ : ∃ k', k = k' + 1 := ⟨k - 1, by omega⟩
    rw [slices_Equal_int_int.l0, if_neg (by omega)]
  | m + 1, j, k, hj, hk => by
    obtain ⟨k, rfl⟩ : ∃ k', k = k' + 1 := ⟨k - 1, by omega⟩
    rw [slices_Equal_int_int.l0, if_pos (by omega), if_pos (by omega), if_pos (by omega), if_pos (by omega), if_pos rfl, wnat (show j < l.length by omega) hl, eqI_l0' l hl m (j + 1) k (by omega) (by omega)]
theorem eqI_f (l : List Int) (hl : l.length ≤ 9223372036854775807) {k : Nat} (hk : l.length < k) : slices_Equal_int_int.f k l l = some true := by
  unfold slices_Equal_int_int.f
  rw [if_pos rfl]
  exact eqI_l0' l hl l.length 0 k (by omega) hk
end Go.Proofs.Ytnmpmjbkelogaaa.Pure
