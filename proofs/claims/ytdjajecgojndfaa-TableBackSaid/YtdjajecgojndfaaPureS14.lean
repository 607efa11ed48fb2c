/- A table is the same as itself. -/
import Derived.Test.YtdjajecgojndfaaPrint
import Derived.Test.YtdjajecgojndfaaPureT14
namespace Go.Proofs.Ytdjajecgojndfaa.Pure
open Go.RowKit Go.Proofs.Ytdjajecgojndfaa.Print Go.Proofs.YtdjajecgojndfaaW.PrintWords Go.Proofs.YtdjajecgojndfaaW.PrintMore
set_option linter.unusedSimpArgs false
set_option linter.unusedVariables false

theorem sameT_l0 (l : List Ent) (hl : l.length ≤ 400) : ∀ (m i fuel : Nat), i + m = l.length → api_Entry_55.l0 (m + 1 + fuel) l l (l.length : Int) (i : Int) = some true
  | 0, i, fuel, h => by
    rw [show 0 + 1 + fuel = fuel + 1 from by omega, api_Entry_55.l0, if_neg (by omega)]
  | m + 1, i, fuel, h => by
    rw [show m + 1 + 1 + fuel = (m + 1 + fuel) + 1 from by omega, api_Entry_55.l0, if_pos (by omega), if_pos (by omega), if_pos (by omega), if_pos (by omega), if_neg (by simp), wsucc (by omega), sameT_l0 l hl m (i + 1) fuel (by omega)]
theorem sameT (l : List Ent) (hl : l.length ≤ 400) {k : Nat} (hk : 500 ≤ k) : table_Same.f k l l = some true := by
  have := sameT_l0 l hl l.length 0 (k - l.length - 1) (by omega)
  rw [show l.length + 1 + (k - l.length - 1) = k from by omega] at this
  rw [table_Same.f, api_Entry_55.f, if_pos rfl, show (0 : Int) = ((0 : Nat) : Int) from rfl, this, Option.bind_some]
end Go.Proofs.Ytdjajecgojndfaa.Pure
