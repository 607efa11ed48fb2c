/-
  No cell of these rows narrows 'for every input' (looked for: loops, veiled, ifaces, maps, wideKeys, modest, calm, conditions, laid).
  DERIVED. THE GIVEN ROWS OF THIS SEAT. 5 by the template 'for every input the law returns true; each argument reads behind the call as it read before'; 0 by the template 'total and deterministic' (their statements: YtchjiocljlbhkaaTotals.lean).
  GIVEN WITH THE SEED: the statements are not yours to turn. If you find one false, say at which input.
  Laid BY PROGRAM, IN A SANDBOX (cutbox-rows.mjs): the forced cells as the released guide's own fill.sh prints them over the translation a7fe399f2c943de1… (all of the seat's roots in one cut). By AI agents, Wed Nov 11 2026. No macro, syntax, notation, axiom, sorry.
-/
import Derived.Test.YtchjiocljlbhkaaChecked
import GoSem.Claim
import GoSem.ClaimJoined
import GoSem.ClaimMapViews
import Derived.JoinedTies
import Derived.KernelRfl
namespace Go.Proofs.Ytchjiocljlbhkaa
/- THE CELL 'sum', in the pinned program and in every row, IS THE sha256 OF THE DUMP (.gsa) THAT YtchjiocljlbhkaaProg.lean LOADS. Nothing in Lean hashes anything: it is a label: what it is worth is what the hold of that sum in a sandbox is worth. -/
noncomputable def Try.pinned : Pinned := { name := "ytchjiocljlbhkaa", sum := "a7fe399f2c943de1a86fee64adecefd3a120b28d97365e1babc1c1bea2158405", checked := Try.checked }
namespace Rows
def none {H : Type} : Left H := { results := [], args := [] }

/-- 'atticlaw15.FreeAgain': WHATEVER THE INPUT: true; the input reads as it did. -/
def freeAgainSpec : ChangeSpec := { name := "freeAgain", fn := fun _ => fun
  | [d1, d2, d3] => { results := [.lit (.bool true)], args := [d1, d2, d3] }
  | _ => none }
def freeAgainRow : OpenClaim := { program := "ytchjiocljlbhkaa", sum := "a7fe399f2c943de1a86fee64adecefd3a120b28d97365e1babc1c1bea2158405", func := "attic/atticlaw15.FreeAgain", spec := "freeAgain", inPlace := ["slices.overlaps[attic/free.slot]", "slices.overlaps[int]"], unfollowed := true, recurses := true, plainKeys := false, apart := false }
def FreeAgainSaid : Prop := freeAgainRow.holds Try.pinned (OpenSpec.ofChange freeAgainSpec)

/-- ITS FALSE NEIGHBOUR: 'it returns false'. Refute it at one input. -/
def freeAgainWrong : ChangeSpec := { name := "freeAgain", fn := fun _ => fun
  | [d1, d2, d3] => { results := [.lit (.bool false)], args := [d1, d2, d3] }
  | _ => none }
def FreeAgainWrongFalsely : Prop := freeAgainRow.holds Try.pinned (OpenSpec.ofChange freeAgainWrong)

/-- 'atticlaw15.FreeOne': WHATEVER THE INPUT: true; the input reads as it did. -/
def freeOneSpec : ChangeSpec := { name := "freeOne", fn := fun _ => fun
  | [d1, d2] => { results := [.lit (.bool true)], args := [d1, d2] }
  | _ => none }
def freeOneRow : OpenClaim := { program := "ytchjiocljlbhkaa", sum := "a7fe399f2c943de1a86fee64adecefd3a120b28d97365e1babc1c1bea2158405", func := "attic/atticlaw15.FreeOne", spec := "freeOne", inPlace := ["slices.overlaps[attic/free.slot]", "slices.overlaps[int]"], unfollowed := true, recurses := true, plainKeys := false, apart := false }
def FreeOneSaid : Prop := freeOneRow.holds Try.pinned (OpenSpec.ofChange freeOneSpec)

/-- ITS FALSE NEIGHBOUR: 'it returns false'. Refute it at one input. -/
def freeOneWrong : ChangeSpec := { name := "freeOne", fn := fun _ => fun
  | [d1, d2] => { results := [.lit (.bool false)], args := [d1, d2] }
  | _ => none }
def FreeOneWrongFalsely : Prop := freeOneRow.holds Try.pinned (OpenSpec.ofChange freeOneWrong)

/-- 'atticlaw15.FreeFull': WHATEVER THE INPUT: true; the input reads as it did. -/
def freeFullSpec : ChangeSpec := { name := "freeFull", fn := fun _ => fun
  | [d1, d2, d3] => { results := [.lit (.bool true)], args := [d1, d2, d3] }
  | _ => none }
def freeFullRow : OpenClaim := { program := "ytchjiocljlbhkaa", sum := "a7fe399f2c943de1a86fee64adecefd3a120b28d97365e1babc1c1bea2158405", func := "attic/atticlaw15.FreeFull", spec := "freeFull", inPlace := ["slices.overlaps[attic/free.slot]", "slices.overlaps[int]"], unfollowed := true, recurses := true, plainKeys := false, apart := false }
def FreeFullSaid : Prop := freeFullRow.holds Try.pinned (OpenSpec.ofChange freeFullSpec)

/-- ITS FALSE NEIGHBOUR: 'it returns false'. Refute it at one input. -/
def freeFullWrong : ChangeSpec := { name := "freeFull", fn := fun _ => fun
  | [d1, d2, d3] => { results := [.lit (.bool false)], args := [d1, d2, d3] }
  | _ => none }
def FreeFullWrongFalsely : Prop := freeFullRow.holds Try.pinned (OpenSpec.ofChange freeFullWrong)

/-- 'atticlaw15.FreeNone': WHATEVER THE INPUT: true; the input reads as it did. -/
def freeNoneSpec : ChangeSpec := { name := "freeNone", fn := fun _ => fun
  | [d1, d2] => { results := [.lit (.bool true)], args := [d1, d2] }
  | _ => none }
def freeNoneRow : OpenClaim := { program := "ytchjiocljlbhkaa", sum := "a7fe399f2c943de1a86fee64adecefd3a120b28d97365e1babc1c1bea2158405", func := "attic/atticlaw15.FreeNone", spec := "freeNone", inPlace := ["slices.overlaps[attic/free.slot]", "slices.overlaps[int]"], unfollowed := true, recurses := true, plainKeys := false, apart := false }
def FreeNoneSaid : Prop := freeNoneRow.holds Try.pinned (OpenSpec.ofChange freeNoneSpec)

/-- ITS FALSE NEIGHBOUR: 'it returns false'. Refute it at one input. -/
def freeNoneWrong : ChangeSpec := { name := "freeNone", fn := fun _ => fun
  | [d1, d2] => { results := [.lit (.bool false)], args := [d1, d2] }
  | _ => none }
def FreeNoneWrongFalsely : Prop := freeNoneRow.holds Try.pinned (OpenSpec.ofChange freeNoneWrong)

/-- 'atticlaw15.FreeDoes': WHATEVER THE INPUT: true; the input reads as it did. -/
def freeDoesSpec : ChangeSpec := { name := "freeDoes", fn := fun _ => fun
  | [d1, d2] => { results := [.lit (.bool true)], args := [d1, d2] }
  | _ => none }
def freeDoesRow : OpenClaim := { program := "ytchjiocljlbhkaa", sum := "a7fe399f2c943de1a86fee64adecefd3a120b28d97365e1babc1c1bea2158405", func := "attic/atticlaw15.FreeDoes", spec := "freeDoes", inPlace := ["slices.overlaps[attic/free.slot]", "slices.overlaps[int]"], unfollowed := true, recurses := true, plainKeys := false, apart := false }
def FreeDoesSaid : Prop := freeDoesRow.holds Try.pinned (OpenSpec.ofChange freeDoesSpec)

/-- ITS FALSE NEIGHBOUR: 'it returns false'. Refute it at one input. -/
def freeDoesWrong : ChangeSpec := { name := "freeDoes", fn := fun _ => fun
  | [d1, d2] => { results := [.lit (.bool false)], args := [d1, d2] }
  | _ => none }
def FreeDoesWrongFalsely : Prop := freeDoesRow.holds Try.pinned (OpenSpec.ofChange freeDoesWrong)

/- THE SECOND FORM. 'bulk': how many values and letters a reading holds, each counted each time it is reached (what is shared counts as often as it is met; a slice's spare places count too). A statement '..UptoSaid' is the law's where the arguments, and the package variables that the reading takes, are together of bulk at most 1048576: NARROWER than '..Said'. Prove '..Said' where nothing that the law and all that it calls make is longer than what came in: it says more and counts as full. Else prove '..UptoSaid'. A law counts once. -/
mutual
def uptoBulk {H : Type} : DataW H → Nat
  | .lit (.string bytes) => bytes.length + 1
  | .lit _ => 1
  | .nil => 1
  | .ptr d => uptoBulk d + 1
  | .slice elems spare => uptoBulkAll elems + uptoBulkAll spare + 1
  | .agg parts => uptoBulkAll parts + 1
  | .iface _ d => uptoBulk d + 1
  | .map entries => uptoBulkEntries entries + 1
  | .held _ => 1
def uptoBulkAll {H : Type} : List (DataW H) → Nat
  | [] => 0
  | d :: r => uptoBulk d + uptoBulkAll r
def uptoBulkEntries {H : Type} : List (Lit × DataW H) → Nat
  | [] => 0
  | x :: r => uptoBulkEntry x + uptoBulkEntries r
def uptoBulkEntry {H : Type} : Lit × DataW H → Nat
  | (.string bytes, d) => bytes.length + uptoBulk d + 1
  | (_, d) => uptoBulk d + 1
 end
def uptoSmall : (H : Type) → List (DataW H) → Bool := fun _ ds => decide (uptoBulkAll ds ≤ 1048576)
def OpenSpec.upto (s : _root_.Go.ChangeSpec) : _root_.Go.OpenSpec := { _root_.Go.OpenSpec.ofChange s with cond := some uptoSmall }

/-- 'atticlaw15.FreeAgain', WHERE WHAT IT READS IS OF BULK AT MOST 1048576: true; the input reads as it did. -/
def freeAgainUptoRow : OpenClaim := { program := "ytchjiocljlbhkaa", sum := "a7fe399f2c943de1a86fee64adecefd3a120b28d97365e1babc1c1bea2158405", func := "attic/atticlaw15.FreeAgain", spec := "freeAgain", inPlace := ["slices.overlaps[attic/free.slot]", "slices.overlaps[int]"], unfollowed := true, recurses := true, plainKeys := false, apart := false, narrowed := true }
def FreeAgainUptoSaid : Prop := freeAgainUptoRow.holds Try.pinned (OpenSpec.upto freeAgainSpec)

/-- 'atticlaw15.FreeOne', WHERE WHAT IT READS IS OF BULK AT MOST 1048576: true; the input reads as it did. -/
def freeOneUptoRow : OpenClaim := { program := "ytchjiocljlbhkaa", sum := "a7fe399f2c943de1a86fee64adecefd3a120b28d97365e1babc1c1bea2158405", func := "attic/atticlaw15.FreeOne", spec := "freeOne", inPlace := ["slices.overlaps[attic/free.slot]", "slices.overlaps[int]"], unfollowed := true, recurses := true, plainKeys := false, apart := false, narrowed := true }
def FreeOneUptoSaid : Prop := freeOneUptoRow.holds Try.pinned (OpenSpec.upto freeOneSpec)

/-- 'atticlaw15.FreeFull', WHERE WHAT IT READS IS OF BULK AT MOST 1048576: true; the input reads as it did. -/
def freeFullUptoRow : OpenClaim := { program := "ytchjiocljlbhkaa", sum := "a7fe399f2c943de1a86fee64adecefd3a120b28d97365e1babc1c1bea2158405", func := "attic/atticlaw15.FreeFull", spec := "freeFull", inPlace := ["slices.overlaps[attic/free.slot]", "slices.overlaps[int]"], unfollowed := true, recurses := true, plainKeys := false, apart := false, narrowed := true }
def FreeFullUptoSaid : Prop := freeFullUptoRow.holds Try.pinned (OpenSpec.upto freeFullSpec)

/-- 'atticlaw15.FreeNone', WHERE WHAT IT READS IS OF BULK AT MOST 1048576: true; the input reads as it did. -/
def freeNoneUptoRow : OpenClaim := { program := "ytchjiocljlbhkaa", sum := "a7fe399f2c943de1a86fee64adecefd3a120b28d97365e1babc1c1bea2158405", func := "attic/atticlaw15.FreeNone", spec := "freeNone", inPlace := ["slices.overlaps[attic/free.slot]", "slices.overlaps[int]"], unfollowed := true, recurses := true, plainKeys := false, apart := false, narrowed := true }
def FreeNoneUptoSaid : Prop := freeNoneUptoRow.holds Try.pinned (OpenSpec.upto freeNoneSpec)

/-- 'atticlaw15.FreeDoes', WHERE WHAT IT READS IS OF BULK AT MOST 1048576: true; the input reads as it did. -/
def freeDoesUptoRow : OpenClaim := { program := "ytchjiocljlbhkaa", sum := "a7fe399f2c943de1a86fee64adecefd3a120b28d97365e1babc1c1bea2158405", func := "attic/atticlaw15.FreeDoes", spec := "freeDoes", inPlace := ["slices.overlaps[attic/free.slot]", "slices.overlaps[int]"], unfollowed := true, recurses := true, plainKeys := false, apart := false, narrowed := true }
def FreeDoesUptoSaid : Prop := freeDoesUptoRow.holds Try.pinned (OpenSpec.upto freeDoesSpec)

end Rows
end Go.Proofs.Ytchjiocljlbhkaa
