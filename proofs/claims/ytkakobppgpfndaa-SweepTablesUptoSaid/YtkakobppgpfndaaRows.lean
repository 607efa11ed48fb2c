/-
  No cell of these rows narrows 'for every input' (looked for: loops, veiled, ifaces, maps, wideKeys, modest, calm, conditions, laid).
  DERIVED. THE GIVEN ROWS OF THIS SEAT. 6 by the template 'for every input the law returns true; each argument reads behind the call as it read before'; 0 by the template 'total and deterministic' (their statements: YtkakobppgpfndaaTotals.lean).
  GIVEN WITH THE SEED: the statements are not yours to turn. If you find one false, say at which input.
  Laid BY PROGRAM, IN A SANDBOX (cutbox-rows.mjs): the forced cells as the released guide's own fill.sh prints them over the translation 2e7007e9dec7d739… (all of the seat's roots in one cut). By AI agents, Wed Nov 11 2026. No macro, syntax, notation, axiom, sorry.
-/
import Derived.Test.YtkakobppgpfndaaChecked
import GoSem.Claim
import GoSem.ClaimJoined
import GoSem.ClaimMapViews
import Derived.JoinedTies
import Derived.KernelRfl
namespace Go.Proofs.Ytkakobppgpfndaa
/- THE CELL 'sum', in the pinned program and in every row, IS THE sha256 OF THE DUMP (.gsa) THAT YtkakobppgpfndaaProg.lean LOADS. Nothing in Lean hashes anything: it is a label: what it is worth is what the hold of that sum in a sandbox is worth. -/
noncomputable def Try.pinned : Pinned := { name := "ytkakobppgpfndaa", sum := "2e7007e9dec7d739cd14f6a5983683b498a6c67544921c10b5e18c7dc1649b62", checked := Try.checked }
namespace Rows
def none {H : Type} : Left H := { results := [], args := [] }

/-- 'atticlaw21.SweepEntries': WHATEVER THE INPUT: true; the input reads as it did. -/
def sweepEntriesSpec : ChangeSpec := { name := "sweepEntries", fn := fun _ => fun
  | [d1, d2] => { results := [.lit (.bool true)], args := [d1, d2] }
  | _ => none }
def sweepEntriesRow : OpenClaim := { program := "ytkakobppgpfndaa", sum := "2e7007e9dec7d739cd14f6a5983683b498a6c67544921c10b5e18c7dc1649b62", func := "attic/atticlaw21.SweepEntries", spec := "sweepEntries", unfollowed := true, recurses := true, apart := false }
def SweepEntriesSaid : Prop := sweepEntriesRow.holds Try.pinned (OpenSpec.ofChange sweepEntriesSpec)

/-- ITS FALSE NEIGHBOUR: 'it returns false'. Refute it at one input. -/
def sweepEntriesWrong : ChangeSpec := { name := "sweepEntries", fn := fun _ => fun
  | [d1, d2] => { results := [.lit (.bool false)], args := [d1, d2] }
  | _ => none }
def SweepEntriesWrongFalsely : Prop := sweepEntriesRow.holds Try.pinned (OpenSpec.ofChange sweepEntriesWrong)

/-- 'atticlaw21.SweepCounted': WHATEVER THE INPUT: true; the input reads as it did. -/
def sweepCountedSpec : ChangeSpec := { name := "sweepCounted", fn := fun _ => fun
  | [d1, d2] => { results := [.lit (.bool true)], args := [d1, d2] }
  | _ => none }
def sweepCountedRow : OpenClaim := { program := "ytkakobppgpfndaa", sum := "2e7007e9dec7d739cd14f6a5983683b498a6c67544921c10b5e18c7dc1649b62", func := "attic/atticlaw21.SweepCounted", spec := "sweepCounted", unfollowed := true, recurses := true, apart := false }
def SweepCountedSaid : Prop := sweepCountedRow.holds Try.pinned (OpenSpec.ofChange sweepCountedSpec)

/-- ITS FALSE NEIGHBOUR: 'it returns false'. Refute it at one input. -/
def sweepCountedWrong : ChangeSpec := { name := "sweepCounted", fn := fun _ => fun
  | [d1, d2] => { results := [.lit (.bool false)], args := [d1, d2] }
  | _ => none }
def SweepCountedWrongFalsely : Prop := sweepCountedRow.holds Try.pinned (OpenSpec.ofChange sweepCountedWrong)

/-- 'atticlaw21.SweepWords': WHATEVER THE INPUT: true; the input reads as it did. -/
def sweepWordsSpec : ChangeSpec := { name := "sweepWords", fn := fun _ => fun
  | [d1, d2] => { results := [.lit (.bool true)], args := [d1, d2] }
  | _ => none }
def sweepWordsRow : OpenClaim := { program := "ytkakobppgpfndaa", sum := "2e7007e9dec7d739cd14f6a5983683b498a6c67544921c10b5e18c7dc1649b62", func := "attic/atticlaw21.SweepWords", spec := "sweepWords", unfollowed := true, recurses := true, apart := false }
def SweepWordsSaid : Prop := sweepWordsRow.holds Try.pinned (OpenSpec.ofChange sweepWordsSpec)

/-- ITS FALSE NEIGHBOUR: 'it returns false'. Refute it at one input. -/
def sweepWordsWrong : ChangeSpec := { name := "sweepWords", fn := fun _ => fun
  | [d1, d2] => { results := [.lit (.bool false)], args := [d1, d2] }
  | _ => none }
def SweepWordsWrongFalsely : Prop := sweepWordsRow.holds Try.pinned (OpenSpec.ofChange sweepWordsWrong)

/-- 'atticlaw21.SweepAgain': WHATEVER THE INPUT: true; the input reads as it did. -/
def sweepAgainSpec : ChangeSpec := { name := "sweepAgain", fn := fun _ => fun
  | [d1, d2, d3] => { results := [.lit (.bool true)], args := [d1, d2, d3] }
  | _ => none }
def sweepAgainRow : OpenClaim := { program := "ytkakobppgpfndaa", sum := "2e7007e9dec7d739cd14f6a5983683b498a6c67544921c10b5e18c7dc1649b62", func := "attic/atticlaw21.SweepAgain", spec := "sweepAgain", unfollowed := true, recurses := true, apart := false }
def SweepAgainSaid : Prop := sweepAgainRow.holds Try.pinned (OpenSpec.ofChange sweepAgainSpec)

/-- ITS FALSE NEIGHBOUR: 'it returns false'. Refute it at one input. -/
def sweepAgainWrong : ChangeSpec := { name := "sweepAgain", fn := fun _ => fun
  | [d1, d2, d3] => { results := [.lit (.bool false)], args := [d1, d2, d3] }
  | _ => none }
def SweepAgainWrongFalsely : Prop := sweepAgainRow.holds Try.pinned (OpenSpec.ofChange sweepAgainWrong)

/-- 'atticlaw21.SweepTables': WHATEVER THE INPUT: true; the input reads as it did. -/
def sweepTablesSpec : ChangeSpec := { name := "sweepTables", fn := fun _ => fun
  | [d1, d2, d3] => { results := [.lit (.bool true)], args := [d1, d2, d3] }
  | _ => none }
def sweepTablesRow : OpenClaim := { program := "ytkakobppgpfndaa", sum := "2e7007e9dec7d739cd14f6a5983683b498a6c67544921c10b5e18c7dc1649b62", func := "attic/atticlaw21.SweepTables", spec := "sweepTables", unfollowed := true, recurses := true, apart := false }
def SweepTablesSaid : Prop := sweepTablesRow.holds Try.pinned (OpenSpec.ofChange sweepTablesSpec)

/-- ITS FALSE NEIGHBOUR: 'it returns false'. Refute it at one input. -/
def sweepTablesWrong : ChangeSpec := { name := "sweepTables", fn := fun _ => fun
  | [d1, d2, d3] => { results := [.lit (.bool false)], args := [d1, d2, d3] }
  | _ => none }
def SweepTablesWrongFalsely : Prop := sweepTablesRow.holds Try.pinned (OpenSpec.ofChange sweepTablesWrong)

/-- 'atticlaw21.SweepSafe': WHATEVER THE INPUT: true; the input reads as it did. -/
def sweepSafeSpec : ChangeSpec := { name := "sweepSafe", fn := fun _ => fun
  | [d] => { results := [.lit (.bool true)], args := [d] }
  | _ => none }
def sweepSafeRow : OpenClaim := { program := "ytkakobppgpfndaa", sum := "2e7007e9dec7d739cd14f6a5983683b498a6c67544921c10b5e18c7dc1649b62", func := "attic/atticlaw21.SweepSafe", spec := "sweepSafe", unfollowed := true, recurses := true, apart := false }
def SweepSafeSaid : Prop := sweepSafeRow.holds Try.pinned (OpenSpec.ofChange sweepSafeSpec)

/-- ITS FALSE NEIGHBOUR: 'it returns false'. Refute it at one input. -/
def sweepSafeWrong : ChangeSpec := { name := "sweepSafe", fn := fun _ => fun
  | [d] => { results := [.lit (.bool false)], args := [d] }
  | _ => none }
def SweepSafeWrongFalsely : Prop := sweepSafeRow.holds Try.pinned (OpenSpec.ofChange sweepSafeWrong)

/- THE SECOND FORM. 'bulk': how many values and letters a reading holds, each counted each time it is reached (what is shared counts as often as it is met; a slice's spare places count too). A statement '..UptoSaid' is the law's where the arguments, and the package variables that the reading takes, are together of bulk at most 1048576: NARROWER than '..Said'. Prove '..Said' where nothing that the law and all that it calls make is longer than what came in: it says more and counts as full. Else prove '..UptoSaid'. A law counts once. -/
mutual
def uptoBulk {H : Type} : DataW H → Nat
  | .lit (.string bytes) => bytes.length + 1
  | .lit _ => 1
  | .nil => 1
  | .ptr d => uptoBulk d + 1
  | .slice elems spare => uptoBulkAll elems + uptoBulkAll spare + 1
  | .agg parts => uptoBulkAll parts + 1
  | .iface _ d => uptoBulk d + 1
  | .map entries => uptoBulkEntries entries + 1
  | .held _ => 1
def uptoBulkAll {H : Type} : List (DataW H) → Nat
  | [] => 0
  | d :: r => uptoBulk d + uptoBulkAll r
def uptoBulkEntries {H : Type} : List (Lit × DataW H) → Nat
  | [] => 0
  | x :: r => uptoBulkEntry x + uptoBulkEntries r
def uptoBulkEntry {H : Type} : Lit × DataW H → Nat
  | (.string bytes, d) => bytes.length + uptoBulk d + 1
  | (_, d) => uptoBulk d + 1
 end
def uptoSmall : (H : Type) → List (DataW H) → Bool := fun _ ds => decide (uptoBulkAll ds ≤ 1048576)
def OpenSpec.upto (s : _root_.Go.ChangeSpec) : _root_.Go.OpenSpec := { _root_.Go.OpenSpec.ofChange s with cond := some uptoSmall }

/-- 'atticlaw21.SweepEntries', WHERE WHAT IT READS IS OF BULK AT MOST 1048576: true; the input reads as it did. -/
def sweepEntriesUptoRow : OpenClaim := { program := "ytkakobppgpfndaa", sum := "2e7007e9dec7d739cd14f6a5983683b498a6c67544921c10b5e18c7dc1649b62", func := "attic/atticlaw21.SweepEntries", spec := "sweepEntries", unfollowed := true, recurses := true, apart := false, narrowed := true }
def SweepEntriesUptoSaid : Prop := sweepEntriesUptoRow.holds Try.pinned (OpenSpec.upto sweepEntriesSpec)

/-- 'atticlaw21.SweepCounted', WHERE WHAT IT READS IS OF BULK AT MOST 1048576: true; the input reads as it did. -/
def sweepCountedUptoRow : OpenClaim := { program := "ytkakobppgpfndaa", sum := "2e7007e9dec7d739cd14f6a5983683b498a6c67544921c10b5e18c7dc1649b62", func := "attic/atticlaw21.SweepCounted", spec := "sweepCounted", unfollowed := true, recurses := true, apart := false, narrowed := true }
def SweepCountedUptoSaid : Prop := sweepCountedUptoRow.holds Try.pinned (OpenSpec.upto sweepCountedSpec)

/-- 'atticlaw21.SweepWords', WHERE WHAT IT READS IS OF BULK AT MOST 1048576: true; the input reads as it did. -/
def sweepWordsUptoRow : OpenClaim := { program := "ytkakobppgpfndaa", sum := "2e7007e9dec7d739cd14f6a5983683b498a6c67544921c10b5e18c7dc1649b62", func := "attic/atticlaw21.SweepWords", spec := "sweepWords", unfollowed := true, recurses := true, apart := false, narrowed := true }
def SweepWordsUptoSaid : Prop := sweepWordsUptoRow.holds Try.pinned (OpenSpec.upto sweepWordsSpec)

/-- 'atticlaw21.SweepAgain', WHERE WHAT IT READS IS OF BULK AT MOST 1048576: true; the input reads as it did. -/
def sweepAgainUptoRow : OpenClaim := { program := "ytkakobppgpfndaa", sum := "2e7007e9dec7d739cd14f6a5983683b498a6c67544921c10b5e18c7dc1649b62", func := "attic/atticlaw21.SweepAgain", spec := "sweepAgain", unfollowed := true, recurses := true, apart := false, narrowed := true }
def SweepAgainUptoSaid : Prop := sweepAgainUptoRow.holds Try.pinned (OpenSpec.upto sweepAgainSpec)

/-- 'atticlaw21.SweepTables', WHERE WHAT IT READS IS OF BULK AT MOST 1048576: true; the input reads as it did. -/
def sweepTablesUptoRow : OpenClaim := { program := "ytkakobppgpfndaa", sum := "2e7007e9dec7d739cd14f6a5983683b498a6c67544921c10b5e18c7dc1649b62", func := "attic/atticlaw21.SweepTables", spec := "sweepTables", unfollowed := true, recurses := true, apart := false, narrowed := true }
def SweepTablesUptoSaid : Prop := sweepTablesUptoRow.holds Try.pinned (OpenSpec.upto sweepTablesSpec)

/-- 'atticlaw21.SweepSafe', WHERE WHAT IT READS IS OF BULK AT MOST 1048576: true; the input reads as it did. -/
def sweepSafeUptoRow : OpenClaim := { program := "ytkakobppgpfndaa", sum := "2e7007e9dec7d739cd14f6a5983683b498a6c67544921c10b5e18c7dc1649b62", func := "attic/atticlaw21.SweepSafe", spec := "sweepSafe", unfollowed := true, recurses := true, apart := false, narrowed := true }
def SweepSafeUptoSaid : Prop := sweepSafeUptoRow.holds Try.pinned (OpenSpec.upto sweepSafeSpec)

end Rows
end Go.Proofs.Ytkakobppgpfndaa
