/-
  No cell of these rows narrows 'for every input' (looked for: loops, veiled, ifaces, maps, wideKeys, modest, calm, conditions, laid).
  DERIVED. THE GIVEN ROWS OF THIS SEAT. 7 by the template 'for every input the law returns true; each argument reads behind the call as it read before'; 0 by the template 'total and deterministic' (their statements: YtnmpmjbkelogaaaTotals.lean).
  GIVEN WITH THE SEED: the statements are not yours to turn. If you find one false, say at which input.
  Laid BY PROGRAM, IN A SANDBOX (cutbox-rows.mjs): the forced cells as the released guide's own fill.sh prints them over the translation 0b670440ae8be38f… (all of the seat's roots in one cut). By AI agents, Wed Nov 11 2026. No macro, syntax, notation, axiom, sorry.
-/
import Derived.Test.YtnmpmjbkelogaaaChecked
import GoSem.Claim
import GoSem.ClaimJoined
import GoSem.ClaimMapViews
import Derived.JoinedTies
import Derived.KernelRfl
namespace Go.Proofs.Ytnmpmjbkelogaaa
/- THE CELL 'sum', in the pinned program and in every row, IS THE sha256 OF THE DUMP (.gsa) THAT YtnmpmjbkelogaaaProg.lean LOADS. Nothing in Lean hashes anything: it is a label: what it is worth is what the hold of that sum in a sandbox is worth. -/
noncomputable def Try.pinned : Pinned := { name := "ytnmpmjbkelogaaa", sum := "0b670440ae8be38f0d3fa5e4e830699a72cb5be0e22930d62458815866ec224f", checked := Try.checked }
namespace Rows
def none {H : Type} : Left H := { results := [], args := [] }

/-- 'atticlaw19.MarkPieces': WHATEVER THE INPUT: true; the input reads as it did. -/
def markPiecesSpec : ChangeSpec := { name := "markPieces", fn := fun _ => fun
  | [d1, d2, d3] => { results := [.lit (.bool true)], args := [d1, d2, d3] }
  | _ => none }
def markPiecesRow : OpenClaim := { program := "ytnmpmjbkelogaaa", sum := "0b670440ae8be38f0d3fa5e4e830699a72cb5be0e22930d62458815866ec224f", func := "attic/atticlaw19.MarkPieces", spec := "markPieces", unfollowed := true, recurses := true, apart := false }
def MarkPiecesSaid : Prop := markPiecesRow.holds Try.pinned (OpenSpec.ofChange markPiecesSpec)

/-- ITS FALSE NEIGHBOUR: 'it returns false'. Refute it at one input. -/
def markPiecesWrong : ChangeSpec := { name := "markPieces", fn := fun _ => fun
  | [d1, d2, d3] => { results := [.lit (.bool false)], args := [d1, d2, d3] }
  | _ => none }
def MarkPiecesWrongFalsely : Prop := markPiecesRow.holds Try.pinned (OpenSpec.ofChange markPiecesWrong)

/-- 'atticlaw19.MarkChecks': WHATEVER THE INPUT: true; the input reads as it did. -/
def markChecksSpec : ChangeSpec := { name := "markChecks", fn := fun _ => fun
  | [d1, d2] => { results := [.lit (.bool true)], args := [d1, d2] }
  | _ => none }
def markChecksRow : OpenClaim := { program := "ytnmpmjbkelogaaa", sum := "0b670440ae8be38f0d3fa5e4e830699a72cb5be0e22930d62458815866ec224f", func := "attic/atticlaw19.MarkChecks", spec := "markChecks", unfollowed := true, recurses := true, apart := false }
def MarkChecksSaid : Prop := markChecksRow.holds Try.pinned (OpenSpec.ofChange markChecksSpec)

/-- ITS FALSE NEIGHBOUR: 'it returns false'. Refute it at one input. -/
def markChecksWrong : ChangeSpec := { name := "markChecks", fn := fun _ => fun
  | [d1, d2] => { results := [.lit (.bool false)], args := [d1, d2] }
  | _ => none }
def MarkChecksWrongFalsely : Prop := markChecksRow.holds Try.pinned (OpenSpec.ofChange markChecksWrong)

/-- 'atticlaw19.MarkCounted': WHATEVER THE INPUT: true; the input reads as it did. -/
def markCountedSpec : ChangeSpec := { name := "markCounted", fn := fun _ => fun
  | [d1, d2, d3] => { results := [.lit (.bool true)], args := [d1, d2, d3] }
  | _ => none }
def markCountedRow : OpenClaim := { program := "ytnmpmjbkelogaaa", sum := "0b670440ae8be38f0d3fa5e4e830699a72cb5be0e22930d62458815866ec224f", func := "attic/atticlaw19.MarkCounted", spec := "markCounted", unfollowed := true, recurses := true, apart := false }
def MarkCountedSaid : Prop := markCountedRow.holds Try.pinned (OpenSpec.ofChange markCountedSpec)

/-- ITS FALSE NEIGHBOUR: 'it returns false'. Refute it at one input. -/
def markCountedWrong : ChangeSpec := { name := "markCounted", fn := fun _ => fun
  | [d1, d2, d3] => { results := [.lit (.bool false)], args := [d1, d2, d3] }
  | _ => none }
def MarkCountedWrongFalsely : Prop := markCountedRow.holds Try.pinned (OpenSpec.ofChange markCountedWrong)

/-- 'atticlaw19.MarkSteps': WHATEVER THE INPUT: true; the input reads as it did. -/
def markStepsSpec : ChangeSpec := { name := "markSteps", fn := fun _ => fun
  | [d1, d2] => { results := [.lit (.bool true)], args := [d1, d2] }
  | _ => none }
def markStepsRow : OpenClaim := { program := "ytnmpmjbkelogaaa", sum := "0b670440ae8be38f0d3fa5e4e830699a72cb5be0e22930d62458815866ec224f", func := "attic/atticlaw19.MarkSteps", spec := "markSteps", unfollowed := true, recurses := true, apart := false }
def MarkStepsSaid : Prop := markStepsRow.holds Try.pinned (OpenSpec.ofChange markStepsSpec)

/-- ITS FALSE NEIGHBOUR: 'it returns false'. Refute it at one input. -/
def markStepsWrong : ChangeSpec := { name := "markSteps", fn := fun _ => fun
  | [d1, d2] => { results := [.lit (.bool false)], args := [d1, d2] }
  | _ => none }
def MarkStepsWrongFalsely : Prop := markStepsRow.holds Try.pinned (OpenSpec.ofChange markStepsWrong)

/-- 'atticlaw19.MarkRooms': WHATEVER THE INPUT: true; the input reads as it did. -/
def markRoomsSpec : ChangeSpec := { name := "markRooms", fn := fun _ => fun
  | [d1, d2, d3] => { results := [.lit (.bool true)], args := [d1, d2, d3] }
  | _ => none }
def markRoomsRow : OpenClaim := { program := "ytnmpmjbkelogaaa", sum := "0b670440ae8be38f0d3fa5e4e830699a72cb5be0e22930d62458815866ec224f", func := "attic/atticlaw19.MarkRooms", spec := "markRooms", unfollowed := true, recurses := true, apart := false }
def MarkRoomsSaid : Prop := markRoomsRow.holds Try.pinned (OpenSpec.ofChange markRoomsSpec)

/-- ITS FALSE NEIGHBOUR: 'it returns false'. Refute it at one input. -/
def markRoomsWrong : ChangeSpec := { name := "markRooms", fn := fun _ => fun
  | [d1, d2, d3] => { results := [.lit (.bool false)], args := [d1, d2, d3] }
  | _ => none }
def MarkRoomsWrongFalsely : Prop := markRoomsRow.holds Try.pinned (OpenSpec.ofChange markRoomsWrong)

/-- 'atticlaw19.MarkReach': WHATEVER THE INPUT: true; the input reads as it did. -/
def markReachSpec : ChangeSpec := { name := "markReach", fn := fun _ => fun
  | [d1, d2] => { results := [.lit (.bool true)], args := [d1, d2] }
  | _ => none }
def markReachRow : OpenClaim := { program := "ytnmpmjbkelogaaa", sum := "0b670440ae8be38f0d3fa5e4e830699a72cb5be0e22930d62458815866ec224f", func := "attic/atticlaw19.MarkReach", spec := "markReach", unfollowed := true, recurses := true, apart := false }
def MarkReachSaid : Prop := markReachRow.holds Try.pinned (OpenSpec.ofChange markReachSpec)

/-- ITS FALSE NEIGHBOUR: 'it returns false'. Refute it at one input. -/
def markReachWrong : ChangeSpec := { name := "markReach", fn := fun _ => fun
  | [d1, d2] => { results := [.lit (.bool false)], args := [d1, d2] }
  | _ => none }
def MarkReachWrongFalsely : Prop := markReachRow.holds Try.pinned (OpenSpec.ofChange markReachWrong)

/-- 'atticlaw19.MarkBlack': WHATEVER THE INPUT: true; the input reads as it did. -/
def markBlackSpec : ChangeSpec := { name := "markBlack", fn := fun _ => fun
  | [d1, d2] => { results := [.lit (.bool true)], args := [d1, d2] }
  | _ => none }
def markBlackRow : OpenClaim := { program := "ytnmpmjbkelogaaa", sum := "0b670440ae8be38f0d3fa5e4e830699a72cb5be0e22930d62458815866ec224f", func := "attic/atticlaw19.MarkBlack", spec := "markBlack", unfollowed := true, recurses := true, apart := false }
def MarkBlackSaid : Prop := markBlackRow.holds Try.pinned (OpenSpec.ofChange markBlackSpec)

/-- ITS FALSE NEIGHBOUR: 'it returns false'. Refute it at one input. -/
def markBlackWrong : ChangeSpec := { name := "markBlack", fn := fun _ => fun
  | [d1, d2] => { results := [.lit (.bool false)], args := [d1, d2] }
  | _ => none }
def MarkBlackWrongFalsely : Prop := markBlackRow.holds Try.pinned (OpenSpec.ofChange markBlackWrong)

/- THE SECOND FORM. 'bulk': how many values and letters a reading holds, each counted each time it is reached (what is shared counts as often as it is met; a slice's spare places count too). A statement '..UptoSaid' is the law's where the arguments, and the package variables that the reading takes, are together of bulk at most 1048576: NARROWER than '..Said'. Prove '..Said' where nothing that the law and all that it calls make is longer than what came in: it says more and counts as full. Else prove '..UptoSaid'. A law counts once. -/
mutual
def uptoBulk {H : Type} : DataW H → Nat
  | .lit (.string bytes) => bytes.length + 1
  | .lit _ => 1
  | .nil => 1
  | .ptr d => uptoBulk d + 1
  | .slice elems spare => uptoBulkAll elems + uptoBulkAll spare + 1
  | .agg parts => uptoBulkAll parts + 1
  | .iface _ d => uptoBulk d + 1
  | .map entries => uptoBulkEntries entries + 1
  | .held _ => 1
def uptoBulkAll {H : Type} : List (DataW H) → Nat
  | [] => 0
  | d :: r => uptoBulk d + uptoBulkAll r
def uptoBulkEntries {H : Type} : List (Lit × DataW H) → Nat
  | [] => 0
  | x :: r => uptoBulkEntry x + uptoBulkEntries r
def uptoBulkEntry {H : Type} : Lit × DataW H → Nat
  | (.string bytes, d) => bytes.length + uptoBulk d + 1
  | (_, d) => uptoBulk d + 1
 end
def uptoSmall : (H : Type) → List (DataW H) → Bool := fun _ ds => decide (uptoBulkAll ds ≤ 1048576)
def OpenSpec.upto (s : _root_.Go.ChangeSpec) : _root_.Go.OpenSpec := { _root_.Go.OpenSpec.ofChange s with cond := some uptoSmall }

/-- 'atticlaw19.MarkPieces', WHERE WHAT IT READS IS OF BULK AT MOST 1048576: true; the input reads as it did. -/
def markPiecesUptoRow : OpenClaim := { program := "ytnmpmjbkelogaaa", sum := "0b670440ae8be38f0d3fa5e4e830699a72cb5be0e22930d62458815866ec224f", func := "attic/atticlaw19.MarkPieces", spec := "markPieces", unfollowed := true, recurses := true, apart := false, narrowed := true }
def MarkPiecesUptoSaid : Prop := markPiecesUptoRow.holds Try.pinned (OpenSpec.upto markPiecesSpec)

/-- 'atticlaw19.MarkChecks', WHERE WHAT IT READS IS OF BULK AT MOST 1048576: true; the input reads as it did. -/
def markChecksUptoRow : OpenClaim := { program := "ytnmpmjbkelogaaa", sum := "0b670440ae8be38f0d3fa5e4e830699a72cb5be0e22930d62458815866ec224f", func := "attic/atticlaw19.MarkChecks", spec := "markChecks", unfollowed := true, recurses := true, apart := false, narrowed := true }
def MarkChecksUptoSaid : Prop := markChecksUptoRow.holds Try.pinned (OpenSpec.upto markChecksSpec)

/-- 'atticlaw19.MarkCounted', WHERE WHAT IT READS IS OF BULK AT MOST 1048576: true; the input reads as it did. -/
def markCountedUptoRow : OpenClaim := { program := "ytnmpmjbkelogaaa", sum := "0b670440ae8be38f0d3fa5e4e830699a72cb5be0e22930d62458815866ec224f", func := "attic/atticlaw19.MarkCounted", spec := "markCounted", unfollowed := true, recurses := true, apart := false, narrowed := true }
def MarkCountedUptoSaid : Prop := markCountedUptoRow.holds Try.pinned (OpenSpec.upto markCountedSpec)

/-- 'atticlaw19.MarkSteps', WHERE WHAT IT READS IS OF BULK AT MOST 1048576: true; the input reads as it did. -/
def markStepsUptoRow : OpenClaim := { program := "ytnmpmjbkelogaaa", sum := "0b670440ae8be38f0d3fa5e4e830699a72cb5be0e22930d62458815866ec224f", func := "attic/atticlaw19.MarkSteps", spec := "markSteps", unfollowed := true, recurses := true, apart := false, narrowed := true }
def MarkStepsUptoSaid : Prop := markStepsUptoRow.holds Try.pinned (OpenSpec.upto markStepsSpec)

/-- 'atticlaw19.MarkRooms', WHERE WHAT IT READS IS OF BULK AT MOST 1048576: true; the input reads as it did. -/
def markRoomsUptoRow : OpenClaim := { program := "ytnmpmjbkelogaaa", sum := "0b670440ae8be38f0d3fa5e4e830699a72cb5be0e22930d62458815866ec224f", func := "attic/atticlaw19.MarkRooms", spec := "markRooms", unfollowed := true, recurses := true, apart := false, narrowed := true }
def MarkRoomsUptoSaid : Prop := markRoomsUptoRow.holds Try.pinned (OpenSpec.upto markRoomsSpec)

/-- 'atticlaw19.MarkReach', WHERE WHAT IT READS IS OF BULK AT MOST 1048576: true; the input reads as it did. -/
def markReachUptoRow : OpenClaim := { program := "ytnmpmjbkelogaaa", sum := "0b670440ae8be38f0d3fa5e4e830699a72cb5be0e22930d62458815866ec224f", func := "attic/atticlaw19.MarkReach", spec := "markReach", unfollowed := true, recurses := true, apart := false, narrowed := true }
def MarkReachUptoSaid : Prop := markReachUptoRow.holds Try.pinned (OpenSpec.upto markReachSpec)

/-- 'atticlaw19.MarkBlack', WHERE WHAT IT READS IS OF BULK AT MOST 1048576: true; the input reads as it did. -/
def markBlackUptoRow : OpenClaim := { program := "ytnmpmjbkelogaaa", sum := "0b670440ae8be38f0d3fa5e4e830699a72cb5be0e22930d62458815866ec224f", func := "attic/atticlaw19.MarkBlack", spec := "markBlack", unfollowed := true, recurses := true, apart := false, narrowed := true }
def MarkBlackUptoSaid : Prop := markBlackUptoRow.holds Try.pinned (OpenSpec.upto markBlackSpec)

end Rows
end Go.Proofs.Ytnmpmjbkelogaaa
