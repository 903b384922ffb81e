/-
  No cell of these rows narrows 'for every input' (looked for: loops, veiled, ifaces, maps, wideKeys, modest, calm, conditions, laid).
  DERIVED. THE GIVEN ROWS OF THIS SEAT. 13 by the template 'for every input the law returns true; each argument reads behind the call as it read before'; 0 by the template 'total and deterministic' (their statements: YtggobapgdflchaaTotals.lean).
  GIVEN WITH THE SEED: the statements are not yours to turn. If you find one false, say at which input.
  Laid BY PROGRAM, IN A SANDBOX (cutbox-rows.mjs): the forced cells as the released guide's own fill.sh prints them over the translation 54e3146b6d2f5eda… (all of the seat's roots in one cut). By AI agents, Wed Nov 11 2026. No macro, syntax, notation, axiom, sorry.
-/
import Derived.Test.YtggobapgdflchaaChecked
import GoSem.Claim
import GoSem.ClaimJoined
import GoSem.ClaimMapViews
import Derived.JoinedTies
import Derived.KernelRfl
namespace Go.Proofs.Ytggobapgdflchaa
/- THE CELL 'sum', in the pinned program and in every row, IS THE sha256 OF THE DUMP (.gsa) THAT YtggobapgdflchaaProg.lean LOADS. Nothing in Lean hashes anything: it is a label: what it is worth is what the hold of that sum in a sandbox is worth. -/
noncomputable def Try.pinned : Pinned := { name := "ytggobapgdflchaa", sum := "54e3146b6d2f5eda5be780a9ff0371f9837c8a7f70e53367e8f89c44f61c2a73", checked := Try.checked }
namespace Rows
def none {H : Type} : Left H := { results := [], args := [] }

/-- 'rovinglaw18.StatesPlace': WHATEVER THE INPUT: true; the input reads as it did. -/
def statesPlaceSpec : ChangeSpec := { name := "statesPlace", fn := fun _ => fun
  | [d1, d2] => { results := [.lit (.bool true)], args := [d1, d2] }
  | _ => none }
def statesPlaceRow : OpenClaim := { program := "ytggobapgdflchaa", sum := "54e3146b6d2f5eda5be780a9ff0371f9837c8a7f70e53367e8f89c44f61c2a73", func := "roving/rovinglaw18.StatesPlace", spec := "statesPlace", unfollowed := true, recurses := true, apart := false }
def StatesPlaceSaid : Prop := statesPlaceRow.holds Try.pinned (OpenSpec.ofChange statesPlaceSpec)

/-- ITS FALSE NEIGHBOUR: 'it returns false'. Refute it at one input. -/
def statesPlaceWrong : ChangeSpec := { name := "statesPlace", fn := fun _ => fun
  | [d1, d2] => { results := [.lit (.bool false)], args := [d1, d2] }
  | _ => none }
def StatesPlaceWrongFalsely : Prop := statesPlaceRow.holds Try.pinned (OpenSpec.ofChange statesPlaceWrong)

/-- 'rovinglaw21.ClockDue': WHATEVER THE INPUT: true; the input reads as it did. -/
def clockDueSpec : ChangeSpec := { name := "clockDue", fn := fun _ => fun
  | [d] => { results := [.lit (.bool true)], args := [d] }
  | _ => none }
def clockDueRow : OpenClaim := { program := "ytggobapgdflchaa", sum := "54e3146b6d2f5eda5be780a9ff0371f9837c8a7f70e53367e8f89c44f61c2a73", func := "roving/rovinglaw21.ClockDue", spec := "clockDue", unfollowed := true, recurses := true, apart := false }
def ClockDueSaid : Prop := clockDueRow.holds Try.pinned (OpenSpec.ofChange clockDueSpec)

/-- ITS FALSE NEIGHBOUR: 'it returns false'. Refute it at one input. -/
def clockDueWrong : ChangeSpec := { name := "clockDue", fn := fun _ => fun
  | [d] => { results := [.lit (.bool false)], args := [d] }
  | _ => none }
def ClockDueWrongFalsely : Prop := clockDueRow.holds Try.pinned (OpenSpec.ofChange clockDueWrong)

/-- 'rovinglaw21.ClockYoung': WHATEVER THE INPUT: true; the input reads as it did. -/
def clockYoungSpec : ChangeSpec := { name := "clockYoung", fn := fun _ => fun
  | [d] => { results := [.lit (.bool true)], args := [d] }
  | _ => none }
def clockYoungRow : OpenClaim := { program := "ytggobapgdflchaa", sum := "54e3146b6d2f5eda5be780a9ff0371f9837c8a7f70e53367e8f89c44f61c2a73", func := "roving/rovinglaw21.ClockYoung", spec := "clockYoung", unfollowed := true, recurses := true, apart := false }
def ClockYoungSaid : Prop := clockYoungRow.holds Try.pinned (OpenSpec.ofChange clockYoungSpec)

/-- ITS FALSE NEIGHBOUR: 'it returns false'. Refute it at one input. -/
def clockYoungWrong : ChangeSpec := { name := "clockYoung", fn := fun _ => fun
  | [d] => { results := [.lit (.bool false)], args := [d] }
  | _ => none }
def ClockYoungWrongFalsely : Prop := clockYoungRow.holds Try.pinned (OpenSpec.ofChange clockYoungWrong)

/-- 'rovinglaw21.ClockOldest': WHATEVER THE INPUT: true; the input reads as it did. -/
def clockOldestSpec : ChangeSpec := { name := "clockOldest", fn := fun _ => fun
  | [d] => { results := [.lit (.bool true)], args := [d] }
  | _ => none }
def clockOldestRow : OpenClaim := { program := "ytggobapgdflchaa", sum := "54e3146b6d2f5eda5be780a9ff0371f9837c8a7f70e53367e8f89c44f61c2a73", func := "roving/rovinglaw21.ClockOldest", spec := "clockOldest", unfollowed := true, recurses := true, apart := false }
def ClockOldestSaid : Prop := clockOldestRow.holds Try.pinned (OpenSpec.ofChange clockOldestSpec)

/-- ITS FALSE NEIGHBOUR: 'it returns false'. Refute it at one input. -/
def clockOldestWrong : ChangeSpec := { name := "clockOldest", fn := fun _ => fun
  | [d] => { results := [.lit (.bool false)], args := [d] }
  | _ => none }
def ClockOldestWrongFalsely : Prop := clockOldestRow.holds Try.pinned (OpenSpec.ofChange clockOldestWrong)

/-- 'rovinglaw21.ClockAgain': WHATEVER THE INPUT: true; the input reads as it did. -/
def clockAgainSpec : ChangeSpec := { name := "clockAgain", fn := fun _ => fun
  | [d1, d2] => { results := [.lit (.bool true)], args := [d1, d2] }
  | _ => none }
def clockAgainRow : OpenClaim := { program := "ytggobapgdflchaa", sum := "54e3146b6d2f5eda5be780a9ff0371f9837c8a7f70e53367e8f89c44f61c2a73", func := "roving/rovinglaw21.ClockAgain", spec := "clockAgain", unfollowed := true, recurses := true, apart := false }
def ClockAgainSaid : Prop := clockAgainRow.holds Try.pinned (OpenSpec.ofChange clockAgainSpec)

/-- ITS FALSE NEIGHBOUR: 'it returns false'. Refute it at one input. -/
def clockAgainWrong : ChangeSpec := { name := "clockAgain", fn := fun _ => fun
  | [d1, d2] => { results := [.lit (.bool false)], args := [d1, d2] }
  | _ => none }
def ClockAgainWrongFalsely : Prop := clockAgainRow.holds Try.pinned (OpenSpec.ofChange clockAgainWrong)

/-- 'rovinglaw18.StatesMove': WHATEVER THE INPUT: true; the input reads as it did. -/
def statesMoveSpec : ChangeSpec := { name := "statesMove", fn := fun _ => fun
  | [d1, d2] => { results := [.lit (.bool true)], args := [d1, d2] }
  | _ => none }
def statesMoveRow : OpenClaim := { program := "ytggobapgdflchaa", sum := "54e3146b6d2f5eda5be780a9ff0371f9837c8a7f70e53367e8f89c44f61c2a73", func := "roving/rovinglaw18.StatesMove", spec := "statesMove", unfollowed := true, recurses := true, apart := false }
def StatesMoveSaid : Prop := statesMoveRow.holds Try.pinned (OpenSpec.ofChange statesMoveSpec)

/-- ITS FALSE NEIGHBOUR: 'it returns false'. Refute it at one input. -/
def statesMoveWrong : ChangeSpec := { name := "statesMove", fn := fun _ => fun
  | [d1, d2] => { results := [.lit (.bool false)], args := [d1, d2] }
  | _ => none }
def StatesMoveWrongFalsely : Prop := statesMoveRow.holds Try.pinned (OpenSpec.ofChange statesMoveWrong)

/-- 'rovinglaw18.StatesOld': WHATEVER THE INPUT: true; the input reads as it did. -/
def statesOldSpec : ChangeSpec := { name := "statesOld", fn := fun _ => fun
  | [d1, d2] => { results := [.lit (.bool true)], args := [d1, d2] }
  | _ => none }
def statesOldRow : OpenClaim := { program := "ytggobapgdflchaa", sum := "54e3146b6d2f5eda5be780a9ff0371f9837c8a7f70e53367e8f89c44f61c2a73", func := "roving/rovinglaw18.StatesOld", spec := "statesOld", unfollowed := true, recurses := true, apart := false }
def StatesOldSaid : Prop := statesOldRow.holds Try.pinned (OpenSpec.ofChange statesOldSpec)

/-- ITS FALSE NEIGHBOUR: 'it returns false'. Refute it at one input. -/
def statesOldWrong : ChangeSpec := { name := "statesOld", fn := fun _ => fun
  | [d1, d2] => { results := [.lit (.bool false)], args := [d1, d2] }
  | _ => none }
def StatesOldWrongFalsely : Prop := statesOldRow.holds Try.pinned (OpenSpec.ofChange statesOldWrong)

/-- 'rovinglaw18.StatesRun': WHATEVER THE INPUT: true; the input reads as it did. -/
def statesRunSpec : ChangeSpec := { name := "statesRun", fn := fun _ => fun
  | [d] => { results := [.lit (.bool true)], args := [d] }
  | _ => none }
def statesRunRow : OpenClaim := { program := "ytggobapgdflchaa", sum := "54e3146b6d2f5eda5be780a9ff0371f9837c8a7f70e53367e8f89c44f61c2a73", func := "roving/rovinglaw18.StatesRun", spec := "statesRun", unfollowed := true, recurses := true, apart := false }
def StatesRunSaid : Prop := statesRunRow.holds Try.pinned (OpenSpec.ofChange statesRunSpec)

/-- ITS FALSE NEIGHBOUR: 'it returns false'. Refute it at one input. -/
def statesRunWrong : ChangeSpec := { name := "statesRun", fn := fun _ => fun
  | [d] => { results := [.lit (.bool false)], args := [d] }
  | _ => none }
def StatesRunWrongFalsely : Prop := statesRunRow.holds Try.pinned (OpenSpec.ofChange statesRunWrong)

/-- 'rovinglaw20.MetaNext': WHATEVER THE INPUT: true; the input reads as it did. -/
def metaNextSpec : ChangeSpec := { name := "metaNext", fn := fun _ => fun
  | [d1, d2] => { results := [.lit (.bool true)], args := [d1, d2] }
  | _ => none }
def metaNextRow : OpenClaim := { program := "ytggobapgdflchaa", sum := "54e3146b6d2f5eda5be780a9ff0371f9837c8a7f70e53367e8f89c44f61c2a73", func := "roving/rovinglaw20.MetaNext", spec := "metaNext", unfollowed := true, recurses := true, apart := false }
def MetaNextSaid : Prop := metaNextRow.holds Try.pinned (OpenSpec.ofChange metaNextSpec)

/-- ITS FALSE NEIGHBOUR: 'it returns false'. Refute it at one input. -/
def metaNextWrong : ChangeSpec := { name := "metaNext", fn := fun _ => fun
  | [d1, d2] => { results := [.lit (.bool false)], args := [d1, d2] }
  | _ => none }
def MetaNextWrongFalsely : Prop := metaNextRow.holds Try.pinned (OpenSpec.ofChange metaNextWrong)

/-- 'rovinglaw20.MetaFolds': WHATEVER THE INPUT: true; the input reads as it did. -/
def metaFoldsSpec : ChangeSpec := { name := "metaFolds", fn := fun _ => fun
  | [d] => { results := [.lit (.bool true)], args := [d] }
  | _ => none }
def metaFoldsRow : OpenClaim := { program := "ytggobapgdflchaa", sum := "54e3146b6d2f5eda5be780a9ff0371f9837c8a7f70e53367e8f89c44f61c2a73", func := "roving/rovinglaw20.MetaFolds", spec := "metaFolds", unfollowed := true, recurses := true, apart := false }
def MetaFoldsSaid : Prop := metaFoldsRow.holds Try.pinned (OpenSpec.ofChange metaFoldsSpec)

/-- ITS FALSE NEIGHBOUR: 'it returns false'. Refute it at one input. -/
def metaFoldsWrong : ChangeSpec := { name := "metaFolds", fn := fun _ => fun
  | [d] => { results := [.lit (.bool false)], args := [d] }
  | _ => none }
def MetaFoldsWrongFalsely : Prop := metaFoldsRow.holds Try.pinned (OpenSpec.ofChange metaFoldsWrong)

/-- 'rovinglaw20.MetaOffsets': WHATEVER THE INPUT: true; the input reads as it did. -/
def metaOffsetsSpec : ChangeSpec := { name := "metaOffsets", fn := fun _ => fun
  | [d] => { results := [.lit (.bool true)], args := [d] }
  | _ => none }
def metaOffsetsRow : OpenClaim := { program := "ytggobapgdflchaa", sum := "54e3146b6d2f5eda5be780a9ff0371f9837c8a7f70e53367e8f89c44f61c2a73", func := "roving/rovinglaw20.MetaOffsets", spec := "metaOffsets", unfollowed := true, recurses := true, apart := false }
def MetaOffsetsSaid : Prop := metaOffsetsRow.holds Try.pinned (OpenSpec.ofChange metaOffsetsSpec)

/-- ITS FALSE NEIGHBOUR: 'it returns false'. Refute it at one input. -/
def metaOffsetsWrong : ChangeSpec := { name := "metaOffsets", fn := fun _ => fun
  | [d] => { results := [.lit (.bool false)], args := [d] }
  | _ => none }
def MetaOffsetsWrongFalsely : Prop := metaOffsetsRow.holds Try.pinned (OpenSpec.ofChange metaOffsetsWrong)

/-- 'rovinglaw20.MetaTurns': WHATEVER THE INPUT: true; the input reads as it did. -/
def metaTurnsSpec : ChangeSpec := { name := "metaTurns", fn := fun _ => fun
  | [d1, d2, d3] => { results := [.lit (.bool true)], args := [d1, d2, d3] }
  | _ => none }
def metaTurnsRow : OpenClaim := { program := "ytggobapgdflchaa", sum := "54e3146b6d2f5eda5be780a9ff0371f9837c8a7f70e53367e8f89c44f61c2a73", func := "roving/rovinglaw20.MetaTurns", spec := "metaTurns", unfollowed := true, recurses := true, apart := false }
def MetaTurnsSaid : Prop := metaTurnsRow.holds Try.pinned (OpenSpec.ofChange metaTurnsSpec)

/-- ITS FALSE NEIGHBOUR: 'it returns false'. Refute it at one input. -/
def metaTurnsWrong : ChangeSpec := { name := "metaTurns", fn := fun _ => fun
  | [d1, d2, d3] => { results := [.lit (.bool false)], args := [d1, d2, d3] }
  | _ => none }
def MetaTurnsWrongFalsely : Prop := metaTurnsRow.holds Try.pinned (OpenSpec.ofChange metaTurnsWrong)

/-- 'rovinglaw20.MetaBack': WHATEVER THE INPUT: true; the input reads as it did. -/
def metaBackSpec : ChangeSpec := { name := "metaBack", fn := fun _ => fun
  | [d] => { results := [.lit (.bool true)], args := [d] }
  | _ => none }
def metaBackRow : OpenClaim := { program := "ytggobapgdflchaa", sum := "54e3146b6d2f5eda5be780a9ff0371f9837c8a7f70e53367e8f89c44f61c2a73", func := "roving/rovinglaw20.MetaBack", spec := "metaBack", unfollowed := true, recurses := true, apart := false }
def MetaBackSaid : Prop := metaBackRow.holds Try.pinned (OpenSpec.ofChange metaBackSpec)

/-- ITS FALSE NEIGHBOUR: 'it returns false'. Refute it at one input. -/
def metaBackWrong : ChangeSpec := { name := "metaBack", fn := fun _ => fun
  | [d] => { results := [.lit (.bool false)], args := [d] }
  | _ => none }
def MetaBackWrongFalsely : Prop := metaBackRow.holds Try.pinned (OpenSpec.ofChange metaBackWrong)

/- THE SECOND FORM. 'bulk': how many values and letters a reading holds, each counted each time it is reached (what is shared counts as often as it is met; a slice's spare places count too). A statement '..UptoSaid' is the law's where the arguments, and the package variables that the reading takes, are together of bulk at most 1048576: NARROWER than '..Said'. Prove '..Said' where nothing that the law and all that it calls make is longer than what came in: it says more and counts as full. Else prove '..UptoSaid'. A law counts once. -/
mutual
def uptoBulk {H : Type} : DataW H → Nat
  | .lit (.string bytes) => bytes.length + 1
  | .lit _ => 1
  | .nil => 1
  | .ptr d => uptoBulk d + 1
  | .slice elems spare => uptoBulkAll elems + uptoBulkAll spare + 1
  | .agg parts => uptoBulkAll parts + 1
  | .iface _ d => uptoBulk d + 1
  | .map entries => uptoBulkEntries entries + 1
  | .held _ => 1
def uptoBulkAll {H : Type} : List (DataW H) → Nat
  | [] => 0
  | d :: r => uptoBulk d + uptoBulkAll r
def uptoBulkEntries {H : Type} : List (Lit × DataW H) → Nat
  | [] => 0
  | x :: r => uptoBulkEntry x + uptoBulkEntries r
def uptoBulkEntry {H : Type} : Lit × DataW H → Nat
  | (.string bytes, d) => bytes.length + uptoBulk d + 1
  | (_, d) => uptoBulk d + 1
 end
def uptoSmall : (H : Type) → List (DataW H) → Bool := fun _ ds => decide (uptoBulkAll ds ≤ 1048576)
def OpenSpec.upto (s : _root_.Go.ChangeSpec) : _root_.Go.OpenSpec := { _root_.Go.OpenSpec.ofChange s with cond := some uptoSmall }

/-- 'rovinglaw18.StatesPlace', WHERE WHAT IT READS IS OF BULK AT MOST 1048576: true; the input reads as it did. -/
def statesPlaceUptoRow : OpenClaim := { program := "ytggobapgdflchaa", sum := "54e3146b6d2f5eda5be780a9ff0371f9837c8a7f70e53367e8f89c44f61c2a73", func := "roving/rovinglaw18.StatesPlace", spec := "statesPlace", unfollowed := true, recurses := true, apart := false, narrowed := true }
def StatesPlaceUptoSaid : Prop := statesPlaceUptoRow.holds Try.pinned (OpenSpec.upto statesPlaceSpec)

/-- 'rovinglaw21.ClockDue', WHERE WHAT IT READS IS OF BULK AT MOST 1048576: true; the input reads as it did. -/
def clockDueUptoRow : OpenClaim := { program := "ytggobapgdflchaa", sum := "54e3146b6d2f5eda5be780a9ff0371f9837c8a7f70e53367e8f89c44f61c2a73", func := "roving/rovinglaw21.ClockDue", spec := "clockDue", unfollowed := true, recurses := true, apart := false, narrowed := true }
def ClockDueUptoSaid : Prop := clockDueUptoRow.holds Try.pinned (OpenSpec.upto clockDueSpec)

/-- 'rovinglaw21.ClockYoung', WHERE WHAT IT READS IS OF BULK AT MOST 1048576: true; the input reads as it did. -/
def clockYoungUptoRow : OpenClaim := { program := "ytggobapgdflchaa", sum := "54e3146b6d2f5eda5be780a9ff0371f9837c8a7f70e53367e8f89c44f61c2a73", func := "roving/rovinglaw21.ClockYoung", spec := "clockYoung", unfollowed := true, recurses := true, apart := false, narrowed := true }
def ClockYoungUptoSaid : Prop := clockYoungUptoRow.holds Try.pinned (OpenSpec.upto clockYoungSpec)

/-- 'rovinglaw21.ClockOldest', WHERE WHAT IT READS IS OF BULK AT MOST 1048576: true; the input reads as it did. -/
def clockOldestUptoRow : OpenClaim := { program := "ytggobapgdflchaa", sum := "54e3146b6d2f5eda5be780a9ff0371f9837c8a7f70e53367e8f89c44f61c2a73", func := "roving/rovinglaw21.ClockOldest", spec := "clockOldest", unfollowed := true, recurses := true, apart := false, narrowed := true }
def ClockOldestUptoSaid : Prop := clockOldestUptoRow.holds Try.pinned (OpenSpec.upto clockOldestSpec)

/-- 'rovinglaw21.ClockAgain', WHERE WHAT IT READS IS OF BULK AT MOST 1048576: true; the input reads as it did. -/
def clockAgainUptoRow : OpenClaim := { program := "ytggobapgdflchaa", sum := "54e3146b6d2f5eda5be780a9ff0371f9837c8a7f70e53367e8f89c44f61c2a73", func := "roving/rovinglaw21.ClockAgain", spec := "clockAgain", unfollowed := true, recurses := true, apart := false, narrowed := true }
def ClockAgainUptoSaid : Prop := clockAgainUptoRow.holds Try.pinned (OpenSpec.upto clockAgainSpec)

/-- 'rovinglaw18.StatesMove', WHERE WHAT IT READS IS OF BULK AT MOST 1048576: true; the input reads as it did. -/
def statesMoveUptoRow : OpenClaim := { program := "ytggobapgdflchaa", sum := "54e3146b6d2f5eda5be780a9ff0371f9837c8a7f70e53367e8f89c44f61c2a73", func := "roving/rovinglaw18.StatesMove", spec := "statesMove", unfollowed := true, recurses := true, apart := false, narrowed := true }
def StatesMoveUptoSaid : Prop := statesMoveUptoRow.holds Try.pinned (OpenSpec.upto statesMoveSpec)

/-- 'rovinglaw18.StatesOld', WHERE WHAT IT READS IS OF BULK AT MOST 1048576: true; the input reads as it did. -/
def statesOldUptoRow : OpenClaim := { program := "ytggobapgdflchaa", sum := "54e3146b6d2f5eda5be780a9ff0371f9837c8a7f70e53367e8f89c44f61c2a73", func := "roving/rovinglaw18.StatesOld", spec := "statesOld", unfollowed := true, recurses := true, apart := false, narrowed := true }
def StatesOldUptoSaid : Prop := statesOldUptoRow.holds Try.pinned (OpenSpec.upto statesOldSpec)

/-- 'rovinglaw18.StatesRun', WHERE WHAT IT READS IS OF BULK AT MOST 1048576: true; the input reads as it did. -/
def statesRunUptoRow : OpenClaim := { program := "ytggobapgdflchaa", sum := "54e3146b6d2f5eda5be780a9ff0371f9837c8a7f70e53367e8f89c44f61c2a73", func := "roving/rovinglaw18.StatesRun", spec := "statesRun", unfollowed := true, recurses := true, apart := false, narrowed := true }
def StatesRunUptoSaid : Prop := statesRunUptoRow.holds Try.pinned (OpenSpec.upto statesRunSpec)

/-- 'rovinglaw20.MetaNext', WHERE WHAT IT READS IS OF BULK AT MOST 1048576: true; the input reads as it did. -/
def metaNextUptoRow : OpenClaim := { program := "ytggobapgdflchaa", sum := "54e3146b6d2f5eda5be780a9ff0371f9837c8a7f70e53367e8f89c44f61c2a73", func := "roving/rovinglaw20.MetaNext", spec := "metaNext", unfollowed := true, recurses := true, apart := false, narrowed := true }
def MetaNextUptoSaid : Prop := metaNextUptoRow.holds Try.pinned (OpenSpec.upto metaNextSpec)

/-- 'rovinglaw20.MetaFolds', WHERE WHAT IT READS IS OF BULK AT MOST 1048576: true; the input reads as it did. -/
def metaFoldsUptoRow : OpenClaim := { program := "ytggobapgdflchaa", sum := "54e3146b6d2f5eda5be780a9ff0371f9837c8a7f70e53367e8f89c44f61c2a73", func := "roving/rovinglaw20.MetaFolds", spec := "metaFolds", unfollowed := true, recurses := true, apart := false, narrowed := true }
def MetaFoldsUptoSaid : Prop := metaFoldsUptoRow.holds Try.pinned (OpenSpec.upto metaFoldsSpec)

/-- 'rovinglaw20.MetaOffsets', WHERE WHAT IT READS IS OF BULK AT MOST 1048576: true; the input reads as it did. -/
def metaOffsetsUptoRow : OpenClaim := { program := "ytggobapgdflchaa", sum := "54e3146b6d2f5eda5be780a9ff0371f9837c8a7f70e53367e8f89c44f61c2a73", func := "roving/rovinglaw20.MetaOffsets", spec := "metaOffsets", unfollowed := true, recurses := true, apart := false, narrowed := true }
def MetaOffsetsUptoSaid : Prop := metaOffsetsUptoRow.holds Try.pinned (OpenSpec.upto metaOffsetsSpec)

/-- 'rovinglaw20.MetaTurns', WHERE WHAT IT READS IS OF BULK AT MOST 1048576: true; the input reads as it did. -/
def metaTurnsUptoRow : OpenClaim := { program := "ytggobapgdflchaa", sum := "54e3146b6d2f5eda5be780a9ff0371f9837c8a7f70e53367e8f89c44f61c2a73", func := "roving/rovinglaw20.MetaTurns", spec := "metaTurns", unfollowed := true, recurses := true, apart := false, narrowed := true }
def MetaTurnsUptoSaid : Prop := metaTurnsUptoRow.holds Try.pinned (OpenSpec.upto metaTurnsSpec)

/-- 'rovinglaw20.MetaBack', WHERE WHAT IT READS IS OF BULK AT MOST 1048576: true; the input reads as it did. -/
def metaBackUptoRow : OpenClaim := { program := "ytggobapgdflchaa", sum := "54e3146b6d2f5eda5be780a9ff0371f9837c8a7f70e53367e8f89c44f61c2a73", func := "roving/rovinglaw20.MetaBack", spec := "metaBack", unfollowed := true, recurses := true, apart := false, narrowed := true }
def MetaBackUptoSaid : Prop := metaBackUptoRow.holds Try.pinned (OpenSpec.upto metaBackSpec)

end Rows
end Go.Proofs.Ytggobapgdflchaa
