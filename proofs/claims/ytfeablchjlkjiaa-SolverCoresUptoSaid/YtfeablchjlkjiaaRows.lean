/-
  No cell of these rows narrows 'for every input' (looked for: loops, veiled, ifaces, maps, wideKeys, modest, calm, conditions, laid).
  DERIVED. THE GIVEN ROWS OF THIS SEAT. 7 by the template 'for every input the law returns true; each argument reads behind the call as it read before'; 0 by the template 'total and deterministic' (their statements: YtfeablchjlkjiaaTotals.lean).
  GIVEN WITH THE SEED: the statements are not yours to turn. If you find one false, say at which input.
  Laid BY PROGRAM, IN A SANDBOX (cutbox-rows.mjs): the forced cells as the released guide's own fill.sh prints them over the translation 860edd025062d698… (all of the seat's roots in one cut). By AI agents, Wed Nov 11 2026. No macro, syntax, notation, axiom, sorry.
-/
import Derived.Test.YtfeablchjlkjiaaChecked
import GoSem.Claim
import GoSem.ClaimJoined
import GoSem.ClaimMapViews
import Derived.JoinedTies
import Derived.KernelRfl
namespace Go.Proofs.Ytfeablchjlkjiaa
/- THE CELL 'sum', in the pinned program and in every row, IS THE sha256 OF THE DUMP (.gsa) THAT YtfeablchjlkjiaaProg.lean LOADS. Nothing in Lean hashes anything: it is a label: what it is worth is what the hold of that sum in a sandbox is worth. -/
noncomputable def Try.pinned : Pinned := { name := "ytfeablchjlkjiaa", sum := "860edd025062d698b49e41052ad2f66f8cbe5d6e7476354839ce5e092bd337d2", checked := Try.checked }
namespace Rows
def none {H : Type} : Left H := { results := [], args := [] }

/-- 'larderlaw09.SolverSolves': WHATEVER THE INPUT: true; the input reads as it did. -/
def solverSolvesSpec : ChangeSpec := { name := "solverSolves", fn := fun _ => fun
  | [d1, d2, d3, d4] => { results := [.lit (.bool true)], args := [d1, d2, d3, d4] }
  | _ => none }
def solverSolvesRow : OpenClaim := { program := "ytfeablchjlkjiaa", sum := "860edd025062d698b49e41052ad2f66f8cbe5d6e7476354839ce5e092bd337d2", func := "larder/larderlaw09.SolverSolves", spec := "solverSolves", unfollowed := true, recurses := true, apart := false }
def SolverSolvesSaid : Prop := solverSolvesRow.holds Try.pinned (OpenSpec.ofChange solverSolvesSpec)

/-- ITS FALSE NEIGHBOUR: 'it returns false'. Refute it at one input. -/
def solverSolvesWrong : ChangeSpec := { name := "solverSolves", fn := fun _ => fun
  | [d1, d2, d3, d4] => { results := [.lit (.bool false)], args := [d1, d2, d3, d4] }
  | _ => none }
def SolverSolvesWrongFalsely : Prop := solverSolvesRow.holds Try.pinned (OpenSpec.ofChange solverSolvesWrong)

/-- 'larderlaw09.SolverRight': WHATEVER THE INPUT: true; the input reads as it did. -/
def solverRightSpec : ChangeSpec := { name := "solverRight", fn := fun _ => fun
  | [d1, d2, d3, d4, d5, d6] => { results := [.lit (.bool true)], args := [d1, d2, d3, d4, d5, d6] }
  | _ => none }
def solverRightRow : OpenClaim := { program := "ytfeablchjlkjiaa", sum := "860edd025062d698b49e41052ad2f66f8cbe5d6e7476354839ce5e092bd337d2", func := "larder/larderlaw09.SolverRight", spec := "solverRight", unfollowed := true, recurses := true, apart := false }
def SolverRightSaid : Prop := solverRightRow.holds Try.pinned (OpenSpec.ofChange solverRightSpec)

/-- ITS FALSE NEIGHBOUR: 'it returns false'. Refute it at one input. -/
def solverRightWrong : ChangeSpec := { name := "solverRight", fn := fun _ => fun
  | [d1, d2, d3, d4, d5, d6] => { results := [.lit (.bool false)], args := [d1, d2, d3, d4, d5, d6] }
  | _ => none }
def SolverRightWrongFalsely : Prop := solverRightRow.holds Try.pinned (OpenSpec.ofChange solverRightWrong)

/-- 'larderlaw09.SolverEnough': WHATEVER THE INPUT: true; the input reads as it did. -/
def solverEnoughSpec : ChangeSpec := { name := "solverEnough", fn := fun _ => fun
  | [d1, d2, d3] => { results := [.lit (.bool true)], args := [d1, d2, d3] }
  | _ => none }
def solverEnoughRow : OpenClaim := { program := "ytfeablchjlkjiaa", sum := "860edd025062d698b49e41052ad2f66f8cbe5d6e7476354839ce5e092bd337d2", func := "larder/larderlaw09.SolverEnough", spec := "solverEnough", unfollowed := true, recurses := true, apart := false }
def SolverEnoughSaid : Prop := solverEnoughRow.holds Try.pinned (OpenSpec.ofChange solverEnoughSpec)

/-- ITS FALSE NEIGHBOUR: 'it returns false'. Refute it at one input. -/
def solverEnoughWrong : ChangeSpec := { name := "solverEnough", fn := fun _ => fun
  | [d1, d2, d3] => { results := [.lit (.bool false)], args := [d1, d2, d3] }
  | _ => none }
def SolverEnoughWrongFalsely : Prop := solverEnoughRow.holds Try.pinned (OpenSpec.ofChange solverEnoughWrong)

/-- 'larderlaw09.SolverWanted': WHATEVER THE INPUT: true; the input reads as it did. -/
def solverWantedSpec : ChangeSpec := { name := "solverWanted", fn := fun _ => fun
  | [d1, d2, d3] => { results := [.lit (.bool true)], args := [d1, d2, d3] }
  | _ => none }
def solverWantedRow : OpenClaim := { program := "ytfeablchjlkjiaa", sum := "860edd025062d698b49e41052ad2f66f8cbe5d6e7476354839ce5e092bd337d2", func := "larder/larderlaw09.SolverWanted", spec := "solverWanted", unfollowed := true, recurses := true, apart := false }
def SolverWantedSaid : Prop := solverWantedRow.holds Try.pinned (OpenSpec.ofChange solverWantedSpec)

/-- ITS FALSE NEIGHBOUR: 'it returns false'. Refute it at one input. -/
def solverWantedWrong : ChangeSpec := { name := "solverWanted", fn := fun _ => fun
  | [d1, d2, d3] => { results := [.lit (.bool false)], args := [d1, d2, d3] }
  | _ => none }
def SolverWantedWrongFalsely : Prop := solverWantedRow.holds Try.pinned (OpenSpec.ofChange solverWantedWrong)

/-- 'larderlaw09.SolverLiking': WHATEVER THE INPUT: true; the input reads as it did. -/
def solverLikingSpec : ChangeSpec := { name := "solverLiking", fn := fun _ => fun
  | [d1, d2, d3, d4, d5] => { results := [.lit (.bool true)], args := [d1, d2, d3, d4, d5] }
  | _ => none }
def solverLikingRow : OpenClaim := { program := "ytfeablchjlkjiaa", sum := "860edd025062d698b49e41052ad2f66f8cbe5d6e7476354839ce5e092bd337d2", func := "larder/larderlaw09.SolverLiking", spec := "solverLiking", unfollowed := true, recurses := true, apart := false }
def SolverLikingSaid : Prop := solverLikingRow.holds Try.pinned (OpenSpec.ofChange solverLikingSpec)

/-- ITS FALSE NEIGHBOUR: 'it returns false'. Refute it at one input. -/
def solverLikingWrong : ChangeSpec := { name := "solverLiking", fn := fun _ => fun
  | [d1, d2, d3, d4, d5] => { results := [.lit (.bool false)], args := [d1, d2, d3, d4, d5] }
  | _ => none }
def SolverLikingWrongFalsely : Prop := solverLikingRow.holds Try.pinned (OpenSpec.ofChange solverLikingWrong)

/-- 'larderlaw09.SolverCores': WHATEVER THE INPUT: true; the input reads as it did. -/
def solverCoresSpec : ChangeSpec := { name := "solverCores", fn := fun _ => fun
  | [d1, d2, d3] => { results := [.lit (.bool true)], args := [d1, d2, d3] }
  | _ => none }
def solverCoresRow : OpenClaim := { program := "ytfeablchjlkjiaa", sum := "860edd025062d698b49e41052ad2f66f8cbe5d6e7476354839ce5e092bd337d2", func := "larder/larderlaw09.SolverCores", spec := "solverCores", unfollowed := true, recurses := true, apart := false }
def SolverCoresSaid : Prop := solverCoresRow.holds Try.pinned (OpenSpec.ofChange solverCoresSpec)

/-- ITS FALSE NEIGHBOUR: 'it returns false'. Refute it at one input. -/
def solverCoresWrong : ChangeSpec := { name := "solverCores", fn := fun _ => fun
  | [d1, d2, d3] => { results := [.lit (.bool false)], args := [d1, d2, d3] }
  | _ => none }
def SolverCoresWrongFalsely : Prop := solverCoresRow.holds Try.pinned (OpenSpec.ofChange solverCoresWrong)

/-- 'larderlaw09.SolverBlames': WHATEVER THE INPUT: true; the input reads as it did. -/
def solverBlamesSpec : ChangeSpec := { name := "solverBlames", fn := fun _ => fun
  | [d1, d2, d3, d4] => { results := [.lit (.bool true)], args := [d1, d2, d3, d4] }
  | _ => none }
def solverBlamesRow : OpenClaim := { program := "ytfeablchjlkjiaa", sum := "860edd025062d698b49e41052ad2f66f8cbe5d6e7476354839ce5e092bd337d2", func := "larder/larderlaw09.SolverBlames", spec := "solverBlames", unfollowed := true, recurses := true, apart := false }
def SolverBlamesSaid : Prop := solverBlamesRow.holds Try.pinned (OpenSpec.ofChange solverBlamesSpec)

/-- ITS FALSE NEIGHBOUR: 'it returns false'. Refute it at one input. -/
def solverBlamesWrong : ChangeSpec := { name := "solverBlames", fn := fun _ => fun
  | [d1, d2, d3, d4] => { results := [.lit (.bool false)], args := [d1, d2, d3, d4] }
  | _ => none }
def SolverBlamesWrongFalsely : Prop := solverBlamesRow.holds Try.pinned (OpenSpec.ofChange solverBlamesWrong)

/- THE SECOND FORM. 'bulk': how many values and letters a reading holds, each counted each time it is reached (what is shared counts as often as it is met; a slice's spare places count too). A statement '..UptoSaid' is the law's where the arguments, and the package variables that the reading takes, are together of bulk at most 1048576: NARROWER than '..Said'. Prove '..Said' where nothing that the law and all that it calls make is longer than what came in: it says more and counts as full. Else prove '..UptoSaid'. A law counts once. -/
mutual
def uptoBulk {H : Type} : DataW H → Nat
  | .lit (.string bytes) => bytes.length + 1
  | .lit _ => 1
  | .nil => 1
  | .ptr d => uptoBulk d + 1
  | .slice elems spare => uptoBulkAll elems + uptoBulkAll spare + 1
  | .agg parts => uptoBulkAll parts + 1
  | .iface _ d => uptoBulk d + 1
  | .map entries => uptoBulkEntries entries + 1
  | .held _ => 1
def uptoBulkAll {H : Type} : List (DataW H) → Nat
  | [] => 0
  | d :: r => uptoBulk d + uptoBulkAll r
def uptoBulkEntries {H : Type} : List (Lit × DataW H) → Nat
  | [] => 0
  | x :: r => uptoBulkEntry x + uptoBulkEntries r
def uptoBulkEntry {H : Type} : Lit × DataW H → Nat
  | (.string bytes, d) => bytes.length + uptoBulk d + 1
  | (_, d) => uptoBulk d + 1
 end
def uptoSmall : (H : Type) → List (DataW H) → Bool := fun _ ds => decide (uptoBulkAll ds ≤ 1048576)
def OpenSpec.upto (s : _root_.Go.ChangeSpec) : _root_.Go.OpenSpec := { _root_.Go.OpenSpec.ofChange s with cond := some uptoSmall }

/-- 'larderlaw09.SolverSolves', WHERE WHAT IT READS IS OF BULK AT MOST 1048576: true; the input reads as it did. -/
def solverSolvesUptoRow : OpenClaim := { program := "ytfeablchjlkjiaa", sum := "860edd025062d698b49e41052ad2f66f8cbe5d6e7476354839ce5e092bd337d2", func := "larder/larderlaw09.SolverSolves", spec := "solverSolves", unfollowed := true, recurses := true, apart := false, narrowed := true }
def SolverSolvesUptoSaid : Prop := solverSolvesUptoRow.holds Try.pinned (OpenSpec.upto solverSolvesSpec)

/-- 'larderlaw09.SolverRight', WHERE WHAT IT READS IS OF BULK AT MOST 1048576: true; the input reads as it did. -/
def solverRightUptoRow : OpenClaim := { program := "ytfeablchjlkjiaa", sum := "860edd025062d698b49e41052ad2f66f8cbe5d6e7476354839ce5e092bd337d2", func := "larder/larderlaw09.SolverRight", spec := "solverRight", unfollowed := true, recurses := true, apart := false, narrowed := true }
def SolverRightUptoSaid : Prop := solverRightUptoRow.holds Try.pinned (OpenSpec.upto solverRightSpec)

/-- 'larderlaw09.SolverEnough', WHERE WHAT IT READS IS OF BULK AT MOST 1048576: true; the input reads as it did. -/
def solverEnoughUptoRow : OpenClaim := { program := "ytfeablchjlkjiaa", sum := "860edd025062d698b49e41052ad2f66f8cbe5d6e7476354839ce5e092bd337d2", func := "larder/larderlaw09.SolverEnough", spec := "solverEnough", unfollowed := true, recurses := true, apart := false, narrowed := true }
def SolverEnoughUptoSaid : Prop := solverEnoughUptoRow.holds Try.pinned (OpenSpec.upto solverEnoughSpec)

/-- 'larderlaw09.SolverWanted', WHERE WHAT IT READS IS OF BULK AT MOST 1048576: true; the input reads as it did. -/
def solverWantedUptoRow : OpenClaim := { program := "ytfeablchjlkjiaa", sum := "860edd025062d698b49e41052ad2f66f8cbe5d6e7476354839ce5e092bd337d2", func := "larder/larderlaw09.SolverWanted", spec := "solverWanted", unfollowed := true, recurses := true, apart := false, narrowed := true }
def SolverWantedUptoSaid : Prop := solverWantedUptoRow.holds Try.pinned (OpenSpec.upto solverWantedSpec)

/-- 'larderlaw09.SolverLiking', WHERE WHAT IT READS IS OF BULK AT MOST 1048576: true; the input reads as it did. -/
def solverLikingUptoRow : OpenClaim := { program := "ytfeablchjlkjiaa", sum := "860edd025062d698b49e41052ad2f66f8cbe5d6e7476354839ce5e092bd337d2", func := "larder/larderlaw09.SolverLiking", spec := "solverLiking", unfollowed := true, recurses := true, apart := false, narrowed := true }
def SolverLikingUptoSaid : Prop := solverLikingUptoRow.holds Try.pinned (OpenSpec.upto solverLikingSpec)

/-- 'larderlaw09.SolverCores', WHERE WHAT IT READS IS OF BULK AT MOST 1048576: true; the input reads as it did. -/
def solverCoresUptoRow : OpenClaim := { program := "ytfeablchjlkjiaa", sum := "860edd025062d698b49e41052ad2f66f8cbe5d6e7476354839ce5e092bd337d2", func := "larder/larderlaw09.SolverCores", spec := "solverCores", unfollowed := true, recurses := true, apart := false, narrowed := true }
def SolverCoresUptoSaid : Prop := solverCoresUptoRow.holds Try.pinned (OpenSpec.upto solverCoresSpec)

/-- 'larderlaw09.SolverBlames', WHERE WHAT IT READS IS OF BULK AT MOST 1048576: true; the input reads as it did. -/
def solverBlamesUptoRow : OpenClaim := { program := "ytfeablchjlkjiaa", sum := "860edd025062d698b49e41052ad2f66f8cbe5d6e7476354839ce5e092bd337d2", func := "larder/larderlaw09.SolverBlames", spec := "solverBlames", unfollowed := true, recurses := true, apart := false, narrowed := true }
def SolverBlamesUptoSaid : Prop := solverBlamesUptoRow.holds Try.pinned (OpenSpec.upto solverBlamesSpec)

end Rows
end Go.Proofs.Ytfeablchjlkjiaa
