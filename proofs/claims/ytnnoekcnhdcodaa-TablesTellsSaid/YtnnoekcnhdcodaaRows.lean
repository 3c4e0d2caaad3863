/-
  No cell of these rows narrows 'for every input' (looked for: loops, veiled, ifaces, maps, wideKeys, modest, calm, conditions, laid).
  DERIVED. THE GIVEN ROWS OF THIS SEAT. 4 by the template 'for every input the law returns true; each argument reads behind the call as it read before'; 0 by the template 'total and deterministic' (their statements: YtnnoekcnhdcodaaTotals.lean).
  GIVEN WITH THE SEED: the statements are not yours to turn. If you find one false, say at which input.
  Laid BY PROGRAM, IN A SANDBOX (cutbox-rows.mjs): the forced cells as the released guide's own fill.sh prints them over the translation 379d5307ee42f0ff… (all of the seat's roots in one cut). By AI agents, Wed Nov 11 2026. No macro, syntax, notation, axiom, sorry.
-/
import Derived.Test.YtnnoekcnhdcodaaChecked
import GoSem.Claim
import GoSem.ClaimJoined
import GoSem.ClaimMapViews
import Derived.JoinedTies
import Derived.KernelRfl
namespace Go.Proofs.Ytnnoekcnhdcodaa
/- THE CELL 'sum', in the pinned program and in every row, IS THE sha256 OF THE DUMP (.gsa) THAT YtnnoekcnhdcodaaProg.lean LOADS. Nothing in Lean hashes anything: it is a label: what it is worth is what the hold of that sum in a sandbox is worth. -/
noncomputable def Try.pinned : Pinned := { name := "ytnnoekcnhdcodaa", sum := "379d5307ee42f0ff83995b7a6fa51d58f443a5342b0529f84050d908d504aed8", checked := Try.checked }
namespace Rows
def none {H : Type} : Left H := { results := [], args := [] }

/-- 'rehearsallaw12.TablesMap': WHATEVER THE INPUT: true; the input reads as it did. -/
def tablesMapSpec : ChangeSpec := { name := "tablesMap", fn := fun _ => fun
  | [d1, d2] => { results := [.lit (.bool true)], args := [d1, d2] }
  | _ => none }
def tablesMapRow : OpenClaim := { program := "ytnnoekcnhdcodaa", sum := "379d5307ee42f0ff83995b7a6fa51d58f443a5342b0529f84050d908d504aed8", func := "rehearsal/rehearsallaw12.TablesMap", spec := "tablesMap", apart := false }
def TablesMapSaid : Prop := tablesMapRow.holds Try.pinned (OpenSpec.ofChange tablesMapSpec)

/-- ITS FALSE NEIGHBOUR: 'it returns false'. Refute it at one input. -/
def tablesMapWrong : ChangeSpec := { name := "tablesMap", fn := fun _ => fun
  | [d1, d2] => { results := [.lit (.bool false)], args := [d1, d2] }
  | _ => none }
def TablesMapWrongFalsely : Prop := tablesMapRow.holds Try.pinned (OpenSpec.ofChange tablesMapWrong)

/-- 'rehearsallaw12.TablesAll': WHATEVER THE INPUT: true; the input reads as it did. -/
def tablesAllSpec : ChangeSpec := { name := "tablesAll", fn := fun _ => fun
  | [d1, d2] => { results := [.lit (.bool true)], args := [d1, d2] }
  | _ => none }
def tablesAllRow : OpenClaim := { program := "ytnnoekcnhdcodaa", sum := "379d5307ee42f0ff83995b7a6fa51d58f443a5342b0529f84050d908d504aed8", func := "rehearsal/rehearsallaw12.TablesAll", spec := "tablesAll", apart := false }
def TablesAllSaid : Prop := tablesAllRow.holds Try.pinned (OpenSpec.ofChange tablesAllSpec)

/-- ITS FALSE NEIGHBOUR: 'it returns false'. Refute it at one input. -/
def tablesAllWrong : ChangeSpec := { name := "tablesAll", fn := fun _ => fun
  | [d1, d2] => { results := [.lit (.bool false)], args := [d1, d2] }
  | _ => none }
def TablesAllWrongFalsely : Prop := tablesAllRow.holds Try.pinned (OpenSpec.ofChange tablesAllWrong)

/-- 'rehearsallaw12.TablesLevels': WHATEVER THE INPUT: true; the input reads as it did. -/
def tablesLevelsSpec : ChangeSpec := { name := "tablesLevels", fn := fun _ => fun
  | [d] => { results := [.lit (.bool true)], args := [d] }
  | _ => none }
def tablesLevelsRow : OpenClaim := { program := "ytnnoekcnhdcodaa", sum := "379d5307ee42f0ff83995b7a6fa51d58f443a5342b0529f84050d908d504aed8", func := "rehearsal/rehearsallaw12.TablesLevels", spec := "tablesLevels", apart := false }
def TablesLevelsSaid : Prop := tablesLevelsRow.holds Try.pinned (OpenSpec.ofChange tablesLevelsSpec)

/-- ITS FALSE NEIGHBOUR: 'it returns false'. Refute it at one input. -/
def tablesLevelsWrong : ChangeSpec := { name := "tablesLevels", fn := fun _ => fun
  | [d] => { results := [.lit (.bool false)], args := [d] }
  | _ => none }
def TablesLevelsWrongFalsely : Prop := tablesLevelsRow.holds Try.pinned (OpenSpec.ofChange tablesLevelsWrong)

/-- 'rehearsallaw12.TablesTells': WHATEVER THE INPUT: true; the input reads as it did. -/
def tablesTellsSpec : ChangeSpec := { name := "tablesTells", fn := fun _ => fun
  | [d1, d2] => { results := [.lit (.bool true)], args := [d1, d2] }
  | _ => none }
def tablesTellsRow : OpenClaim := { program := "ytnnoekcnhdcodaa", sum := "379d5307ee42f0ff83995b7a6fa51d58f443a5342b0529f84050d908d504aed8", func := "rehearsal/rehearsallaw12.TablesTells", spec := "tablesTells", apart := false }
def TablesTellsSaid : Prop := tablesTellsRow.holds Try.pinned (OpenSpec.ofChange tablesTellsSpec)

/-- ITS FALSE NEIGHBOUR: 'it returns false'. Refute it at one input. -/
def tablesTellsWrong : ChangeSpec := { name := "tablesTells", fn := fun _ => fun
  | [d1, d2] => { results := [.lit (.bool false)], args := [d1, d2] }
  | _ => none }
def TablesTellsWrongFalsely : Prop := tablesTellsRow.holds Try.pinned (OpenSpec.ofChange tablesTellsWrong)

/- THE SECOND FORM. 'bulk': how many values and letters a reading holds, each counted each time it is reached (what is shared counts as often as it is met; a slice's spare places count too). A statement '..UptoSaid' is the law's where the arguments, and the package variables that the reading takes, are together of bulk at most 1048576: NARROWER than '..Said'. Prove '..Said' where nothing that the law and all that it calls make is longer than what came in: it says more and counts as full. Else prove '..UptoSaid'. A law counts once. -/
mutual
def uptoBulk {H : Type} : DataW H → Nat
  | .lit (.string bytes) => bytes.length + 1
  | .lit _ => 1
  | .nil => 1
  | .ptr d => uptoBulk d + 1
  | .slice elems spare => uptoBulkAll elems + uptoBulkAll spare + 1
  | .agg parts => uptoBulkAll parts + 1
  | .iface _ d => uptoBulk d + 1
  | .map entries => uptoBulkEntries entries + 1
  | .held _ => 1
def uptoBulkAll {H : Type} : List (DataW H) → Nat
  | [] => 0
  | d :: r => uptoBulk d + uptoBulkAll r
def uptoBulkEntries {H : Type} : List (Lit × DataW H) → Nat
  | [] => 0
  | x :: r => uptoBulkEntry x + uptoBulkEntries r
def uptoBulkEntry {H : Type} : Lit × DataW H → Nat
  | (.string bytes, d) => bytes.length + uptoBulk d + 1
  | (_, d) => uptoBulk d + 1
 end
def uptoSmall : (H : Type) → List (DataW H) → Bool := fun _ ds => decide (uptoBulkAll ds ≤ 1048576)
def OpenSpec.upto (s : _root_.Go.ChangeSpec) : _root_.Go.OpenSpec := { _root_.Go.OpenSpec.ofChange s with cond := some uptoSmall }

/-- 'rehearsallaw12.TablesMap', WHERE WHAT IT READS IS OF BULK AT MOST 1048576: true; the input reads as it did. -/
def tablesMapUptoRow : OpenClaim := { program := "ytnnoekcnhdcodaa", sum := "379d5307ee42f0ff83995b7a6fa51d58f443a5342b0529f84050d908d504aed8", func := "rehearsal/rehearsallaw12.TablesMap", spec := "tablesMap", apart := false, narrowed := true }
def TablesMapUptoSaid : Prop := tablesMapUptoRow.holds Try.pinned (OpenSpec.upto tablesMapSpec)

/-- 'rehearsallaw12.TablesAll', WHERE WHAT IT READS IS OF BULK AT MOST 1048576: true; the input reads as it did. -/
def tablesAllUptoRow : OpenClaim := { program := "ytnnoekcnhdcodaa", sum := "379d5307ee42f0ff83995b7a6fa51d58f443a5342b0529f84050d908d504aed8", func := "rehearsal/rehearsallaw12.TablesAll", spec := "tablesAll", apart := false, narrowed := true }
def TablesAllUptoSaid : Prop := tablesAllUptoRow.holds Try.pinned (OpenSpec.upto tablesAllSpec)

/-- 'rehearsallaw12.TablesLevels', WHERE WHAT IT READS IS OF BULK AT MOST 1048576: true; the input reads as it did. -/
def tablesLevelsUptoRow : OpenClaim := { program := "ytnnoekcnhdcodaa", sum := "379d5307ee42f0ff83995b7a6fa51d58f443a5342b0529f84050d908d504aed8", func := "rehearsal/rehearsallaw12.TablesLevels", spec := "tablesLevels", apart := false, narrowed := true }
def TablesLevelsUptoSaid : Prop := tablesLevelsUptoRow.holds Try.pinned (OpenSpec.upto tablesLevelsSpec)

/-- 'rehearsallaw12.TablesTells', WHERE WHAT IT READS IS OF BULK AT MOST 1048576: true; the input reads as it did. -/
def tablesTellsUptoRow : OpenClaim := { program := "ytnnoekcnhdcodaa", sum := "379d5307ee42f0ff83995b7a6fa51d58f443a5342b0529f84050d908d504aed8", func := "rehearsal/rehearsallaw12.TablesTells", spec := "tablesTells", apart := false, narrowed := true }
def TablesTellsUptoSaid : Prop := tablesTellsUptoRow.holds Try.pinned (OpenSpec.upto tablesTellsSpec)

end Rows
end Go.Proofs.Ytnnoekcnhdcodaa
