/-
  No cell of these rows narrows 'for every input' (looked for: loops, veiled, ifaces, maps, wideKeys, modest, calm, conditions, laid).
  DERIVED. THE GIVEN ROWS OF THIS SEAT. 4 by the template 'for every input the law returns true; each argument reads behind the call as it read before'; 0 by the template 'total and deterministic' (their statements: YtcoecpglnabbpaaTotals.lean).
  GIVEN WITH THE SEED: the statements are not yours to turn. If you find one false, say at which input.
  Laid BY PROGRAM, IN A SANDBOX (cutbox-rows.mjs): the forced cells as the released guide's own fill.sh prints them over the translation 4f6d2259ac855ea8… (all of the seat's roots in one cut). By AI agents, Wed Nov 11 2026. No macro, syntax, notation, axiom, sorry.
-/
import Derived.Test.YtcoecpglnabbpaaChecked
import GoSem.Claim
import GoSem.ClaimJoined
import GoSem.ClaimMapViews
import Derived.JoinedTies
import Derived.KernelRfl
namespace Go.Proofs.Ytcoecpglnabbpaa
/- THE CELL 'sum', in the pinned program and in every row, IS THE sha256 OF THE DUMP (.gsa) THAT YtcoecpglnabbpaaProg.lean LOADS. Nothing in Lean hashes anything: it is a label: what it is worth is what the hold of that sum in a sandbox is worth. -/
noncomputable def Try.pinned : Pinned := { name := "ytcoecpglnabbpaa", sum := "4f6d2259ac855ea8e1f1306278863781081b278206766797fbb69149d21b217e", checked := Try.checked }
namespace Rows
def none {H : Type} : Left H := { results := [], args := [] }

/-- 'rehearsallaw08.CompressTells': WHATEVER THE INPUT: true; the input reads as it did. -/
def compressTellsSpec : ChangeSpec := { name := "compressTells", fn := fun _ => fun
  | [d1, d2] => { results := [.lit (.bool true)], args := [d1, d2] }
  | _ => none }
def compressTellsRow : OpenClaim := { program := "ytcoecpglnabbpaa", sum := "4f6d2259ac855ea8e1f1306278863781081b278206766797fbb69149d21b217e", func := "rehearsal/rehearsallaw08.CompressTells", spec := "compressTells", inPlace := ["internal/abi.NoEscape"], unfollowed := true, recurses := true, apart := false }
def CompressTellsSaid : Prop := compressTellsRow.holds Try.pinned (OpenSpec.ofChange compressTellsSpec)

/-- ITS FALSE NEIGHBOUR: 'it returns false'. Refute it at one input. -/
def compressTellsWrong : ChangeSpec := { name := "compressTells", fn := fun _ => fun
  | [d1, d2] => { results := [.lit (.bool false)], args := [d1, d2] }
  | _ => none }
def CompressTellsWrongFalsely : Prop := compressTellsRow.holds Try.pinned (OpenSpec.ofChange compressTellsWrong)

/-- 'rehearsallaw08.CompressBack': WHATEVER THE INPUT: true; the input reads as it did. -/
def compressBackSpec : ChangeSpec := { name := "compressBack", fn := fun _ => fun
  | [d1, d2, d3] => { results := [.lit (.bool true)], args := [d1, d2, d3] }
  | _ => none }
def compressBackRow : OpenClaim := { program := "ytcoecpglnabbpaa", sum := "4f6d2259ac855ea8e1f1306278863781081b278206766797fbb69149d21b217e", func := "rehearsal/rehearsallaw08.CompressBack", spec := "compressBack", inPlace := ["internal/abi.NoEscape"], unfollowed := true, recurses := true, apart := false }
def CompressBackSaid : Prop := compressBackRow.holds Try.pinned (OpenSpec.ofChange compressBackSpec)

/-- ITS FALSE NEIGHBOUR: 'it returns false'. Refute it at one input. -/
def compressBackWrong : ChangeSpec := { name := "compressBack", fn := fun _ => fun
  | [d1, d2, d3] => { results := [.lit (.bool false)], args := [d1, d2, d3] }
  | _ => none }
def CompressBackWrongFalsely : Prop := compressBackRow.holds Try.pinned (OpenSpec.ofChange compressBackWrong)

/-- 'rehearsallaw08.CompressRuns': WHATEVER THE INPUT: true; the input reads as it did. -/
def compressRunsSpec : ChangeSpec := { name := "compressRuns", fn := fun _ => fun
  | [d1, d2, d3] => { results := [.lit (.bool true)], args := [d1, d2, d3] }
  | _ => none }
def compressRunsRow : OpenClaim := { program := "ytcoecpglnabbpaa", sum := "4f6d2259ac855ea8e1f1306278863781081b278206766797fbb69149d21b217e", func := "rehearsal/rehearsallaw08.CompressRuns", spec := "compressRuns", inPlace := ["internal/abi.NoEscape"], unfollowed := true, recurses := true, apart := false }
def CompressRunsSaid : Prop := compressRunsRow.holds Try.pinned (OpenSpec.ofChange compressRunsSpec)

/-- ITS FALSE NEIGHBOUR: 'it returns false'. Refute it at one input. -/
def compressRunsWrong : ChangeSpec := { name := "compressRuns", fn := fun _ => fun
  | [d1, d2, d3] => { results := [.lit (.bool false)], args := [d1, d2, d3] }
  | _ => none }
def CompressRunsWrongFalsely : Prop := compressRunsRow.holds Try.pinned (OpenSpec.ofChange compressRunsWrong)

/-- 'rehearsallaw08.CompressLiterals': WHATEVER THE INPUT: true; the input reads as it did. -/
def compressLiteralsSpec : ChangeSpec := { name := "compressLiterals", fn := fun _ => fun
  | [d1, d2] => { results := [.lit (.bool true)], args := [d1, d2] }
  | _ => none }
def compressLiteralsRow : OpenClaim := { program := "ytcoecpglnabbpaa", sum := "4f6d2259ac855ea8e1f1306278863781081b278206766797fbb69149d21b217e", func := "rehearsal/rehearsallaw08.CompressLiterals", spec := "compressLiterals", inPlace := ["internal/abi.NoEscape"], unfollowed := true, recurses := true, apart := false }
def CompressLiteralsSaid : Prop := compressLiteralsRow.holds Try.pinned (OpenSpec.ofChange compressLiteralsSpec)

/-- ITS FALSE NEIGHBOUR: 'it returns false'. Refute it at one input. -/
def compressLiteralsWrong : ChangeSpec := { name := "compressLiterals", fn := fun _ => fun
  | [d1, d2] => { results := [.lit (.bool false)], args := [d1, d2] }
  | _ => none }
def CompressLiteralsWrongFalsely : Prop := compressLiteralsRow.holds Try.pinned (OpenSpec.ofChange compressLiteralsWrong)

/- THE SECOND FORM. 'bulk': how many values and letters a reading holds, each counted each time it is reached (what is shared counts as often as it is met; a slice's spare places count too). A statement '..UptoSaid' is the law's where the arguments, and the package variables that the reading takes, are together of bulk at most 1048576: NARROWER than '..Said'. Prove '..Said' where nothing that the law and all that it calls make is longer than what came in: it says more and counts as full. Else prove '..UptoSaid'. A law counts once. -/
mutual
def uptoBulk {H : Type} : DataW H → Nat
  | .lit (.string bytes) => bytes.length + 1
  | .lit _ => 1
  | .nil => 1
  | .ptr d => uptoBulk d + 1
  | .slice elems spare => uptoBulkAll elems + uptoBulkAll spare + 1
  | .agg parts => uptoBulkAll parts + 1
  | .iface _ d => uptoBulk d + 1
  | .map entries => uptoBulkEntries entries + 1
  | .held _ => 1
def uptoBulkAll {H : Type} : List (DataW H) → Nat
  | [] => 0
  | d :: r => uptoBulk d + uptoBulkAll r
def uptoBulkEntries {H : Type} : List (Lit × DataW H) → Nat
  | [] => 0
  | x :: r => uptoBulkEntry x + uptoBulkEntries r
def uptoBulkEntry {H : Type} : Lit × DataW H → Nat
  | (.string bytes, d) => bytes.length + uptoBulk d + 1
  | (_, d) => uptoBulk d + 1
 end
def uptoSmall : (H : Type) → List (DataW H) → Bool := fun _ ds => decide (uptoBulkAll ds ≤ 1048576)
def OpenSpec.upto (s : _root_.Go.ChangeSpec) : _root_.Go.OpenSpec := { _root_.Go.OpenSpec.ofChange s with cond := some uptoSmall }

/-- 'rehearsallaw08.CompressTells', WHERE WHAT IT READS IS OF BULK AT MOST 1048576: true; the input reads as it did. -/
def compressTellsUptoRow : OpenClaim := { program := "ytcoecpglnabbpaa", sum := "4f6d2259ac855ea8e1f1306278863781081b278206766797fbb69149d21b217e", func := "rehearsal/rehearsallaw08.CompressTells", spec := "compressTells", inPlace := ["internal/abi.NoEscape"], unfollowed := true, recurses := true, apart := false, narrowed := true }
def CompressTellsUptoSaid : Prop := compressTellsUptoRow.holds Try.pinned (OpenSpec.upto compressTellsSpec)

/-- 'rehearsallaw08.CompressBack', WHERE WHAT IT READS IS OF BULK AT MOST 1048576: true; the input reads as it did. -/
def compressBackUptoRow : OpenClaim := { program := "ytcoecpglnabbpaa", sum := "4f6d2259ac855ea8e1f1306278863781081b278206766797fbb69149d21b217e", func := "rehearsal/rehearsallaw08.CompressBack", spec := "compressBack", inPlace := ["internal/abi.NoEscape"], unfollowed := true, recurses := true, apart := false, narrowed := true }
def CompressBackUptoSaid : Prop := compressBackUptoRow.holds Try.pinned (OpenSpec.upto compressBackSpec)

/-- 'rehearsallaw08.CompressRuns', WHERE WHAT IT READS IS OF BULK AT MOST 1048576: true; the input reads as it did. -/
def compressRunsUptoRow : OpenClaim := { program := "ytcoecpglnabbpaa", sum := "4f6d2259ac855ea8e1f1306278863781081b278206766797fbb69149d21b217e", func := "rehearsal/rehearsallaw08.CompressRuns", spec := "compressRuns", inPlace := ["internal/abi.NoEscape"], unfollowed := true, recurses := true, apart := false, narrowed := true }
def CompressRunsUptoSaid : Prop := compressRunsUptoRow.holds Try.pinned (OpenSpec.upto compressRunsSpec)

/-- 'rehearsallaw08.CompressLiterals', WHERE WHAT IT READS IS OF BULK AT MOST 1048576: true; the input reads as it did. -/
def compressLiteralsUptoRow : OpenClaim := { program := "ytcoecpglnabbpaa", sum := "4f6d2259ac855ea8e1f1306278863781081b278206766797fbb69149d21b217e", func := "rehearsal/rehearsallaw08.CompressLiterals", spec := "compressLiterals", inPlace := ["internal/abi.NoEscape"], unfollowed := true, recurses := true, apart := false, narrowed := true }
def CompressLiteralsUptoSaid : Prop := compressLiteralsUptoRow.holds Try.pinned (OpenSpec.upto compressLiteralsSpec)

end Rows
end Go.Proofs.Ytcoecpglnabbpaa
