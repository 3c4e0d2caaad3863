/-
  No cell of these rows narrows 'for every input' (looked for: loops, veiled, ifaces, maps, wideKeys, modest, calm, conditions, laid).
  DERIVED. THE GIVEN ROWS OF THIS SEAT. 4 by the template 'for every input the law returns true; each argument reads behind the call as it read before'; 0 by the template 'total and deterministic' (their statements: YtkfcoemdpcjhfaaTotals.lean).
  GIVEN WITH THE SEED: the statements are not yours to turn. If you find one false, say at which input.
  Laid BY PROGRAM, IN A SANDBOX (cutbox-rows.mjs): the forced cells as the released guide's own fill.sh prints them over the translation 73b62d9b8fc32a6c… (all of the seat's roots in one cut). By AI agents, Wed Nov 11 2026. No macro, syntax, notation, axiom, sorry.
-/
import Derived.Test.YtkfcoemdpcjhfaaChecked
import GoSem.Claim
import GoSem.ClaimJoined
import GoSem.ClaimMapViews
import Derived.JoinedTies
import Derived.KernelRfl
namespace Go.Proofs.Ytkfcoemdpcjhfaa
/- THE CELL 'sum', in the pinned program and in every row, IS THE sha256 OF THE DUMP (.gsa) THAT YtkfcoemdpcjhfaaProg.lean LOADS. Nothing in Lean hashes anything: it is a label: what it is worth is what the hold of that sum in a sandbox is worth. -/
noncomputable def Try.pinned : Pinned := { name := "ytkfcoemdpcjhfaa", sum := "73b62d9b8fc32a6ccd3d09e240950c461463587951482baa329c022e12085dee", checked := Try.checked }
namespace Rows
def none {H : Type} : Left H := { results := [], args := [] }

/-- 'rehearsallaw13.TlbTrue': WHATEVER THE INPUT: true; the input reads as it did. -/
def tlbTrueSpec : ChangeSpec := { name := "tlbTrue", fn := fun _ => fun
  | [d1, d2] => { results := [.lit (.bool true)], args := [d1, d2] }
  | _ => none }
def tlbTrueRow : OpenClaim := { program := "ytkfcoemdpcjhfaa", sum := "73b62d9b8fc32a6ccd3d09e240950c461463587951482baa329c022e12085dee", func := "rehearsal/rehearsallaw13.TlbTrue", spec := "tlbTrue", inPlace := ["slices.overlaps[rehearsal/api.Entry]"], unfollowed := true, recurses := true, apart := false }
def TlbTrueSaid : Prop := tlbTrueRow.holds Try.pinned (OpenSpec.ofChange tlbTrueSpec)

/-- ITS FALSE NEIGHBOUR: 'it returns false'. Refute it at one input. -/
def tlbTrueWrong : ChangeSpec := { name := "tlbTrue", fn := fun _ => fun
  | [d1, d2] => { results := [.lit (.bool false)], args := [d1, d2] }
  | _ => none }
def TlbTrueWrongFalsely : Prop := tlbTrueRow.holds Try.pinned (OpenSpec.ofChange tlbTrueWrong)

/-- 'rehearsallaw13.TlbKeeps': WHATEVER THE INPUT: true; the input reads as it did. -/
def tlbKeepsSpec : ChangeSpec := { name := "tlbKeeps", fn := fun _ => fun
  | [d1, d2, d3, d4, d5] => { results := [.lit (.bool true)], args := [d1, d2, d3, d4, d5] }
  | _ => none }
def tlbKeepsRow : OpenClaim := { program := "ytkfcoemdpcjhfaa", sum := "73b62d9b8fc32a6ccd3d09e240950c461463587951482baa329c022e12085dee", func := "rehearsal/rehearsallaw13.TlbKeeps", spec := "tlbKeeps", inPlace := ["slices.overlaps[rehearsal/api.Entry]"], unfollowed := true, recurses := true, apart := false }
def TlbKeepsSaid : Prop := tlbKeepsRow.holds Try.pinned (OpenSpec.ofChange tlbKeepsSpec)

/-- ITS FALSE NEIGHBOUR: 'it returns false'. Refute it at one input. -/
def tlbKeepsWrong : ChangeSpec := { name := "tlbKeeps", fn := fun _ => fun
  | [d1, d2, d3, d4, d5] => { results := [.lit (.bool false)], args := [d1, d2, d3, d4, d5] }
  | _ => none }
def TlbKeepsWrongFalsely : Prop := tlbKeepsRow.holds Try.pinned (OpenSpec.ofChange tlbKeepsWrong)

/-- 'rehearsallaw13.TlbBounds': WHATEVER THE INPUT: true; the input reads as it did. -/
def tlbBoundsSpec : ChangeSpec := { name := "tlbBounds", fn := fun _ => fun
  | [d1, d2] => { results := [.lit (.bool true)], args := [d1, d2] }
  | _ => none }
def tlbBoundsRow : OpenClaim := { program := "ytkfcoemdpcjhfaa", sum := "73b62d9b8fc32a6ccd3d09e240950c461463587951482baa329c022e12085dee", func := "rehearsal/rehearsallaw13.TlbBounds", spec := "tlbBounds", inPlace := ["slices.overlaps[rehearsal/api.Entry]"], unfollowed := true, recurses := true, apart := false }
def TlbBoundsSaid : Prop := tlbBoundsRow.holds Try.pinned (OpenSpec.ofChange tlbBoundsSpec)

/-- ITS FALSE NEIGHBOUR: 'it returns false'. Refute it at one input. -/
def tlbBoundsWrong : ChangeSpec := { name := "tlbBounds", fn := fun _ => fun
  | [d1, d2] => { results := [.lit (.bool false)], args := [d1, d2] }
  | _ => none }
def TlbBoundsWrongFalsely : Prop := tlbBoundsRow.holds Try.pinned (OpenSpec.ofChange tlbBoundsWrong)

/-- 'rehearsallaw13.TlbTells': WHATEVER THE INPUT: true; the input reads as it did. -/
def tlbTellsSpec : ChangeSpec := { name := "tlbTells", fn := fun _ => fun
  | [d1, d2, d3] => { results := [.lit (.bool true)], args := [d1, d2, d3] }
  | _ => none }
def tlbTellsRow : OpenClaim := { program := "ytkfcoemdpcjhfaa", sum := "73b62d9b8fc32a6ccd3d09e240950c461463587951482baa329c022e12085dee", func := "rehearsal/rehearsallaw13.TlbTells", spec := "tlbTells", inPlace := ["slices.overlaps[rehearsal/api.Entry]"], unfollowed := true, recurses := true, apart := false }
def TlbTellsSaid : Prop := tlbTellsRow.holds Try.pinned (OpenSpec.ofChange tlbTellsSpec)

/-- ITS FALSE NEIGHBOUR: 'it returns false'. Refute it at one input. -/
def tlbTellsWrong : ChangeSpec := { name := "tlbTells", fn := fun _ => fun
  | [d1, d2, d3] => { results := [.lit (.bool false)], args := [d1, d2, d3] }
  | _ => none }
def TlbTellsWrongFalsely : Prop := tlbTellsRow.holds Try.pinned (OpenSpec.ofChange tlbTellsWrong)

/- THE SECOND FORM. 'bulk': how many values and letters a reading holds, each counted each time it is reached (what is shared counts as often as it is met; a slice's spare places count too). A statement '..UptoSaid' is the law's where the arguments, and the package variables that the reading takes, are together of bulk at most 1048576: NARROWER than '..Said'. Prove '..Said' where nothing that the law and all that it calls make is longer than what came in: it says more and counts as full. Else prove '..UptoSaid'. A law counts once. -/
mutual
def uptoBulk {H : Type} : DataW H → Nat
  | .lit (.string bytes) => bytes.length + 1
  | .lit _ => 1
  | .nil => 1
  | .ptr d => uptoBulk d + 1
  | .slice elems spare => uptoBulkAll elems + uptoBulkAll spare + 1
  | .agg parts => uptoBulkAll parts + 1
  | .iface _ d => uptoBulk d + 1
  | .map entries => uptoBulkEntries entries + 1
  | .held _ => 1
def uptoBulkAll {H : Type} : List (DataW H) → Nat
  | [] => 0
  | d :: r => uptoBulk d + uptoBulkAll r
def uptoBulkEntries {H : Type} : List (Lit × DataW H) → Nat
  | [] => 0
  | x :: r => uptoBulkEntry x + uptoBulkEntries r
def uptoBulkEntry {H : Type} : Lit × DataW H → Nat
  | (.string bytes, d) => bytes.length + uptoBulk d + 1
  | (_, d) => uptoBulk d + 1
 end
def uptoSmall : (H : Type) → List (DataW H) → Bool := fun _ ds => decide (uptoBulkAll ds ≤ 1048576)
def OpenSpec.upto (s : _root_.Go.ChangeSpec) : _root_.Go.OpenSpec := { _root_.Go.OpenSpec.ofChange s with cond := some uptoSmall }

/-- 'rehearsallaw13.TlbTrue', WHERE WHAT IT READS IS OF BULK AT MOST 1048576: true; the input reads as it did. -/
def tlbTrueUptoRow : OpenClaim := { program := "ytkfcoemdpcjhfaa", sum := "73b62d9b8fc32a6ccd3d09e240950c461463587951482baa329c022e12085dee", func := "rehearsal/rehearsallaw13.TlbTrue", spec := "tlbTrue", inPlace := ["slices.overlaps[rehearsal/api.Entry]"], unfollowed := true, recurses := true, apart := false, narrowed := true }
def TlbTrueUptoSaid : Prop := tlbTrueUptoRow.holds Try.pinned (OpenSpec.upto tlbTrueSpec)

/-- 'rehearsallaw13.TlbKeeps', WHERE WHAT IT READS IS OF BULK AT MOST 1048576: true; the input reads as it did. -/
def tlbKeepsUptoRow : OpenClaim := { program := "ytkfcoemdpcjhfaa", sum := "73b62d9b8fc32a6ccd3d09e240950c461463587951482baa329c022e12085dee", func := "rehearsal/rehearsallaw13.TlbKeeps", spec := "tlbKeeps", inPlace := ["slices.overlaps[rehearsal/api.Entry]"], unfollowed := true, recurses := true, apart := false, narrowed := true }
def TlbKeepsUptoSaid : Prop := tlbKeepsUptoRow.holds Try.pinned (OpenSpec.upto tlbKeepsSpec)

/-- 'rehearsallaw13.TlbBounds', WHERE WHAT IT READS IS OF BULK AT MOST 1048576: true; the input reads as it did. -/
def tlbBoundsUptoRow : OpenClaim := { program := "ytkfcoemdpcjhfaa", sum := "73b62d9b8fc32a6ccd3d09e240950c461463587951482baa329c022e12085dee", func := "rehearsal/rehearsallaw13.TlbBounds", spec := "tlbBounds", inPlace := ["slices.overlaps[rehearsal/api.Entry]"], unfollowed := true, recurses := true, apart := false, narrowed := true }
def TlbBoundsUptoSaid : Prop := tlbBoundsUptoRow.holds Try.pinned (OpenSpec.upto tlbBoundsSpec)

/-- 'rehearsallaw13.TlbTells', WHERE WHAT IT READS IS OF BULK AT MOST 1048576: true; the input reads as it did. -/
def tlbTellsUptoRow : OpenClaim := { program := "ytkfcoemdpcjhfaa", sum := "73b62d9b8fc32a6ccd3d09e240950c461463587951482baa329c022e12085dee", func := "rehearsal/rehearsallaw13.TlbTells", spec := "tlbTells", inPlace := ["slices.overlaps[rehearsal/api.Entry]"], unfollowed := true, recurses := true, apart := false, narrowed := true }
def TlbTellsUptoSaid : Prop := tlbTellsUptoRow.holds Try.pinned (OpenSpec.upto tlbTellsSpec)

end Rows
end Go.Proofs.Ytkfcoemdpcjhfaa
