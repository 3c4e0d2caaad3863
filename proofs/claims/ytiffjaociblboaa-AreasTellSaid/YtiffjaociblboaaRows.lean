/-
  No cell of these rows narrows 'for every input' (looked for: loops, veiled, ifaces, maps, wideKeys, modest, calm, conditions, laid).
  DERIVED. THE GIVEN ROWS OF THIS SEAT. 3 by the template 'for every input the law returns true; each argument reads behind the call as it read before'; 0 by the template 'total and deterministic' (their statements: YtiffjaociblboaaTotals.lean).
  GIVEN WITH THE SEED: the statements are not yours to turn. If you find one false, say at which input.
  Laid BY PROGRAM, IN A SANDBOX (cutbox-rows.mjs): the forced cells as the released guide's own fill.sh prints them over the translation 14319198308ed44e… (all of the seat's roots in one cut). By AI agents, Wed Nov 11 2026. No macro, syntax, notation, axiom, sorry.
-/
import Derived.Test.YtiffjaociblboaaChecked
import GoSem.Claim
import GoSem.ClaimJoined
import GoSem.ClaimMapViews
import Derived.JoinedTies
import Derived.KernelRfl
namespace Go.Proofs.Ytiffjaociblboaa
/- THE CELL 'sum', in the pinned program and in every row, IS THE sha256 OF THE DUMP (.gsa) THAT YtiffjaociblboaaProg.lean LOADS. Nothing in Lean hashes anything: it is a label: what it is worth is what the hold of that sum in a sandbox is worth. -/
noncomputable def Try.pinned : Pinned := { name := "ytiffjaociblboaa", sum := "14319198308ed44eacab245aa0c382f4fd016bb65002723d18a49494083c7c04", checked := Try.checked }
namespace Rows
def none {H : Type} : Left H := { results := [], args := [] }

/-- 'rehearsallaw22.AreasKeep': WHATEVER THE INPUT: true; the input reads as it did. -/
def areasKeepSpec : ChangeSpec := { name := "areasKeep", fn := fun _ => fun
  | [d1, d2, d3, d4] => { results := [.lit (.bool true)], args := [d1, d2, d3, d4] }
  | _ => none }
def areasKeepRow : OpenClaim := { program := "ytiffjaociblboaa", sum := "14319198308ed44eacab245aa0c382f4fd016bb65002723d18a49494083c7c04", func := "rehearsal/rehearsallaw22.AreasKeep", spec := "areasKeep", inPlace := ["slices.overlaps[rehearsal/api.Area]"], unfollowed := true, recurses := true, apart := false }
def AreasKeepSaid : Prop := areasKeepRow.holds Try.pinned (OpenSpec.ofChange areasKeepSpec)

/-- ITS FALSE NEIGHBOUR: 'it returns false'. Refute it at one input. -/
def areasKeepWrong : ChangeSpec := { name := "areasKeep", fn := fun _ => fun
  | [d1, d2, d3, d4] => { results := [.lit (.bool false)], args := [d1, d2, d3, d4] }
  | _ => none }
def AreasKeepWrongFalsely : Prop := areasKeepRow.holds Try.pinned (OpenSpec.ofChange areasKeepWrong)

/-- 'rehearsallaw22.AreasFree': WHATEVER THE INPUT: true; the input reads as it did. -/
def areasFreeSpec : ChangeSpec := { name := "areasFree", fn := fun _ => fun
  | [d1, d2] => { results := [.lit (.bool true)], args := [d1, d2] }
  | _ => none }
def areasFreeRow : OpenClaim := { program := "ytiffjaociblboaa", sum := "14319198308ed44eacab245aa0c382f4fd016bb65002723d18a49494083c7c04", func := "rehearsal/rehearsallaw22.AreasFree", spec := "areasFree", inPlace := ["slices.overlaps[rehearsal/api.Area]"], unfollowed := true, recurses := true, apart := false }
def AreasFreeSaid : Prop := areasFreeRow.holds Try.pinned (OpenSpec.ofChange areasFreeSpec)

/-- ITS FALSE NEIGHBOUR: 'it returns false'. Refute it at one input. -/
def areasFreeWrong : ChangeSpec := { name := "areasFree", fn := fun _ => fun
  | [d1, d2] => { results := [.lit (.bool false)], args := [d1, d2] }
  | _ => none }
def AreasFreeWrongFalsely : Prop := areasFreeRow.holds Try.pinned (OpenSpec.ofChange areasFreeWrong)

/-- 'rehearsallaw22.AreasTell': WHATEVER THE INPUT: true; the input reads as it did. -/
def areasTellSpec : ChangeSpec := { name := "areasTell", fn := fun _ => fun
  | [d1, d2, d3, d4, d5, d6] => { results := [.lit (.bool true)], args := [d1, d2, d3, d4, d5, d6] }
  | _ => none }
def areasTellRow : OpenClaim := { program := "ytiffjaociblboaa", sum := "14319198308ed44eacab245aa0c382f4fd016bb65002723d18a49494083c7c04", func := "rehearsal/rehearsallaw22.AreasTell", spec := "areasTell", inPlace := ["slices.overlaps[rehearsal/api.Area]"], unfollowed := true, recurses := true, apart := false }
def AreasTellSaid : Prop := areasTellRow.holds Try.pinned (OpenSpec.ofChange areasTellSpec)

/-- ITS FALSE NEIGHBOUR: 'it returns false'. Refute it at one input. -/
def areasTellWrong : ChangeSpec := { name := "areasTell", fn := fun _ => fun
  | [d1, d2, d3, d4, d5, d6] => { results := [.lit (.bool false)], args := [d1, d2, d3, d4, d5, d6] }
  | _ => none }
def AreasTellWrongFalsely : Prop := areasTellRow.holds Try.pinned (OpenSpec.ofChange areasTellWrong)

/- THE SECOND FORM. 'bulk': how many values and letters a reading holds, each counted each time it is reached (what is shared counts as often as it is met; a slice's spare places count too). A statement '..UptoSaid' is the law's where the arguments, and the package variables that the reading takes, are together of bulk at most 1048576: NARROWER than '..Said'. Prove '..Said' where nothing that the law and all that it calls make is longer than what came in: it says more and counts as full. Else prove '..UptoSaid'. A law counts once. -/
mutual
def uptoBulk {H : Type} : DataW H → Nat
  | .lit (.string bytes) => bytes.length + 1
  | .lit _ => 1
  | .nil => 1
  | .ptr d => uptoBulk d + 1
  | .slice elems spare => uptoBulkAll elems + uptoBulkAll spare + 1
  | .agg parts => uptoBulkAll parts + 1
  | .iface _ d => uptoBulk d + 1
  | .map entries => uptoBulkEntries entries + 1
  | .held _ => 1
def uptoBulkAll {H : Type} : List (DataW H) → Nat
  | [] => 0
  | d :: r => uptoBulk d + uptoBulkAll r
def uptoBulkEntries {H : Type} : List (Lit × DataW H) → Nat
  | [] => 0
  | x :: r => uptoBulkEntry x + uptoBulkEntries r
def uptoBulkEntry {H : Type} : Lit × DataW H → Nat
  | (.string bytes, d) => bytes.length + uptoBulk d + 1
  | (_, d) => uptoBulk d + 1
 end
def uptoSmall : (H : Type) → List (DataW H) → Bool := fun _ ds => decide (uptoBulkAll ds ≤ 1048576)
def OpenSpec.upto (s : _root_.Go.ChangeSpec) : _root_.Go.OpenSpec := { _root_.Go.OpenSpec.ofChange s with cond := some uptoSmall }

/-- 'rehearsallaw22.AreasKeep', WHERE WHAT IT READS IS OF BULK AT MOST 1048576: true; the input reads as it did. -/
def areasKeepUptoRow : OpenClaim := { program := "ytiffjaociblboaa", sum := "14319198308ed44eacab245aa0c382f4fd016bb65002723d18a49494083c7c04", func := "rehearsal/rehearsallaw22.AreasKeep", spec := "areasKeep", inPlace := ["slices.overlaps[rehearsal/api.Area]"], unfollowed := true, recurses := true, apart := false, narrowed := true }
def AreasKeepUptoSaid : Prop := areasKeepUptoRow.holds Try.pinned (OpenSpec.upto areasKeepSpec)

/-- 'rehearsallaw22.AreasFree', WHERE WHAT IT READS IS OF BULK AT MOST 1048576: true; the input reads as it did. -/
def areasFreeUptoRow : OpenClaim := { program := "ytiffjaociblboaa", sum := "14319198308ed44eacab245aa0c382f4fd016bb65002723d18a49494083c7c04", func := "rehearsal/rehearsallaw22.AreasFree", spec := "areasFree", inPlace := ["slices.overlaps[rehearsal/api.Area]"], unfollowed := true, recurses := true, apart := false, narrowed := true }
def AreasFreeUptoSaid : Prop := areasFreeUptoRow.holds Try.pinned (OpenSpec.upto areasFreeSpec)

/-- 'rehearsallaw22.AreasTell', WHERE WHAT IT READS IS OF BULK AT MOST 1048576: true; the input reads as it did. -/
def areasTellUptoRow : OpenClaim := { program := "ytiffjaociblboaa", sum := "14319198308ed44eacab245aa0c382f4fd016bb65002723d18a49494083c7c04", func := "rehearsal/rehearsallaw22.AreasTell", spec := "areasTell", inPlace := ["slices.overlaps[rehearsal/api.Area]"], unfollowed := true, recurses := true, apart := false, narrowed := true }
def AreasTellUptoSaid : Prop := areasTellUptoRow.holds Try.pinned (OpenSpec.upto areasTellSpec)

end Rows
end Go.Proofs.Ytiffjaociblboaa
