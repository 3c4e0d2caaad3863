/-
  No cell of these rows narrows 'for every input' (looked for: loops, veiled, ifaces, maps, wideKeys, modest, calm, conditions, laid).
  DERIVED. THE GIVEN ROWS OF THIS SEAT. 3 by the template 'for every input the law returns true; each argument reads behind the call as it read before'; 0 by the template 'total and deterministic' (their statements: YteognipfnbocpaaTotals.lean).
  GIVEN WITH THE SEED: the statements are not yours to turn. If you find one false, say at which input.
  Laid BY PROGRAM, IN A SANDBOX (cutbox-rows.mjs): the forced cells as the released guide's own fill.sh prints them over the translation 9a6be5a3bad1348f… (all of the seat's roots in one cut). By AI agents, Wed Nov 11 2026. No macro, syntax, notation, axiom, sorry.
-/
import Derived.Test.YteognipfnbocpaaChecked
import GoSem.Claim
import GoSem.ClaimJoined
import GoSem.ClaimMapViews
import Derived.JoinedTies
import Derived.KernelRfl
namespace Go.Proofs.Yteognipfnbocpaa
/- THE CELL 'sum', in the pinned program and in every row, IS THE sha256 OF THE DUMP (.gsa) THAT YteognipfnbocpaaProg.lean LOADS. Nothing in Lean hashes anything: it is a label: what it is worth is what the hold of that sum in a sandbox is worth. -/
noncomputable def Try.pinned : Pinned := { name := "yteognipfnbocpaa", sum := "9a6be5a3bad1348fc044aafda55a8b56b7b42ac9c15d70c77ee9e6679dac6bfa", checked := Try.checked }
namespace Rows
def none {H : Type} : Left H := { results := [], args := [] }

/-- 'rehearsallaw14.MmuBits': WHATEVER THE INPUT: true; the input reads as it did. -/
def mmuBitsSpec : ChangeSpec := { name := "mmuBits", fn := fun _ => fun
  | [d1, d2] => { results := [.lit (.bool true)], args := [d1, d2] }
  | _ => none }
def mmuBitsRow : OpenClaim := { program := "yteognipfnbocpaa", sum := "9a6be5a3bad1348fc044aafda55a8b56b7b42ac9c15d70c77ee9e6679dac6bfa", func := "rehearsal/rehearsallaw14.MmuBits", spec := "mmuBits", inPlace := ["slices.overlaps[rehearsal/api.Entry]"], unfollowed := true, recurses := true, apart := false }
def MmuBitsSaid : Prop := mmuBitsRow.holds Try.pinned (OpenSpec.ofChange mmuBitsSpec)

/-- ITS FALSE NEIGHBOUR: 'it returns false'. Refute it at one input. -/
def mmuBitsWrong : ChangeSpec := { name := "mmuBits", fn := fun _ => fun
  | [d1, d2] => { results := [.lit (.bool false)], args := [d1, d2] }
  | _ => none }
def MmuBitsWrongFalsely : Prop := mmuBitsRow.holds Try.pinned (OpenSpec.ofChange mmuBitsWrong)

/-- 'rehearsallaw14.MmuCoheres': WHATEVER THE INPUT: true; the input reads as it did. -/
def mmuCoheresSpec : ChangeSpec := { name := "mmuCoheres", fn := fun _ => fun
  | [d1, d2] => { results := [.lit (.bool true)], args := [d1, d2] }
  | _ => none }
def mmuCoheresRow : OpenClaim := { program := "yteognipfnbocpaa", sum := "9a6be5a3bad1348fc044aafda55a8b56b7b42ac9c15d70c77ee9e6679dac6bfa", func := "rehearsal/rehearsallaw14.MmuCoheres", spec := "mmuCoheres", inPlace := ["slices.overlaps[rehearsal/api.Entry]"], unfollowed := true, recurses := true, apart := false }
def MmuCoheresSaid : Prop := mmuCoheresRow.holds Try.pinned (OpenSpec.ofChange mmuCoheresSpec)

/-- ITS FALSE NEIGHBOUR: 'it returns false'. Refute it at one input. -/
def mmuCoheresWrong : ChangeSpec := { name := "mmuCoheres", fn := fun _ => fun
  | [d1, d2] => { results := [.lit (.bool false)], args := [d1, d2] }
  | _ => none }
def MmuCoheresWrongFalsely : Prop := mmuCoheresRow.holds Try.pinned (OpenSpec.ofChange mmuCoheresWrong)

/-- 'rehearsallaw14.MmuLoses': WHATEVER THE INPUT: true; the input reads as it did. -/
def mmuLosesSpec : ChangeSpec := { name := "mmuLoses", fn := fun _ => fun
  | [d1, d2, d3, d4] => { results := [.lit (.bool true)], args := [d1, d2, d3, d4] }
  | _ => none }
def mmuLosesRow : OpenClaim := { program := "yteognipfnbocpaa", sum := "9a6be5a3bad1348fc044aafda55a8b56b7b42ac9c15d70c77ee9e6679dac6bfa", func := "rehearsal/rehearsallaw14.MmuLoses", spec := "mmuLoses", inPlace := ["slices.overlaps[rehearsal/api.Entry]"], unfollowed := true, recurses := true, apart := false }
def MmuLosesSaid : Prop := mmuLosesRow.holds Try.pinned (OpenSpec.ofChange mmuLosesSpec)

/-- ITS FALSE NEIGHBOUR: 'it returns false'. Refute it at one input. -/
def mmuLosesWrong : ChangeSpec := { name := "mmuLoses", fn := fun _ => fun
  | [d1, d2, d3, d4] => { results := [.lit (.bool false)], args := [d1, d2, d3, d4] }
  | _ => none }
def MmuLosesWrongFalsely : Prop := mmuLosesRow.holds Try.pinned (OpenSpec.ofChange mmuLosesWrong)

/- THE SECOND FORM. 'bulk': how many values and letters a reading holds, each counted each time it is reached (what is shared counts as often as it is met; a slice's spare places count too). A statement '..UptoSaid' is the law's where the arguments, and the package variables that the reading takes, are together of bulk at most 1048576: NARROWER than '..Said'. Prove '..Said' where nothing that the law and all that it calls make is longer than what came in: it says more and counts as full. Else prove '..UptoSaid'. A law counts once. -/
mutual
def uptoBulk {H : Type} : DataW H → Nat
  | .lit (.string bytes) => bytes.length + 1
  | .lit _ => 1
  | .nil => 1
  | .ptr d => uptoBulk d + 1
  | .slice elems spare => uptoBulkAll elems + uptoBulkAll spare + 1
  | .agg parts => uptoBulkAll parts + 1
  | .iface _ d => uptoBulk d + 1
  | .map entries => uptoBulkEntries entries + 1
  | .held _ => 1
def uptoBulkAll {H : Type} : List (DataW H) → Nat
  | [] => 0
  | d :: r => uptoBulk d + uptoBulkAll r
def uptoBulkEntries {H : Type} : List (Lit × DataW H) → Nat
  | [] => 0
  | x :: r => uptoBulkEntry x + uptoBulkEntries r
def uptoBulkEntry {H : Type} : Lit × DataW H → Nat
  | (.string bytes, d) => bytes.length + uptoBulk d + 1
  | (_, d) => uptoBulk d + 1
 end
def uptoSmall : (H : Type) → List (DataW H) → Bool := fun _ ds => decide (uptoBulkAll ds ≤ 1048576)
def OpenSpec.upto (s : _root_.Go.ChangeSpec) : _root_.Go.OpenSpec := { _root_.Go.OpenSpec.ofChange s with cond := some uptoSmall }

/-- 'rehearsallaw14.MmuBits', WHERE WHAT IT READS IS OF BULK AT MOST 1048576: true; the input reads as it did. -/
def mmuBitsUptoRow : OpenClaim := { program := "yteognipfnbocpaa", sum := "9a6be5a3bad1348fc044aafda55a8b56b7b42ac9c15d70c77ee9e6679dac6bfa", func := "rehearsal/rehearsallaw14.MmuBits", spec := "mmuBits", inPlace := ["slices.overlaps[rehearsal/api.Entry]"], unfollowed := true, recurses := true, apart := false, narrowed := true }
def MmuBitsUptoSaid : Prop := mmuBitsUptoRow.holds Try.pinned (OpenSpec.upto mmuBitsSpec)

/-- 'rehearsallaw14.MmuCoheres', WHERE WHAT IT READS IS OF BULK AT MOST 1048576: true; the input reads as it did. -/
def mmuCoheresUptoRow : OpenClaim := { program := "yteognipfnbocpaa", sum := "9a6be5a3bad1348fc044aafda55a8b56b7b42ac9c15d70c77ee9e6679dac6bfa", func := "rehearsal/rehearsallaw14.MmuCoheres", spec := "mmuCoheres", inPlace := ["slices.overlaps[rehearsal/api.Entry]"], unfollowed := true, recurses := true, apart := false, narrowed := true }
def MmuCoheresUptoSaid : Prop := mmuCoheresUptoRow.holds Try.pinned (OpenSpec.upto mmuCoheresSpec)

/-- 'rehearsallaw14.MmuLoses', WHERE WHAT IT READS IS OF BULK AT MOST 1048576: true; the input reads as it did. -/
def mmuLosesUptoRow : OpenClaim := { program := "yteognipfnbocpaa", sum := "9a6be5a3bad1348fc044aafda55a8b56b7b42ac9c15d70c77ee9e6679dac6bfa", func := "rehearsal/rehearsallaw14.MmuLoses", spec := "mmuLoses", inPlace := ["slices.overlaps[rehearsal/api.Entry]"], unfollowed := true, recurses := true, apart := false, narrowed := true }
def MmuLosesUptoSaid : Prop := mmuLosesUptoRow.holds Try.pinned (OpenSpec.upto mmuLosesSpec)

end Rows
end Go.Proofs.Yteognipfnbocpaa
