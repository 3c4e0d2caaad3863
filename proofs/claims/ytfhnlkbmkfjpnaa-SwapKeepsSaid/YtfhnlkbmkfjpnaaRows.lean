/-
  No cell of these rows narrows 'for every input' (looked for: loops, veiled, ifaces, maps, wideKeys, modest, calm, conditions, laid).
  DERIVED. THE GIVEN ROWS OF THIS SEAT. 4 by the template 'for every input the law returns true; each argument reads behind the call as it read before'; 0 by the template 'total and deterministic' (their statements: YtfhnlkbmkfjpnaaTotals.lean).
  GIVEN WITH THE SEED: the statements are not yours to turn. If you find one false, say at which input.
  Laid BY PROGRAM, IN A SANDBOX (cutbox-rows.mjs): the forced cells as the released guide's own fill.sh prints them over the translation 6df9eb16a937f38f… (all of the seat's roots in one cut). By AI agents, Wed Nov 11 2026. No macro, syntax, notation, axiom, sorry.
-/
import Derived.Test.YtfhnlkbmkfjpnaaChecked
import GoSem.Claim
import GoSem.ClaimJoined
import GoSem.ClaimMapViews
import Derived.JoinedTies
import Derived.KernelRfl
namespace Go.Proofs.Ytfhnlkbmkfjpnaa
/- THE CELL 'sum', in the pinned program and in every row, IS THE sha256 OF THE DUMP (.gsa) THAT YtfhnlkbmkfjpnaaProg.lean LOADS. Nothing in Lean hashes anything: it is a label: what it is worth is what the hold of that sum in a sandbox is worth. -/
noncomputable def Try.pinned : Pinned := { name := "ytfhnlkbmkfjpnaa", sum := "6df9eb16a937f38f0d2c1c14c5243f8b6cf46c6f93057ffebda8efcbce3f7b8e", checked := Try.checked }
namespace Rows
def none {H : Type} : Left H := { results := [], args := [] }

/-- 'rehearsallaw09.SwapKeeps': WHATEVER THE INPUT: true; the input reads as it did. -/
def swapKeepsSpec : ChangeSpec := { name := "swapKeeps", fn := fun _ => fun
  | [d1, d2] => { results := [.lit (.bool true)], args := [d1, d2] }
  | _ => none }
def swapKeepsRow : OpenClaim := { program := "ytfhnlkbmkfjpnaa", sum := "6df9eb16a937f38f0d2c1c14c5243f8b6cf46c6f93057ffebda8efcbce3f7b8e", func := "rehearsal/rehearsallaw09.SwapKeeps", spec := "swapKeeps", apart := false }
def SwapKeepsSaid : Prop := swapKeepsRow.holds Try.pinned (OpenSpec.ofChange swapKeepsSpec)

/-- ITS FALSE NEIGHBOUR: 'it returns false'. Refute it at one input. -/
def swapKeepsWrong : ChangeSpec := { name := "swapKeeps", fn := fun _ => fun
  | [d1, d2] => { results := [.lit (.bool false)], args := [d1, d2] }
  | _ => none }
def SwapKeepsWrongFalsely : Prop := swapKeepsRow.holds Try.pinned (OpenSpec.ofChange swapKeepsWrong)

/-- 'rehearsallaw09.SwapSizes': WHATEVER THE INPUT: true; the input reads as it did. -/
def swapSizesSpec : ChangeSpec := { name := "swapSizes", fn := fun _ => fun
  | [d] => { results := [.lit (.bool true)], args := [d] }
  | _ => none }
def swapSizesRow : OpenClaim := { program := "ytfhnlkbmkfjpnaa", sum := "6df9eb16a937f38f0d2c1c14c5243f8b6cf46c6f93057ffebda8efcbce3f7b8e", func := "rehearsal/rehearsallaw09.SwapSizes", spec := "swapSizes", apart := false }
def SwapSizesSaid : Prop := swapSizesRow.holds Try.pinned (OpenSpec.ofChange swapSizesSpec)

/-- ITS FALSE NEIGHBOUR: 'it returns false'. Refute it at one input. -/
def swapSizesWrong : ChangeSpec := { name := "swapSizes", fn := fun _ => fun
  | [d] => { results := [.lit (.bool false)], args := [d] }
  | _ => none }
def SwapSizesWrongFalsely : Prop := swapSizesRow.holds Try.pinned (OpenSpec.ofChange swapSizesWrong)

/-- 'rehearsallaw09.SwapFails': WHATEVER THE INPUT: true; the input reads as it did. -/
def swapFailsSpec : ChangeSpec := { name := "swapFails", fn := fun _ => fun
  | [d1, d2] => { results := [.lit (.bool true)], args := [d1, d2] }
  | _ => none }
def swapFailsRow : OpenClaim := { program := "ytfhnlkbmkfjpnaa", sum := "6df9eb16a937f38f0d2c1c14c5243f8b6cf46c6f93057ffebda8efcbce3f7b8e", func := "rehearsal/rehearsallaw09.SwapFails", spec := "swapFails", apart := false }
def SwapFailsSaid : Prop := swapFailsRow.holds Try.pinned (OpenSpec.ofChange swapFailsSpec)

/-- ITS FALSE NEIGHBOUR: 'it returns false'. Refute it at one input. -/
def swapFailsWrong : ChangeSpec := { name := "swapFails", fn := fun _ => fun
  | [d1, d2] => { results := [.lit (.bool false)], args := [d1, d2] }
  | _ => none }
def SwapFailsWrongFalsely : Prop := swapFailsRow.holds Try.pinned (OpenSpec.ofChange swapFailsWrong)

/-- 'rehearsallaw09.SwapTells': WHATEVER THE INPUT: true; the input reads as it did. -/
def swapTellsSpec : ChangeSpec := { name := "swapTells", fn := fun _ => fun
  | [d1, d2, d3] => { results := [.lit (.bool true)], args := [d1, d2, d3] }
  | _ => none }
def swapTellsRow : OpenClaim := { program := "ytfhnlkbmkfjpnaa", sum := "6df9eb16a937f38f0d2c1c14c5243f8b6cf46c6f93057ffebda8efcbce3f7b8e", func := "rehearsal/rehearsallaw09.SwapTells", spec := "swapTells", apart := false }
def SwapTellsSaid : Prop := swapTellsRow.holds Try.pinned (OpenSpec.ofChange swapTellsSpec)

/-- ITS FALSE NEIGHBOUR: 'it returns false'. Refute it at one input. -/
def swapTellsWrong : ChangeSpec := { name := "swapTells", fn := fun _ => fun
  | [d1, d2, d3] => { results := [.lit (.bool false)], args := [d1, d2, d3] }
  | _ => none }
def SwapTellsWrongFalsely : Prop := swapTellsRow.holds Try.pinned (OpenSpec.ofChange swapTellsWrong)

/- THE SECOND FORM. 'bulk': how many values and letters a reading holds, each counted each time it is reached (what is shared counts as often as it is met; a slice's spare places count too). A statement '..UptoSaid' is the law's where the arguments, and the package variables that the reading takes, are together of bulk at most 1048576: NARROWER than '..Said'. Prove '..Said' where nothing that the law and all that it calls make is longer than what came in: it says more and counts as full. Else prove '..UptoSaid'. A law counts once. -/
mutual
def uptoBulk {H : Type} : DataW H → Nat
  | .lit (.string bytes) => bytes.length + 1
  | .lit _ => 1
  | .nil => 1
  | .ptr d => uptoBulk d + 1
  | .slice elems spare => uptoBulkAll elems + uptoBulkAll spare + 1
  | .agg parts => uptoBulkAll parts + 1
  | .iface _ d => uptoBulk d + 1
  | .map entries => uptoBulkEntries entries + 1
  | .held _ => 1
def uptoBulkAll {H : Type} : List (DataW H) → Nat
  | [] => 0
  | d :: r => uptoBulk d + uptoBulkAll r
def uptoBulkEntries {H : Type} : List (Lit × DataW H) → Nat
  | [] => 0
  | x :: r => uptoBulkEntry x + uptoBulkEntries r
def uptoBulkEntry {H : Type} : Lit × DataW H → Nat
  | (.string bytes, d) => bytes.length + uptoBulk d + 1
  | (_, d) => uptoBulk d + 1
 end
def uptoSmall : (H : Type) → List (DataW H) → Bool := fun _ ds => decide (uptoBulkAll ds ≤ 1048576)
def OpenSpec.upto (s : _root_.Go.ChangeSpec) : _root_.Go.OpenSpec := { _root_.Go.OpenSpec.ofChange s with cond := some uptoSmall }

/-- 'rehearsallaw09.SwapKeeps', WHERE WHAT IT READS IS OF BULK AT MOST 1048576: true; the input reads as it did. -/
def swapKeepsUptoRow : OpenClaim := { program := "ytfhnlkbmkfjpnaa", sum := "6df9eb16a937f38f0d2c1c14c5243f8b6cf46c6f93057ffebda8efcbce3f7b8e", func := "rehearsal/rehearsallaw09.SwapKeeps", spec := "swapKeeps", apart := false, narrowed := true }
def SwapKeepsUptoSaid : Prop := swapKeepsUptoRow.holds Try.pinned (OpenSpec.upto swapKeepsSpec)

/-- 'rehearsallaw09.SwapSizes', WHERE WHAT IT READS IS OF BULK AT MOST 1048576: true; the input reads as it did. -/
def swapSizesUptoRow : OpenClaim := { program := "ytfhnlkbmkfjpnaa", sum := "6df9eb16a937f38f0d2c1c14c5243f8b6cf46c6f93057ffebda8efcbce3f7b8e", func := "rehearsal/rehearsallaw09.SwapSizes", spec := "swapSizes", apart := false, narrowed := true }
def SwapSizesUptoSaid : Prop := swapSizesUptoRow.holds Try.pinned (OpenSpec.upto swapSizesSpec)

/-- 'rehearsallaw09.SwapFails', WHERE WHAT IT READS IS OF BULK AT MOST 1048576: true; the input reads as it did. -/
def swapFailsUptoRow : OpenClaim := { program := "ytfhnlkbmkfjpnaa", sum := "6df9eb16a937f38f0d2c1c14c5243f8b6cf46c6f93057ffebda8efcbce3f7b8e", func := "rehearsal/rehearsallaw09.SwapFails", spec := "swapFails", apart := false, narrowed := true }
def SwapFailsUptoSaid : Prop := swapFailsUptoRow.holds Try.pinned (OpenSpec.upto swapFailsSpec)

/-- 'rehearsallaw09.SwapTells', WHERE WHAT IT READS IS OF BULK AT MOST 1048576: true; the input reads as it did. -/
def swapTellsUptoRow : OpenClaim := { program := "ytfhnlkbmkfjpnaa", sum := "6df9eb16a937f38f0d2c1c14c5243f8b6cf46c6f93057ffebda8efcbce3f7b8e", func := "rehearsal/rehearsallaw09.SwapTells", spec := "swapTells", apart := false, narrowed := true }
def SwapTellsUptoSaid : Prop := swapTellsUptoRow.holds Try.pinned (OpenSpec.upto swapTellsSpec)

end Rows
end Go.Proofs.Ytfhnlkbmkfjpnaa
