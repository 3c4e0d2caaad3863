/-
  No cell of these rows narrows 'for every input' (looked for: loops, veiled, ifaces, maps, wideKeys, modest, calm, conditions, laid).
  DERIVED. THE GIVEN ROWS OF THIS SEAT. 4 by the template 'for every input the law returns true; each argument reads behind the call as it read before'; 0 by the template 'total and deterministic' (their statements: YtbllmpcpfmlemaaGreatTotals.lean).
  GIVEN WITH THE SEED: the statements are not yours to turn. If you find one false, say at which input.
  Laid BY PROGRAM, IN A SANDBOX (cutbox-rows.mjs): the forced cells as the released guide's own fill.sh prints them over the translation dd69ba03b99f7d5a… (all of the seat's roots in one cut). By AI agents, Wed Nov 11 2026. No macro, syntax, notation, axiom, sorry.
-/
import Derived.Test.YtbllmpcpfmlemaaGreatChecked
import GoSem.Claim
import GoSem.ClaimJoined
import GoSem.ClaimMapViews
import Derived.JoinedTies
import Derived.KernelRfl
namespace Go.Proofs.YtbllmpcpfmlemaaGreat
/- THE CELL 'sum', in the pinned program and in every row, IS THE sha256 OF THE DUMP (.gsa) THAT YtbllmpcpfmlemaaGreatProg.lean LOADS. Nothing in Lean hashes anything: it is a label: what it is worth is what the hold of that sum in a sandbox is worth. -/
noncomputable def Tryz.pinned : Pinned := { name := "ytbllmpcpfmlemaagreat", sum := "dd69ba03b99f7d5a8562b79c086f3ff91fda683873ea859d65b42a5dd0665b3a", checked := Tryz.checked }
namespace Rows
def none {H : Type} : Left H := { results := [], args := [] }

/-- 'rehearsallaw16.CellsTell': WHATEVER THE INPUT: true; the input reads as it did. -/
def cellsTellSpec : ChangeSpec := { name := "cellsTell", fn := fun _ => fun
  | [d] => { results := [.lit (.bool true)], args := [d] }
  | _ => none }
def cellsTellRow : OpenClaim := { program := "ytbllmpcpfmlemaagreat", sum := "dd69ba03b99f7d5a8562b79c086f3ff91fda683873ea859d65b42a5dd0665b3a", func := "rehearsal/rehearsallaw16.CellsTell", spec := "cellsTell", unfollowed := true, recurses := true, apart := false }
def CellsTellSaid : Prop := cellsTellRow.holds Tryz.pinned (OpenSpec.ofChange cellsTellSpec)

/-- ITS FALSE NEIGHBOUR: 'it returns false'. Refute it at one input. -/
def cellsTellWrong : ChangeSpec := { name := "cellsTell", fn := fun _ => fun
  | [d] => { results := [.lit (.bool false)], args := [d] }
  | _ => none }
def CellsTellWrongFalsely : Prop := cellsTellRow.holds Tryz.pinned (OpenSpec.ofChange cellsTellWrong)

/-- 'rehearsallaw16.CellsHide': WHATEVER THE INPUT: true; the input reads as it did. -/
def cellsHideSpec : ChangeSpec := { name := "cellsHide", fn := fun _ => fun
  | [d1, d2, d3] => { results := [.lit (.bool true)], args := [d1, d2, d3] }
  | _ => none }
def cellsHideRow : OpenClaim := { program := "ytbllmpcpfmlemaagreat", sum := "dd69ba03b99f7d5a8562b79c086f3ff91fda683873ea859d65b42a5dd0665b3a", func := "rehearsal/rehearsallaw16.CellsHide", spec := "cellsHide", inPlace := ["maps.clone"], unfollowed := true, recurses := true, apart := false }
def CellsHideSaid : Prop := cellsHideRow.holds Tryz.pinned (OpenSpec.ofChange cellsHideSpec)

/-- ITS FALSE NEIGHBOUR: 'it returns false'. Refute it at one input. -/
def cellsHideWrong : ChangeSpec := { name := "cellsHide", fn := fun _ => fun
  | [d1, d2, d3] => { results := [.lit (.bool false)], args := [d1, d2, d3] }
  | _ => none }
def CellsHideWrongFalsely : Prop := cellsHideRow.holds Tryz.pinned (OpenSpec.ofChange cellsHideWrong)

/-- 'rehearsallaw16.CellsCopy': WHATEVER THE INPUT: true; the input reads as it did. -/
def cellsCopySpec : ChangeSpec := { name := "cellsCopy", fn := fun _ => fun
  | [d1, d2] => { results := [.lit (.bool true)], args := [d1, d2] }
  | _ => none }
def cellsCopyRow : OpenClaim := { program := "ytbllmpcpfmlemaagreat", sum := "dd69ba03b99f7d5a8562b79c086f3ff91fda683873ea859d65b42a5dd0665b3a", func := "rehearsal/rehearsallaw16.CellsCopy", spec := "cellsCopy", inPlace := ["maps.clone"], unfollowed := true, recurses := true, apart := false }
def CellsCopySaid : Prop := cellsCopyRow.holds Tryz.pinned (OpenSpec.ofChange cellsCopySpec)

/-- ITS FALSE NEIGHBOUR: 'it returns false'. Refute it at one input. -/
def cellsCopyWrong : ChangeSpec := { name := "cellsCopy", fn := fun _ => fun
  | [d1, d2] => { results := [.lit (.bool false)], args := [d1, d2] }
  | _ => none }
def CellsCopyWrongFalsely : Prop := cellsCopyRow.holds Tryz.pinned (OpenSpec.ofChange cellsCopyWrong)

/-- 'rehearsallaw16.CellsLook': WHATEVER THE INPUT: true; the input reads as it did. -/
def cellsLookSpec : ChangeSpec := { name := "cellsLook", fn := fun _ => fun
  | [d1, d2, d3] => { results := [.lit (.bool true)], args := [d1, d2, d3] }
  | _ => none }
def cellsLookRow : OpenClaim := { program := "ytbllmpcpfmlemaagreat", sum := "dd69ba03b99f7d5a8562b79c086f3ff91fda683873ea859d65b42a5dd0665b3a", func := "rehearsal/rehearsallaw16.CellsLook", spec := "cellsLook", inPlace := ["maps.clone"], unfollowed := true, recurses := true, apart := false }
def CellsLookSaid : Prop := cellsLookRow.holds Tryz.pinned (OpenSpec.ofChange cellsLookSpec)

/-- ITS FALSE NEIGHBOUR: 'it returns false'. Refute it at one input. -/
def cellsLookWrong : ChangeSpec := { name := "cellsLook", fn := fun _ => fun
  | [d1, d2, d3] => { results := [.lit (.bool false)], args := [d1, d2, d3] }
  | _ => none }
def CellsLookWrongFalsely : Prop := cellsLookRow.holds Tryz.pinned (OpenSpec.ofChange cellsLookWrong)

/- THE SECOND FORM. 'bulk': how many values and letters a reading holds, each counted each time it is reached (what is shared counts as often as it is met; a slice's spare places count too). A statement '..UptoSaid' is the law's where the arguments, and the package variables that the reading takes, are together of bulk at most 1048576: NARROWER than '..Said'. Prove '..Said' where nothing that the law and all that it calls make is longer than what came in: it says more and counts as full. Else prove '..UptoSaid'. A law counts once. -/
mutual
def uptoBulk {H : Type} : DataW H → Nat
  | .lit (.string bytes) => bytes.length + 1
  | .lit _ => 1
  | .nil => 1
  | .ptr d => uptoBulk d + 1
  | .slice elems spare => uptoBulkAll elems + uptoBulkAll spare + 1
  | .agg parts => uptoBulkAll parts + 1
  | .iface _ d => uptoBulk d + 1
  | .map entries => uptoBulkEntries entries + 1
  | .held _ => 1
def uptoBulkAll {H : Type} : List (DataW H) → Nat
  | [] => 0
  | d :: r => uptoBulk d + uptoBulkAll r
def uptoBulkEntries {H : Type} : List (Lit × DataW H) → Nat
  | [] => 0
  | x :: r => uptoBulkEntry x + uptoBulkEntries r
def uptoBulkEntry {H : Type} : Lit × DataW H → Nat
  | (.string bytes, d) => bytes.length + uptoBulk d + 1
  | (_, d) => uptoBulk d + 1
 end
def uptoSmall : (H : Type) → List (DataW H) → Bool := fun _ ds => decide (uptoBulkAll ds ≤ 1048576)
def OpenSpec.upto (s : _root_.Go.ChangeSpec) : _root_.Go.OpenSpec := { _root_.Go.OpenSpec.ofChange s with cond := some uptoSmall }

/-- 'rehearsallaw16.CellsTell', WHERE WHAT IT READS IS OF BULK AT MOST 1048576: true; the input reads as it did. -/
def cellsTellUptoRow : OpenClaim := { program := "ytbllmpcpfmlemaagreat", sum := "dd69ba03b99f7d5a8562b79c086f3ff91fda683873ea859d65b42a5dd0665b3a", func := "rehearsal/rehearsallaw16.CellsTell", spec := "cellsTell", unfollowed := true, recurses := true, apart := false, narrowed := true }
def CellsTellUptoSaid : Prop := cellsTellUptoRow.holds Tryz.pinned (OpenSpec.upto cellsTellSpec)

/-- 'rehearsallaw16.CellsHide', WHERE WHAT IT READS IS OF BULK AT MOST 1048576: true; the input reads as it did. -/
def cellsHideUptoRow : OpenClaim := { program := "ytbllmpcpfmlemaagreat", sum := "dd69ba03b99f7d5a8562b79c086f3ff91fda683873ea859d65b42a5dd0665b3a", func := "rehearsal/rehearsallaw16.CellsHide", spec := "cellsHide", inPlace := ["maps.clone"], unfollowed := true, recurses := true, apart := false, narrowed := true }
def CellsHideUptoSaid : Prop := cellsHideUptoRow.holds Tryz.pinned (OpenSpec.upto cellsHideSpec)

/-- 'rehearsallaw16.CellsCopy', WHERE WHAT IT READS IS OF BULK AT MOST 1048576: true; the input reads as it did. -/
def cellsCopyUptoRow : OpenClaim := { program := "ytbllmpcpfmlemaagreat", sum := "dd69ba03b99f7d5a8562b79c086f3ff91fda683873ea859d65b42a5dd0665b3a", func := "rehearsal/rehearsallaw16.CellsCopy", spec := "cellsCopy", inPlace := ["maps.clone"], unfollowed := true, recurses := true, apart := false, narrowed := true }
def CellsCopyUptoSaid : Prop := cellsCopyUptoRow.holds Tryz.pinned (OpenSpec.upto cellsCopySpec)

/-- 'rehearsallaw16.CellsLook', WHERE WHAT IT READS IS OF BULK AT MOST 1048576: true; the input reads as it did. -/
def cellsLookUptoRow : OpenClaim := { program := "ytbllmpcpfmlemaagreat", sum := "dd69ba03b99f7d5a8562b79c086f3ff91fda683873ea859d65b42a5dd0665b3a", func := "rehearsal/rehearsallaw16.CellsLook", spec := "cellsLook", inPlace := ["maps.clone"], unfollowed := true, recurses := true, apart := false, narrowed := true }
def CellsLookUptoSaid : Prop := cellsLookUptoRow.holds Tryz.pinned (OpenSpec.upto cellsLookSpec)

end Rows
end Go.Proofs.YtbllmpcpfmlemaaGreat
