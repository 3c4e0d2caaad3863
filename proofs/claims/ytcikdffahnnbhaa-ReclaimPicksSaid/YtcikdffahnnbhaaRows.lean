/-
  No cell of these rows narrows 'for every input' (looked for: loops, veiled, ifaces, maps, wideKeys, modest, calm, conditions, laid).
  DERIVED. THE GIVEN ROWS OF THIS SEAT. 3 by the template 'for every input the law returns true; each argument reads behind the call as it read before'; 0 by the template 'total and deterministic' (their statements: YtcikdffahnnbhaaTotals.lean).
  GIVEN WITH THE SEED: the statements are not yours to turn. If you find one false, say at which input.
  Laid BY PROGRAM, IN A SANDBOX (cutbox-rows.mjs): the forced cells as the released guide's own fill.sh prints them over the translation f8edcd75ee8b5435… (all of the seat's roots in one cut). By AI agents, Wed Nov 11 2026. No macro, syntax, notation, axiom, sorry.
-/
import Derived.Test.YtcikdffahnnbhaaChecked
import GoSem.Claim
import GoSem.ClaimJoined
import GoSem.ClaimMapViews
import Derived.JoinedTies
import Derived.KernelRfl
namespace Go.Proofs.Ytcikdffahnnbhaa
/- THE CELL 'sum', in the pinned program and in every row, IS THE sha256 OF THE DUMP (.gsa) THAT YtcikdffahnnbhaaProg.lean LOADS. Nothing in Lean hashes anything: it is a label: what it is worth is what the hold of that sum in a sandbox is worth. -/
noncomputable def Try.pinned : Pinned := { name := "ytcikdffahnnbhaa", sum := "f8edcd75ee8b543517c0427b83e25052dab18b185836f8b6f27db9fb63a10305", checked := Try.checked }
namespace Rows
def none {H : Type} : Left H := { results := [], args := [] }

/-- 'rehearsallaw10.ReclaimDrains': WHATEVER THE INPUT: true; the input reads as it did. -/
def reclaimDrainsSpec : ChangeSpec := { name := "reclaimDrains", fn := fun _ => fun
  | [d1, d2] => { results := [.lit (.bool true)], args := [d1, d2] }
  | _ => none }
def reclaimDrainsRow : OpenClaim := { program := "ytcikdffahnnbhaa", sum := "f8edcd75ee8b543517c0427b83e25052dab18b185836f8b6f27db9fb63a10305", func := "rehearsal/rehearsallaw10.ReclaimDrains", spec := "reclaimDrains", apart := false }
def ReclaimDrainsSaid : Prop := reclaimDrainsRow.holds Try.pinned (OpenSpec.ofChange reclaimDrainsSpec)

/-- ITS FALSE NEIGHBOUR: 'it returns false'. Refute it at one input. -/
def reclaimDrainsWrong : ChangeSpec := { name := "reclaimDrains", fn := fun _ => fun
  | [d1, d2] => { results := [.lit (.bool false)], args := [d1, d2] }
  | _ => none }
def ReclaimDrainsWrongFalsely : Prop := reclaimDrainsRow.holds Try.pinned (OpenSpec.ofChange reclaimDrainsWrong)

/-- 'rehearsallaw10.ReclaimWorks': WHATEVER THE INPUT: true; the input reads as it did. -/
def reclaimWorksSpec : ChangeSpec := { name := "reclaimWorks", fn := fun _ => fun
  | [d1, d2, d3, d4] => { results := [.lit (.bool true)], args := [d1, d2, d3, d4] }
  | _ => none }
def reclaimWorksRow : OpenClaim := { program := "ytcikdffahnnbhaa", sum := "f8edcd75ee8b543517c0427b83e25052dab18b185836f8b6f27db9fb63a10305", func := "rehearsal/rehearsallaw10.ReclaimWorks", spec := "reclaimWorks", apart := false }
def ReclaimWorksSaid : Prop := reclaimWorksRow.holds Try.pinned (OpenSpec.ofChange reclaimWorksSpec)

/-- ITS FALSE NEIGHBOUR: 'it returns false'. Refute it at one input. -/
def reclaimWorksWrong : ChangeSpec := { name := "reclaimWorks", fn := fun _ => fun
  | [d1, d2, d3, d4] => { results := [.lit (.bool false)], args := [d1, d2, d3, d4] }
  | _ => none }
def ReclaimWorksWrongFalsely : Prop := reclaimWorksRow.holds Try.pinned (OpenSpec.ofChange reclaimWorksWrong)

/-- 'rehearsallaw10.ReclaimPicks': WHATEVER THE INPUT: true; the input reads as it did. -/
def reclaimPicksSpec : ChangeSpec := { name := "reclaimPicks", fn := fun _ => fun
  | [d1, d2] => { results := [.lit (.bool true)], args := [d1, d2] }
  | _ => none }
def reclaimPicksRow : OpenClaim := { program := "ytcikdffahnnbhaa", sum := "f8edcd75ee8b543517c0427b83e25052dab18b185836f8b6f27db9fb63a10305", func := "rehearsal/rehearsallaw10.ReclaimPicks", spec := "reclaimPicks", inPlace := ["maps.clone"], apart := false }
def ReclaimPicksSaid : Prop := reclaimPicksRow.holds Try.pinned (OpenSpec.ofChange reclaimPicksSpec)

/-- ITS FALSE NEIGHBOUR: 'it returns false'. Refute it at one input. -/
def reclaimPicksWrong : ChangeSpec := { name := "reclaimPicks", fn := fun _ => fun
  | [d1, d2] => { results := [.lit (.bool false)], args := [d1, d2] }
  | _ => none }
def ReclaimPicksWrongFalsely : Prop := reclaimPicksRow.holds Try.pinned (OpenSpec.ofChange reclaimPicksWrong)

/- THE SECOND FORM. 'bulk': how many values and letters a reading holds, each counted each time it is reached (what is shared counts as often as it is met; a slice's spare places count too). A statement '..UptoSaid' is the law's where the arguments, and the package variables that the reading takes, are together of bulk at most 1048576: NARROWER than '..Said'. Prove '..Said' where nothing that the law and all that it calls make is longer than what came in: it says more and counts as full. Else prove '..UptoSaid'. A law counts once. -/
mutual
def uptoBulk {H : Type} : DataW H → Nat
  | .lit (.string bytes) => bytes.length + 1
  | .lit _ => 1
  | .nil => 1
  | .ptr d => uptoBulk d + 1
  | .slice elems spare => uptoBulkAll elems + uptoBulkAll spare + 1
  | .agg parts => uptoBulkAll parts + 1
  | .iface _ d => uptoBulk d + 1
  | .map entries => uptoBulkEntries entries + 1
  | .held _ => 1
def uptoBulkAll {H : Type} : List (DataW H) → Nat
  | [] => 0
  | d :: r => uptoBulk d + uptoBulkAll r
def uptoBulkEntries {H : Type} : List (Lit × DataW H) → Nat
  | [] => 0
  | x :: r => uptoBulkEntry x + uptoBulkEntries r
def uptoBulkEntry {H : Type} : Lit × DataW H → Nat
  | (.string bytes, d) => bytes.length + uptoBulk d + 1
  | (_, d) => uptoBulk d + 1
 end
def uptoSmall : (H : Type) → List (DataW H) → Bool := fun _ ds => decide (uptoBulkAll ds ≤ 1048576)
def OpenSpec.upto (s : _root_.Go.ChangeSpec) : _root_.Go.OpenSpec := { _root_.Go.OpenSpec.ofChange s with cond := some uptoSmall }

/-- 'rehearsallaw10.ReclaimDrains', WHERE WHAT IT READS IS OF BULK AT MOST 1048576: true; the input reads as it did. -/
def reclaimDrainsUptoRow : OpenClaim := { program := "ytcikdffahnnbhaa", sum := "f8edcd75ee8b543517c0427b83e25052dab18b185836f8b6f27db9fb63a10305", func := "rehearsal/rehearsallaw10.ReclaimDrains", spec := "reclaimDrains", apart := false, narrowed := true }
def ReclaimDrainsUptoSaid : Prop := reclaimDrainsUptoRow.holds Try.pinned (OpenSpec.upto reclaimDrainsSpec)

/-- 'rehearsallaw10.ReclaimWorks', WHERE WHAT IT READS IS OF BULK AT MOST 1048576: true; the input reads as it did. -/
def reclaimWorksUptoRow : OpenClaim := { program := "ytcikdffahnnbhaa", sum := "f8edcd75ee8b543517c0427b83e25052dab18b185836f8b6f27db9fb63a10305", func := "rehearsal/rehearsallaw10.ReclaimWorks", spec := "reclaimWorks", apart := false, narrowed := true }
def ReclaimWorksUptoSaid : Prop := reclaimWorksUptoRow.holds Try.pinned (OpenSpec.upto reclaimWorksSpec)

/-- 'rehearsallaw10.ReclaimPicks', WHERE WHAT IT READS IS OF BULK AT MOST 1048576: true; the input reads as it did. -/
def reclaimPicksUptoRow : OpenClaim := { program := "ytcikdffahnnbhaa", sum := "f8edcd75ee8b543517c0427b83e25052dab18b185836f8b6f27db9fb63a10305", func := "rehearsal/rehearsallaw10.ReclaimPicks", spec := "reclaimPicks", inPlace := ["maps.clone"], apart := false, narrowed := true }
def ReclaimPicksUptoSaid : Prop := reclaimPicksUptoRow.holds Try.pinned (OpenSpec.upto reclaimPicksSpec)

end Rows
end Go.Proofs.Ytcikdffahnnbhaa
