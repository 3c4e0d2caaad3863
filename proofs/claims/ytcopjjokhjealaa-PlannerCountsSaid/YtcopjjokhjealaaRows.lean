/-
  No cell of these rows narrows 'for every input' (looked for: loops, veiled, ifaces, maps, wideKeys, modest, calm, conditions, laid).
  DERIVED. THE GIVEN ROWS OF THIS SEAT. 3 by the template 'for every input the law returns true; each argument reads behind the call as it read before'; 0 by the template 'total and deterministic' (their statements: YtcopjjokhjealaaTotals.lean).
  GIVEN WITH THE SEED: the statements are not yours to turn. If you find one false, say at which input.
  Laid BY PROGRAM, IN A SANDBOX (cutbox-rows.mjs): the forced cells as the released guide's own fill.sh prints them over the translation a8fb35dafdba2f40… (all of the seat's roots in one cut). By AI agents, Wed Nov 11 2026. No macro, syntax, notation, axiom, sorry.
-/
import Derived.Test.YtcopjjokhjealaaChecked
import GoSem.Claim
import GoSem.ClaimJoined
import GoSem.ClaimMapViews
import Derived.JoinedTies
import Derived.KernelRfl
namespace Go.Proofs.Ytcopjjokhjealaa
/- THE CELL 'sum', in the pinned program and in every row, IS THE sha256 OF THE DUMP (.gsa) THAT YtcopjjokhjealaaProg.lean LOADS. Nothing in Lean hashes anything: it is a label: what it is worth is what the hold of that sum in a sandbox is worth. -/
noncomputable def Try.pinned : Pinned := { name := "ytcopjjokhjealaa", sum := "a8fb35dafdba2f40b0469f24e04f056fb2b267196c1fae8a150bef0e86292cb3", checked := Try.checked }
namespace Rows
def none {H : Type} : Left H := { results := [], args := [] }

/-- 'rehearsallaw43.PlannerCounts': WHATEVER THE INPUT: true; the input reads as it did. -/
def plannerCountsSpec : ChangeSpec := { name := "plannerCounts", fn := fun _ => fun
  | [d1, d2] => { results := [.lit (.bool true)], args := [d1, d2] }
  | _ => none }
def plannerCountsRow : OpenClaim := { program := "ytcopjjokhjealaa", sum := "a8fb35dafdba2f40b0469f24e04f056fb2b267196c1fae8a150bef0e86292cb3", func := "rehearsal/rehearsallaw43.PlannerCounts", spec := "plannerCounts", inPlace := ["maps.clone"], unfollowed := true, recurses := true, plainKeys := false, apart := false }
def PlannerCountsSaid : Prop := plannerCountsRow.holds Try.pinned (OpenSpec.ofChange plannerCountsSpec)

/-- ITS FALSE NEIGHBOUR: 'it returns false'. Refute it at one input. -/
def plannerCountsWrong : ChangeSpec := { name := "plannerCounts", fn := fun _ => fun
  | [d1, d2] => { results := [.lit (.bool false)], args := [d1, d2] }
  | _ => none }
def PlannerCountsWrongFalsely : Prop := plannerCountsRow.holds Try.pinned (OpenSpec.ofChange plannerCountsWrong)

/-- 'rehearsallaw43.PlannerVictims': WHATEVER THE INPUT: true; the input reads as it did. -/
def plannerVictimsSpec : ChangeSpec := { name := "plannerVictims", fn := fun _ => fun
  | [d1, d2] => { results := [.lit (.bool true)], args := [d1, d2] }
  | _ => none }
def plannerVictimsRow : OpenClaim := { program := "ytcopjjokhjealaa", sum := "a8fb35dafdba2f40b0469f24e04f056fb2b267196c1fae8a150bef0e86292cb3", func := "rehearsal/rehearsallaw43.PlannerVictims", spec := "plannerVictims", unfollowed := true, recurses := true, plainKeys := false, apart := false }
def PlannerVictimsSaid : Prop := plannerVictimsRow.holds Try.pinned (OpenSpec.ofChange plannerVictimsSpec)

/-- ITS FALSE NEIGHBOUR: 'it returns false'. Refute it at one input. -/
def plannerVictimsWrong : ChangeSpec := { name := "plannerVictims", fn := fun _ => fun
  | [d1, d2] => { results := [.lit (.bool false)], args := [d1, d2] }
  | _ => none }
def PlannerVictimsWrongFalsely : Prop := plannerVictimsRow.holds Try.pinned (OpenSpec.ofChange plannerVictimsWrong)

/-- 'rehearsallaw43.PlannerOrder': WHATEVER THE INPUT: true; the input reads as it did. -/
def plannerOrderSpec : ChangeSpec := { name := "plannerOrder", fn := fun _ => fun
  | [d1, d2] => { results := [.lit (.bool true)], args := [d1, d2] }
  | _ => none }
def plannerOrderRow : OpenClaim := { program := "ytcopjjokhjealaa", sum := "a8fb35dafdba2f40b0469f24e04f056fb2b267196c1fae8a150bef0e86292cb3", func := "rehearsal/rehearsallaw43.PlannerOrder", spec := "plannerOrder", inPlace := ["maps.clone"], unfollowed := true, recurses := true, plainKeys := false, apart := false }
def PlannerOrderSaid : Prop := plannerOrderRow.holds Try.pinned (OpenSpec.ofChange plannerOrderSpec)

/-- ITS FALSE NEIGHBOUR: 'it returns false'. Refute it at one input. -/
def plannerOrderWrong : ChangeSpec := { name := "plannerOrder", fn := fun _ => fun
  | [d1, d2] => { results := [.lit (.bool false)], args := [d1, d2] }
  | _ => none }
def PlannerOrderWrongFalsely : Prop := plannerOrderRow.holds Try.pinned (OpenSpec.ofChange plannerOrderWrong)

/- THE SECOND FORM. 'bulk': how many values and letters a reading holds, each counted each time it is reached (what is shared counts as often as it is met; a slice's spare places count too). A statement '..UptoSaid' is the law's where the arguments, and the package variables that the reading takes, are together of bulk at most 1048576: NARROWER than '..Said'. Prove '..Said' where nothing that the law and all that it calls make is longer than what came in: it says more and counts as full. Else prove '..UptoSaid'. A law counts once. -/
mutual
def uptoBulk {H : Type} : DataW H → Nat
  | .lit (.string bytes) => bytes.length + 1
  | .lit _ => 1
  | .nil => 1
  | .ptr d => uptoBulk d + 1
  | .slice elems spare => uptoBulkAll elems + uptoBulkAll spare + 1
  | .agg parts => uptoBulkAll parts + 1
  | .iface _ d => uptoBulk d + 1
  | .map entries => uptoBulkEntries entries + 1
  | .held _ => 1
def uptoBulkAll {H : Type} : List (DataW H) → Nat
  | [] => 0
  | d :: r => uptoBulk d + uptoBulkAll r
def uptoBulkEntries {H : Type} : List (Lit × DataW H) → Nat
  | [] => 0
  | x :: r => uptoBulkEntry x + uptoBulkEntries r
def uptoBulkEntry {H : Type} : Lit × DataW H → Nat
  | (.string bytes, d) => bytes.length + uptoBulk d + 1
  | (_, d) => uptoBulk d + 1
 end
def uptoSmall : (H : Type) → List (DataW H) → Bool := fun _ ds => decide (uptoBulkAll ds ≤ 1048576)
def OpenSpec.upto (s : _root_.Go.ChangeSpec) : _root_.Go.OpenSpec := { _root_.Go.OpenSpec.ofChange s with cond := some uptoSmall }

/-- 'rehearsallaw43.PlannerCounts', WHERE WHAT IT READS IS OF BULK AT MOST 1048576: true; the input reads as it did. -/
def plannerCountsUptoRow : OpenClaim := { program := "ytcopjjokhjealaa", sum := "a8fb35dafdba2f40b0469f24e04f056fb2b267196c1fae8a150bef0e86292cb3", func := "rehearsal/rehearsallaw43.PlannerCounts", spec := "plannerCounts", inPlace := ["maps.clone"], unfollowed := true, recurses := true, plainKeys := false, apart := false, narrowed := true }
def PlannerCountsUptoSaid : Prop := plannerCountsUptoRow.holds Try.pinned (OpenSpec.upto plannerCountsSpec)

/-- 'rehearsallaw43.PlannerVictims', WHERE WHAT IT READS IS OF BULK AT MOST 1048576: true; the input reads as it did. -/
def plannerVictimsUptoRow : OpenClaim := { program := "ytcopjjokhjealaa", sum := "a8fb35dafdba2f40b0469f24e04f056fb2b267196c1fae8a150bef0e86292cb3", func := "rehearsal/rehearsallaw43.PlannerVictims", spec := "plannerVictims", unfollowed := true, recurses := true, plainKeys := false, apart := false, narrowed := true }
def PlannerVictimsUptoSaid : Prop := plannerVictimsUptoRow.holds Try.pinned (OpenSpec.upto plannerVictimsSpec)

/-- 'rehearsallaw43.PlannerOrder', WHERE WHAT IT READS IS OF BULK AT MOST 1048576: true; the input reads as it did. -/
def plannerOrderUptoRow : OpenClaim := { program := "ytcopjjokhjealaa", sum := "a8fb35dafdba2f40b0469f24e04f056fb2b267196c1fae8a150bef0e86292cb3", func := "rehearsal/rehearsallaw43.PlannerOrder", spec := "plannerOrder", inPlace := ["maps.clone"], unfollowed := true, recurses := true, plainKeys := false, apart := false, narrowed := true }
def PlannerOrderUptoSaid : Prop := plannerOrderUptoRow.holds Try.pinned (OpenSpec.upto plannerOrderSpec)

end Rows
end Go.Proofs.Ytcopjjokhjealaa
