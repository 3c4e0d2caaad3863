/- What the laws' rows want of this program; a string argument opened. -/
import Derived.Test.YtcoecpglnabbpaaRows
import Derived.Test.YtcoecpglnabbpaaClose
namespace Go.Proofs.Ytcoecpglnabbpaa
open Go.ChangeShapes Go.WideShapes Go.ChangeAt Go.RowKit Go.Deep
theorem own : ownKnob Try.prog.godebug = none := by kernel_rfl
theorem laidOut : laidOutB Try.prog = true := by kernel_rfl
theorem open_str {H : Type} {enc : TypeId × Value → H} {w : World} {base base' : Nat} {spare : Nat → Bool} {held : Bool} {v : Value} {d : DataW H} {ps : List MemPlace} {r : Reach}
    (ho : Value.okWide Try.prog w r base' 9 v) (h : DataW.Trod enc Try.prog w base spare held 9 v d ps) : ∃ s : ByteArray, v = .string s ∧ s.size ≤ 9223372036854775807 := by
  obtain ⟨s, rfl, rfl, rfl, hs⟩ := Go.ChangeMaps.open_string Try.underlying9 ho h
  exact ⟨s, rfl, hs⟩
end Go.Proofs.Ytcoecpglnabbpaa
