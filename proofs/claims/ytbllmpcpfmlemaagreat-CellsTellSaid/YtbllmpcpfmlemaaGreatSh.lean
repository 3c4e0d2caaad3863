/- Short names for four laws on lists. -/
import Derived.Test.YtbllmpcpfmlemaaGreatOwn
namespace Go.Proofs.YtbllmpcpfmlemaaGreat
open Go.RowKit
theorem lA {α : Type _} (l : List α) (i : Nat) (a : α) : l.toArray.setIfInBounds i a = (l.set i a).toArray := by simp
theorem l0 {α : Type _} {x : α} {xs : List α} {a : α} : (x :: xs).set 0 a = a :: xs := rfl
theorem lS {α : Type _} {x : α} {xs : List α} {n : Nat} {a : α} : (x :: xs).set (n + 1) a = x :: xs.set n a := rfl
end Go.Proofs.YtbllmpcpfmlemaaGreat
