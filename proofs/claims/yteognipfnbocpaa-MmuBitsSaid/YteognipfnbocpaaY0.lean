/- A table of 256 Booleans in a block (for MmuBits' walk). -/
import Derived.Test.YteognipfnbocpaaP5
import Derived.Test.YteognipfnbocpaaW15
namespace Go.Proofs.Yteognipfnbocpaa
open Go.ChangeShapes Go.WideShapes

/-- The cells of a table of 256 Booleans. -/
def tbB (f : Nat → Bool) : Array Value := ((List.range 256).map (fun p => Value.bool (f p))).toArray
theorem tbB_size (f : Nat → Bool) : (tbB f).size = 256 := by simp [tbB]
theorem tbB_at (f : Nat → Bool) {p : Nat} (hp : p < 256) : (tbB f)[p]? = some (.bool (f p)) := by
  unfold tbB
  simp [List.getElem?_map, List.getElem?_range hp]
theorem tbB_set (f : Nat → Bool) {p : Nat} (b : Bool) : (tbB f).setIfInBounds p (.bool b) = tbB (updB f p b) := by
  unfold tbB
  rw [List.setIfInBounds_toArray]
  congr 1
  apply List.ext_getElem?
  intro k
  rw [List.getElem?_set]
  by_cases hk : k < 256
  · simp only [List.getElem?_map, List.getElem?_range hk, Option.map_some, List.length_map, List.length_range]
    unfold updB
    by_cases h : p = k
    · subst h; simp [hk]
    · rw [if_neg h, if_neg (fun h' => h h'.symm)]
  · simp [List.getElem?_eq_none (l := List.range 256) (i := k) (by simp; omega)]
    omega
theorem tbB_no : tbB (fun _ => false) = Array.replicate 256 (Value.bool false) := by
  apply Array.ext_getElem?
  intro k
  by_cases hk : k < 256
  · rw [tbB_at _ hk]; simp [hk]
  · rw [Array.getElem?_eq_none (by rw [tbB_size]; omega), Array.getElem?_eq_none (by simp; omega)]
/-- Block g holds the table f. -/
def Tab (w : World) (g : Nat) (f : Nat → Bool) : Prop := Blk w g 4 (tbB f)
theorem Tab.cell {w : World} {g : Nat} {f : Nat → Bool} (h : Tab w g f) {p : Nat} (hp : p < 256) : w.cell? ⟨g, p, none⟩ = some (.bool (f p)) := (Blk.cell h p).trans (tbB_at f hp)
theorem Tab.frozen {w : World} {g : Nat} {f : Nat → Bool} (h : Tab w g f) (p : Nat) : w.frozen? ⟨g, p, none⟩ = false := Blk.frozen h p
theorem Tab.set_ {w : World} {g : Nat} {f : Nat → Bool} (h : Tab w g f) (p : Nat) (b : Bool) : Tab (w.setCell ⟨g, p, none⟩ (.bool b)) g (updB f p b) := by
  have := Blk.set_ h p (.bool b)
  rw [tbB_set] at this
  exact this
theorem Tab.far {w : World} {g : Nat} {f : Nat → Bool} (h : Tab w g f) {p : Addr} (hp : g ≠ p.block) (u : Value) : Tab (w.setCell p u) g f := Blk.far h hp u
theorem Tab.keep {w w' : World} {g : Nat} {f : Nat → Bool} {F : List Nat} (h : Tab w g f) (hk : Keeps F w w') (hn : g ∉ F) : Tab w' g f := Blk.keep h hk hn
theorem Tab.lt {w : World} {g : Nat} {f : Nat → Bool} (h : Tab w g f) : g < w.heap.size := Blk.lt h
/-- What the inner loop of the statement has made of the two tables behind its first n pages. -/
def accT (o : Op) (m : Pg) (a : Nat → Bool) (n : Nat) : Nat → Bool := fun p => if p < n then ((if takes o (a p) then false else a p) && (m p).isSome) else a p
def dirT (m : Pg) (d : Nat → Bool) (n : Nat) : Nat → Bool := fun p => if p < n then (d p && (m p).isSome) else d p
theorem accT_zero (o : Op) (m : Pg) (a : Nat → Bool) : accT o m a 0 = a := by funext p; simp [accT]
theorem dirT_zero (m : Pg) (d : Nat → Bool) : dirT m d 0 = d := by funext p; simp [dirT]
theorem accT_now (o : Op) (m : Pg) (a : Nat → Bool) (n : Nat) : accT o m a n n = a n := by simp [accT]
theorem dirT_now (m : Pg) (d : Nat → Bool) (n : Nat) : dirT m d n n = d n := by simp [dirT]
theorem accT_succ (o : Op) (m : Pg) (a : Nat → Bool) (n : Nat) : updB (accT o m a n) n ((if takes o (a n) then false else a n) && (m n).isSome) = accT o m a (n + 1) := by
  funext p
  unfold updB accT
  by_cases h : p = n
  · subst h; simp
  · by_cases h2 : p < n
    · simp only [if_neg h, if_pos h2, if_pos (show p < n + 1 by omega)]
    · simp only [if_neg h, if_neg h2, if_neg (show ¬ p < n + 1 by omega)]
theorem dirT_succ (m : Pg) (d : Nat → Bool) (n : Nat) : updB (dirT m d n) n (d n && (m n).isSome) = dirT m d (n + 1) := by
  funext p
  unfold updB dirT
  by_cases h : p = n
  · subst h; simp
  · by_cases h2 : p < n
    · simp only [if_neg h, if_pos h2, if_pos (show p < n + 1 by omega)]
    · simp only [if_neg h, if_neg h2, if_neg (show ¬ p < n + 1 by omega)]
theorem updB_twice (f : Nat → Bool) (p : Nat) (a b : Bool) : updB (updB f p a) p b = updB f p b := by
  funext q
  unfold updB
  by_cases h : q = p
  · rw [if_pos h, if_pos h]
  · rw [if_neg h, if_neg h, if_neg h]
end Go.Proofs.Yteognipfnbocpaa
