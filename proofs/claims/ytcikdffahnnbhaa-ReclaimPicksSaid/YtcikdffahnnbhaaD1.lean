/- Rows of bools, how many of them hold; what the walk of ReclaimDrains leans on. -/
import Derived.Test.YtcikdffahnnbhaaP2
import Derived.Test.YtcikdffahnnbhaaW10
import Derived.Test.YtcikdffahnnbhaaOps
namespace Go.Proofs.Ytcikdffahnnbhaa
open Go.RowKit

def brow (n : Nat) (f : Nat → Bool) : Array Value := ((List.range n).map (fun i => Value.bool (f i))).toArray
def Bools (w : World) (b n : Nat) (f : Nat → Bool) : Prop := Blk w b 4 (brow n f)
theorem Bools.cell {w : World} {b n : Nat} {f : Nat → Bool} (h : Bools w b n f) {k : Nat} (hk : k < n) : w.cell? ⟨b, k, none⟩ = some (.bool (f k)) := by
  rw [Blk.cell h]; simp [brow, hk]
theorem Bools.keep {w w' : World} {F : List Nat} {b n : Nat} {f : Nat → Bool} (h : Bools w b n f) (hk : Keeps F w w') (hn : b ∉ F) : Bools w' b n f := Blk.keep h hk hn
def upB (f : Nat → Bool) (k : Nat) (v : Bool) : Nat → Bool := fun x => if x = k then v else f x
theorem brow_set (n : Nat) (f : Nat → Bool) (k : Nat) (v : Bool) : (brow n f).setIfInBounds k (.bool v) = brow n (upB f k v) := by
  unfold brow
  apply Array.ext'
  simp only [Array.toList_setIfInBounds]
  apply List.ext_getElem
  · simp
  · intro i h1 h2
    simp only [List.getElem_set, List.getElem_map, List.getElem_range, upB]
    by_cases e : k = i
    · simp [e]
    · have e2 : ¬ i = k := fun h => e h.symm
      simp [e, e2]
theorem Bools.set_ {w : World} {b n : Nat} {f : Nat → Bool} (h : Bools w b n f) (k : Nat) (v : Bool) : Bools (w.setCell ⟨b, k, none⟩ (.bool v)) b n (upB f k v) := by
  have := Blk.set_ h k (.bool v)
  rw [brow_set] at this
  exact this
theorem Bools.cong {w : World} {b n : Nat} {f g : Nat → Bool} (h : Bools w b n f) (e : ∀ x, x < n → f x = g x) : Bools w b n g := by
  have : brow n f = brow n g := by
    unfold brow
    congr 1
    apply List.map_congr_left
    intro i hi
    rw [e i (List.mem_range.1 hi)]
  unfold Bools
  rw [← this]
  exact h
theorem info4 : (Try.prog.info? 4).map (fun i => (i.zero, i.size, i.bytes)) = some (some (.bool false), 1, 1) := by kernel_rfl
theorem madeB (n : Nat) : madeCells #[.bool false] (n * 1) = brow n (fun _ => false) := by
  apply Array.ext
  · simp [madeCells, brow]
  · intro i h1 h2
    simp [madeCells, brow, Nat.mod_one]
/-- How many of the first k hold. -/
def cnt (f : Nat → Bool) : Nat → Nat
  | 0 => 0
  | k + 1 => cnt f k + if f k then 1 else 0
theorem cnt_le (f : Nat → Bool) (k : Nat) : cnt f k ≤ k := by
  induction k with
  | zero => exact Nat.le_refl _
  | succ k ih => unfold cnt; split <;> omega
theorem cnt_pos {f : Nat → Bool} {n x : Nat} (hx : x < n) (h : f x = true) : 0 < cnt f n := by
  induction n with
  | zero => omega
  | succ n ih =>
    unfold cnt
    by_cases e : x = n
    · subst e; rw [h]; simp
    · have := ih (by omega); omega
theorem cnt_ex {f : Nat → Bool} {n : Nat} (h : 0 < cnt f n) : ∃ x, x < n ∧ f x = true := by
  induction n with
  | zero => simp [cnt] at h
  | succ n ih =>
    unfold cnt at h
    cases hf : f n with
    | true => exact ⟨n, by omega, hf⟩
    | false => rw [hf] at h; simp at h; obtain ⟨x, h1, h2⟩ := ih h; exact ⟨x, by omega, h2⟩
theorem cnt_congr {f g : Nat → Bool} {n : Nat} (h : ∀ x, x < n → f x = g x) : cnt f n = cnt g n := by
  induction n with
  | zero => rfl
  | succ n ih => unfold cnt; rw [ih (fun x hx => h x (by omega)), h n (by omega)]
theorem cnt_off {f : Nat → Bool} {n x : Nat} (hx : x < n) (h : f x = true) : cnt (upB f x false) n + 1 = cnt f n := by
  induction n with
  | zero => omega
  | succ n ih =>
    unfold cnt
    by_cases e : x = n
    · subst e
      rw [cnt_congr (g := f) (fun y hy => by unfold upB; rw [if_neg (by omega)]), h]
      simp [upB]
    · have := ih (by omega)
      have e2 : upB f x false n = f n := by unfold upB; rw [if_neg (by omega)]
      rw [e2]; omega
theorem cnt_on {f : Nat → Bool} {n x : Nat} (hx : x < n) (h : f x = false) : cnt (upB f x true) n = cnt f n + 1 := by
  induction n with
  | zero => omega
  | succ n ih =>
    unfold cnt
    by_cases e : x = n
    · subst e
      rw [cnt_congr (g := f) (fun y hy => by unfold upB; rw [if_neg (by omega)]), h]
      simp [upB]
    · have := ih (by omega)
      have e2 : upB f x true n = f n := by unfold upB; rw [if_neg (by omega)]
      rw [e2]; omega
/-- A pick where a frame is used: it is one, and giving it up leaves the others. -/
theorem pick_gone {s : Ck} (hl : s.h < s.L.length) (hc : 0 < cnt (fun x => (s.g x).u) s.L.length) :
    ∃ f : Nat, f < s.L.length ∧ s.victim.2 = true ∧ s.pickF = (f : Int) ∧ (s.g f).u = true ∧ (∀ x, ((s.picked.gone (f : Int)).g x).u = upB (fun x => (s.g x).u) f false x) := by
  have hv : s.victim.2 = true := by
    cases hv : s.victim.2 with
    | true => rfl
    | false => obtain ⟨x, h1, h2⟩ := cnt_ex hc; rw [Ck.victim_no hl hv h1] at h2; simp at h2
  obtain ⟨f, h1, h2, h3, -⟩ := Ck.victim_ok hl hv
  refine ⟨f, h1, hv, by unfold Ck.pickF; rw [hv, h2]; rfl, h3, fun x => ?_⟩
  rw [gone_g _ (by rw [picked_len]; exact h1), picked_u]
  rfl
theorem pick_none {s : Ck} (hl : s.h < s.L.length) (hc : cnt (fun x => (s.g x).u) s.L.length = 0) : s.victim.2 = false := by
  cases hv : s.victim.2 with
  | false => rfl
  | true =>
    obtain ⟨f, h1, h2, h3, -⟩ := Ck.victim_ok hl hv
    have := cnt_pos (f := fun x => (s.g x).u) h1 h3
    omega
end Go.Proofs.Ytcikdffahnnbhaa
