/- The texts P6 in one. -/
import Derived.Test.YtcopjjokhjealaaMG
namespace Go.Proofs.Ytcopjjokhjealaa
open Go.RowKit

theorem ord_com {x : Op} {s s' : Pl} {o : List Int} {n : Int} (hv : Inv NoR s) (h : DoR x s s' o n 0) (hk : dk x = 6) : ∃ t, oldV s x.l = some (x.i, t) ∧ ¬ witP s t := by
  generalize he : (0 : Int) = e at h
  cases h with
  | fin h => omega
  | con h _ => omega
  | drp h _ => omega
  | gon h _ => omega
  | nes h _ => omega
  | ahn h _ => omega
  | ahb h _ => omega
  | beg h => omega
  | com h hr =>
    rcases hr with ⟨-, -, -, h4⟩ | ⟨k, r, m, y, h1, h2, h3, h4, h5⟩
    · omega
    rcases h5 with ⟨-, -, -, h⟩ | ⟨-, -, -, -, h⟩ | ⟨-, -, -, -, -, h⟩ | ⟨-, -, -, -, -, -, h⟩ | ⟨hy, hd, hw, -⟩
    · omega
    · omega
    · omega
    · omega
    subst hy
    refine ⟨r.t, ?_, ?_⟩
    · unfold oldV
      rw [h3]
      dsimp only
      cases hi : m.it with
      | nil => rw [hi] at h4; cases h4
      | cons a b =>
        rw [hi] at h4
        injection h4 with h4
        subst h4
        show oldY s x.l x.i = _
        unfold oldY
        rw [h1, if_neg (by omega)]
        have : ((k : Int)).toNat = k := by omega
        rw [this, h2]
        dsimp only
        rw [if_pos hd]
    · rintro ⟨z, q, hz, hq⟩
      have hid := hv.c.id z q hz
      have hr1 : 1 ≤ r.t := hv.c.t1 r (List.mem_of_getElem? h2)
      by_cases hz0 : z = 0
      · subst hz0
        obtain ⟨q', g1, g2⟩ := hv.c.z
        rw [hz] at g1
        injection g1 with g1
        subst g1
        omega
      · have : z ∈ ([] : List Int) := (hw.2 z).2 ⟨by omega, q, hz, hq⟩
        cases this
theorem beg_ah {s : Pl} {l y t : Int} (h : begE s l y t = 0) : (begS s l y t).li = s.li ++ [⟨l, y, t, false⟩] ∧ y ∈ cmgV s l ∧ ∃ a, aheadV s l = some a := by
  obtain ⟨n, h1, h2, h3, h4, h5, h6⟩ := beg_spec h
  refine ⟨?_, ?_, ?_⟩
  · unfold begS; rw [if_pos h]; rfl
  · unfold cmgV; rw [h1]; exact h3
  · unfold aheadV
    rw [h1]
    dsimp only
    rw [if_neg (by omega)]
    have : (n.it.find? (fun i => decide (fndI s.li l i < 0))).isSome = true := by
      rw [List.find?_isSome]
      exact ⟨y, h3, by simpa using h4⟩
    exact Option.isSome_iff_exists.1 this
theorem ord_beg {x : Op} {s s' : Pl} {o : List Int} {n : Int} (h : DoR x s s' o n 0) (hk : dk x < 4 ∨ 12 ≤ dk x) : ∃ y a, s'.li = s.li ++ [⟨x.l, y, x.t, false⟩] ∧ y ∈ cmgV s x.l ∧ aheadV s x.l = some a ∧ (12 ≤ dk x → a = y) := by
  generalize he : (0 : Int) = e at h
  cases h with
  | fin h => omega
  | com h _ => omega
  | con h _ => omega
  | drp h _ => omega
  | gon h _ => omega
  | nes h _ => omega
  | ahn h _ => omega
  | ahb h ha =>
    obtain ⟨h1, h2, -⟩ := beg_ah he.symm
    exact ⟨_, _, h1, h2, ha, fun _ => rfl⟩
  | beg h =>
    obtain ⟨h1, h2, a, ha⟩ := beg_ah he.symm
    exact ⟨_, a, h1, h2, ha, fun h' => by omega⟩
end Go.Proofs.Ytcopjjokhjealaa
