/- An argument that is a list of ints, opened. Own work. 42: the type []int. -/
import Derived.Test.YtbllmpcpfmlemaaGreatClose
import Derived.Test.YtbllmpcpfmlemaaGreatRows
import Derived.ChangeSlices
namespace Go.Proofs.YtbllmpcpfmlemaaGreat
open Go.ChangeShapes Go.WideShapes Go.ChangeAt Go.RowKit Go.Deep

/-- The argument's numbers lie from ⟨bl, off⟩ on. -/
structure IntsAt (w : World) (bl off n : Nat) (z : Nat → Int) : Prop where
  lt : bl < w.heap.size
  c : ∀ i, i < n → w.cell? ⟨bl, off + i, none⟩ = some (.int .i64 (z i))
  r : ∀ i, i < n → -9223372036854775808 ≤ z i ∧ z i ≤ 9223372036854775807
theorem IntsAt.keep {w w' : World} {bl off n : Nat} {z : Nat → Int} (h : IntsAt w bl off n z) (hk : Keeps [] w w') : IntsAt w' bl off n z :=
  ⟨Nat.lt_of_lt_of_le h.lt hk.size, fun i hi => (hk.cell (p := ⟨bl, _, none⟩) h.lt (by simp)).trans (h.c i hi), h.r⟩
set_option maxRecDepth 100000 in
theorem open_ints {H : Type} {enc : TypeId × Value → H} {w : World} {base base' : Nat} {spare : Nat → Bool} {held : Bool} {v : Value} {d : DataW H} {ps : List MemPlace} {r : Reach}
    (ho : Value.okWide Tryz.prog w r base' 42 v) (h : DataW.Trod enc Tryz.prog w base spare held 42 v d ps) : ∃ (A : Option Addr) (n c : Nat) (z : Nat → Int), v = .slice A n c ∧ (0 < n → ∃ bl off, A = some ⟨bl, off, none⟩ ∧ IntsAt w bl off n z) ∧ n ≤ 9223372036854775807 := by
  obtain ⟨a1, l1, c1, rfl⟩ := okWide_slice Tryz.underlying42 ho
  obtain ⟨fuel, h⟩ := h
  rcases Go.ChangeShapes.open_ints Tryz.underlying42 Tryz.underlying3 (by kernel_rfl) h with ⟨hcs, _⟩ | ⟨a, len, cap, ss, hcs, _, hl, hm, hss, _, hc, hr⟩
  · have hv : Value.slice a1 l1 c1 = .slice none 0 0 := by simpa [Value.cells] using hcs
    exact ⟨none, 0, 0, fun _ => 0, hv, fun h => absurd h (by omega), by omega⟩
  · have hv : Value.slice a1 l1 c1 = .slice (some a) len cap := by simpa [Value.cells] using hcs
    unfold maxLen at hm
    have hls : len ≤ ss.length := by rw [hss]; split <;> omega
    refine ⟨some a, len, cap, fun i => ss.getD i 0, hv, fun h0 => ?_, by omega⟩
    obtain ⟨b, off, rfl, hb⟩ := addr_plain (hc 0 (by omega))
    refine ⟨b, off, rfl, hb, fun i hi => ?_, fun i hi => ?_⟩
    · have := hc i (by omega)
      rw [add_plain] at this
      exact this
    · have hi' : i < ss.length := by omega
      have e : ss.getD i 0 = ss[i] := by simp [hi']
      have := hr _ (List.getElem_mem hi')
      simp only [e]
      exact bounds_i64 this
end Go.Proofs.YtbllmpcpfmlemaaGreat
