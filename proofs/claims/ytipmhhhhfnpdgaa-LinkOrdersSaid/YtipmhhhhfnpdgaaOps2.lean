/- Arguments that are lists of strings and of numbers, opened. -/
import Derived.Test.YtipmhhhhfnpdgaaOps
import Derived.Test.YtipmhhhhfnpdgaaW10
import Derived.SliceStrings
namespace Go.Proofs.Ytipmhhhhfnpdgaa
open Go.ChangeShapes Go.WideShapes Go.ChangeAt Go.RowKit Go.Deep

theorem open_strs {H : Type} {enc : TypeId × Value → H} {w : World} {base base' : Nat} {spare : Nat → Bool} {held : Bool} {v : Value} {d : DataW H} {ps : List MemPlace} {r : Reach}
    (ho : Value.okWide Try.prog w r base' 22 v) (h : DataW.Trod enc Try.prog w base spare held 22 v d ps) : ∃ (A : Option Addr) (n c : Nat) (b : Nat → ByteArray), v = .slice A n c ∧ (0 < n → ∃ bl off, A = some ⟨bl, off, none⟩ ∧ StrsAt w bl off n b) ∧ n ≤ 9223372036854775807 := by
  obtain ⟨a1, l1, c1, rfl⟩ := okWide_slice Try.underlying22 ho
  obtain ⟨fuel, h⟩ := h
  rcases open_strings Try.underlying22 Try.underlying9 (by kernel_rfl) h with ⟨hcs, _⟩ | ⟨a, len, cap, ss, hcs, _, hl, hm, hss, _, hc, _⟩
  · have hv : Value.slice a1 l1 c1 = .slice none 0 0 := by simpa [Value.cells] using hcs
    exact ⟨none, 0, 0, fun _ => E0, hv, fun h => absurd h (by omega), by omega⟩
  · have hv : Value.slice a1 l1 c1 = .slice (some a) len cap := by simpa [Value.cells] using hcs
    unfold maxLen at hm
    have hls : len ≤ ss.length := by rw [hss]; split <;> omega
    refine ⟨some a, len, cap, fun i => ss.getD i ByteArray.empty, hv, fun h0 => ?_, by omega⟩
    obtain ⟨b, off, rfl, hb⟩ := addr_plain (hc 0 (by omega))
    refine ⟨b, off, rfl, hb, fun i hi => ?_⟩
    have := hc i (by omega)
    rw [add_plain] at this
    exact this

theorem open_ints {H : Type} {enc : TypeId × Value → H} {w : World} {base base' : Nat} {spare : Nat → Bool} {held : Bool} {v : Value} {d : DataW H} {ps : List MemPlace} {r : Reach}
    (ho : Value.okWide Try.prog w r base' 23 v) (h : DataW.Trod enc Try.prog w base spare held 23 v d ps) : ∃ (A : Option Addr) (n c : Nat) (z : Nat → Int), v = .slice A n c ∧ (0 < n → ∃ bl off, A = some ⟨bl, off, none⟩ ∧ IntsAt w bl off n z) ∧ n ≤ 9223372036854775807 := by
  obtain ⟨a1, l1, c1, rfl⟩ := okWide_slice Try.underlying23 ho
  obtain ⟨fuel, h⟩ := h
  rcases Go.ChangeShapes.open_ints Try.underlying23 Try.underlying3 (by kernel_rfl) h with ⟨hcs, _⟩ | ⟨a, len, cap, ss, hcs, _, hl, hm, hss, _, hc, hr⟩
  · have hv : Value.slice a1 l1 c1 = .slice none 0 0 := by simpa [Value.cells] using hcs
    exact ⟨none, 0, 0, fun _ => 0, hv, fun h => absurd h (by omega), by omega⟩
  · have hv : Value.slice a1 l1 c1 = .slice (some a) len cap := by simpa [Value.cells] using hcs
    unfold maxLen at hm
    have hls : len ≤ ss.length := by rw [hss]; split <;> omega
    refine ⟨some a, len, cap, fun i => ss.getD i 0, hv, fun h0 => ?_, by omega⟩
    obtain ⟨b, off, rfl, hb⟩ := addr_plain (hc 0 (by omega))
    refine ⟨b, off, rfl, hb, fun i hi => ?_, fun i hi => ?_⟩
    · have := hc i (by omega)
      rw [add_plain] at this
      exact this
    · have hi' : i < ss.length := by omega
      have e : ss.getD i 0 = ss[i] := by simp [hi']
      have := hr _ (List.getElem_mem hi')
      simp only [e]
      exact bounds_i64 this
end Go.Proofs.Ytipmhhhhfnpdgaa
