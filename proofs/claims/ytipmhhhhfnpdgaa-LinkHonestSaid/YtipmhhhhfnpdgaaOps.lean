/- An argument that is a list of operations, opened. -/
import Derived.Test.YtipmhhhhfnpdgaaRows
import Derived.Test.YtipmhhhhfnpdgaaClose
import Derived.Test.YtipmhhhhfnpdgaaW6
namespace Go.Proofs.Ytipmhhhhfnpdgaa
open Go.ChangeShapes Go.WideShapes Go.ChangeAt Go.RowKit Go.Deep

theorem own : ownKnob Try.prog.godebug = none := by kernel_rfl
theorem laidOut : laidOutB Try.prog = true := by kernel_rfl

theorem open_ops {H : Type} {enc : TypeId × Value → H} {w : World} {base base' : Nat} {spare : Nat → Bool} {held : Bool} {v : Value} {d : DataW H} {ps : List MemPlace} {r : Reach}
    (ho : Value.okWide Try.prog w r base' 40 v) (h : DataW.Trod enc Try.prog w base spare held 40 v d ps) : ∃ (A : Option Addr) (n c : Nat) (d m : Nat → Int) (b : Nat → ByteArray), v = .slice A n c ∧ n ≤ 9223372036854775807 ∧ (0 < n → ∃ bl off, A = some ⟨bl, off, none⟩ ∧ OpsAt w bl off n d m b) := by
  obtain ⟨a1, l1, c1, rfl⟩ := okWide_slice Try.underlying40 ho
  obtain ⟨fuel, h⟩ := h
  rcases open_slice_fields (fs := _) Try.underlying40 Try.underlying44 (by kernel_rfl) (by kernel_rfl) h with ⟨hcs, _⟩ | ⟨a, len, cap, m, D, Pl, hcs, _, hl, hm, hmm, _, hf⟩
  · have hv : Value.slice a1 l1 c1 = .slice none 0 0 := by simpa [Value.cells] using hcs
    exact ⟨none, 0, 0, fun _ => 0, fun _ => 0, fun _ => E0, hv, by omega, fun h => absurd h (by omega)⟩
  · have hv : Value.slice a1 l1 c1 = .slice (some a) len cap := by simpa [Value.cells] using hcs
    unfold maxLen at hm
    have hlm : len ≤ m := by rw [hmm]; split <;> omega
    have key : ∀ i, i < len → ∃ x : Int × Int × ByteArray, w.cell? (a.add (i * 3)) = some (.int .i64 x.1) ∧ w.cell? (a.add (i * 3 + 1)) = some (.int .i64 x.2.1) ∧ w.cell? (a.add (i * 3 + 2)) = some (.string x.2.2) ∧
        (-9223372036854775808 ≤ x.1 ∧ x.1 ≤ 9223372036854775807) ∧ (-9223372036854775808 ≤ x.2.1 ∧ x.2.1 ≤ 9223372036854775807) := by
      intro i hi
      obtain ⟨ys, n, _, _, _, hj⟩ := hf i (by omega)
      obtain ⟨v0, y0, c0, _, t0⟩ := hj 0 _ rfl
      obtain ⟨v1, y1, c1, _, t1⟩ := hj 1 _ rfl
      obtain ⟨v2, y2, c2, _, t2⟩ := hj 2 _ rfl
      obtain ⟨x0, e0, _, w0⟩ := DataW.trod_int Try.underlying3 t0
      obtain ⟨x1, e1, _, w1⟩ := DataW.trod_int Try.underlying3 t1
      obtain ⟨x2, e2, _, _⟩ := DataW.trod_string Try.underlying9 t2
      simp only [List.cons.injEq, and_true] at e0 e1 e2
      subst e0 e1 e2
      exact ⟨⟨x0, x1, x2⟩, c0, c1, c2, bounds_i64 w0, bounds_i64 w1⟩
    obtain ⟨f, hf2⟩ := fun_of key
    refine ⟨some a, len, cap, fun i => (f i).1, fun i => (f i).2.1, fun i => (f i).2.2, hv, by omega, fun h0 => ?_⟩
    obtain ⟨b, off, rfl, hb⟩ := addr_plain (by simpa using (hf2 0 h0).1)
    refine ⟨b, off, rfl, hb, fun i hi => ?_, fun i hi => ?_, fun i hi => ?_, fun i hi => (hf2 i hi).2.2.2.1, fun i hi => (hf2 i hi).2.2.2.2⟩
    · have := (hf2 i hi).1
      rw [add_plain] at this
      exact this
    · have := (hf2 i hi).2.1
      rw [add_plain] at this
      exact this
    · have := (hf2 i hi).2.2.1
      rw [add_plain] at this
      exact this
end Go.Proofs.Ytipmhhhhfnpdgaa
