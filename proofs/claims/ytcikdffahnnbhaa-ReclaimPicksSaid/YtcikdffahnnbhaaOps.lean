/- An argument that is a list of calls, opened. -/
import Derived.Test.YtcikdffahnnbhaaRows
import Derived.Test.YtcikdffahnnbhaaClose
import Derived.Test.YtcikdffahnnbhaaP1
namespace Go.Proofs.Ytcikdffahnnbhaa
open Go.ChangeShapes Go.WideShapes Go.ChangeAt Go.RowKit Go.Deep

theorem own : ownKnob Try.prog.godebug = none := by kernel_rfl
theorem laidOut : laidOutB Try.prog = true := by kernel_rfl

/-- The argument's operations lie from ⟨bl, off⟩ on. -/
structure ActsAt (w : World) (bl off n : Nat) (d f o : Nat → Int) : Prop where
  lt : bl < w.heap.size
  c0 : ∀ i, i < n → w.cell? ⟨bl, off + i * 3, none⟩ = some (.int .i64 (d i))
  c1 : ∀ i, i < n → w.cell? ⟨bl, off + i * 3 + 1, none⟩ = some (.int .i64 (f i))
  c2 : ∀ i, i < n → w.cell? ⟨bl, off + i * 3 + 2, none⟩ = some (.int .i64 (o i))
  rf : ∀ i, i < n → -9223372036854775808 ≤ f i ∧ f i ≤ 9223372036854775807
  ro : ∀ i, i < n → -9223372036854775808 ≤ o i ∧ o i ≤ 9223372036854775807
theorem ActsAt.keep {w w' : World} {bl off n : Nat} {d f o : Nat → Int} (h : ActsAt w bl off n d f o) (hk : Keeps [] w w') : ActsAt w' bl off n d f o :=
  ⟨Nat.lt_of_lt_of_le h.lt hk.size, fun i hi => (hk.cell (p := ⟨bl, _, none⟩) h.lt (by simp)).trans (h.c0 i hi), fun i hi => (hk.cell (p := ⟨bl, _, none⟩) h.lt (by simp)).trans (h.c1 i hi),
    fun i hi => (hk.cell (p := ⟨bl, _, none⟩) h.lt (by simp)).trans (h.c2 i hi), h.rf, h.ro⟩

theorem open_acts {H : Type} {enc : TypeId × Value → H} {w : World} {base base' : Nat} {spare : Nat → Bool} {held : Bool} {v : Value} {d : DataW H} {ps : List MemPlace} {r : Reach}
    (ho : Value.okWide Try.prog w r base' 22 v) (h : DataW.Trod enc Try.prog w base spare held 22 v d ps) : ∃ (A : Option Addr) (n c : Nat) (d f o : Nat → Int), v = .slice A n c ∧ n ≤ 9223372036854775807 ∧ (0 < n → ∃ bl off, A = some ⟨bl, off, none⟩ ∧ ActsAt w bl off n d f o) := by
  obtain ⟨a1, l1, c1, rfl⟩ := okWide_slice Try.underlying22 ho
  obtain ⟨fuel, h⟩ := h
  rcases open_slice_fields (fs := _) Try.underlying22 Try.underlying29 (by kernel_rfl) (by kernel_rfl) h with ⟨hcs, _⟩ | ⟨a, len, cap, m, D, Pl, hcs, _, hl, hm, hmm, _, hf⟩
  · have hv : Value.slice a1 l1 c1 = .slice none 0 0 := by simpa [Value.cells] using hcs
    exact ⟨none, 0, 0, fun _ => 0, fun _ => 0, fun _ => 0, hv, by omega, fun h => absurd h (by omega)⟩
  · have hv : Value.slice a1 l1 c1 = .slice (some a) len cap := by simpa [Value.cells] using hcs
    unfold maxLen at hm
    have hlm : len ≤ m := by rw [hmm]; split <;> omega
    have key : ∀ i, i < len → ∃ x : Int × Int × Int, w.cell? (a.add (i * 3)) = some (.int .i64 x.1) ∧ w.cell? (a.add (i * 3 + 1)) = some (.int .i64 x.2.1) ∧ w.cell? (a.add (i * 3 + 2)) = some (.int .i64 x.2.2) ∧
        (-9223372036854775808 ≤ x.2.1 ∧ x.2.1 ≤ 9223372036854775807) ∧ (-9223372036854775808 ≤ x.2.2 ∧ x.2.2 ≤ 9223372036854775807) := by
      intro i hi
      obtain ⟨ys, n, _, _, _, hj⟩ := hf i (by omega)
      obtain ⟨v0, y0, c0, _, t0⟩ := hj 0 _ rfl
      obtain ⟨v1, y1, c1, _, t1⟩ := hj 1 _ rfl
      obtain ⟨v2, y2, c2, _, t2⟩ := hj 2 _ rfl
      obtain ⟨x0, e0, _, w0⟩ := DataW.trod_int Try.underlying3 t0
      obtain ⟨x1, e1, _, w1⟩ := DataW.trod_int Try.underlying3 t1
      obtain ⟨x2, e2, _, w2⟩ := DataW.trod_int Try.underlying3 t2
      simp only [List.cons.injEq, and_true] at e0 e1 e2
      subst e0 e1 e2
      exact ⟨⟨x0, x1, x2⟩, c0, c1, c2, bounds_i64 w1, bounds_i64 w2⟩
    obtain ⟨f, hf2⟩ := fun_of key
    refine ⟨some a, len, cap, fun i => (f i).1, fun i => (f i).2.1, fun i => (f i).2.2, hv, by omega, fun h0 => ?_⟩
    obtain ⟨b, off, rfl, hb⟩ := addr_plain (by simpa using (hf2 0 h0).1)
    refine ⟨b, off, rfl, hb, fun i hi => ?_, fun i hi => ?_, fun i hi => ?_, fun i hi => (hf2 i hi).2.2.2.1, fun i hi => (hf2 i hi).2.2.2.2⟩
    · have := (hf2 i hi).1
      rw [add_plain] at this
      exact this
    · have := (hf2 i hi).2.1
      rw [add_plain] at this
      exact this
    · have := (hf2 i hi).2.2.1
      rw [add_plain] at this
      exact this
end Go.Proofs.Ytcikdffahnnbhaa
