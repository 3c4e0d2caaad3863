/- Texts of elder seats, turned to this one. -/
import Derived.Test.YteognipfnbocpaaGreatRows
import Derived.Test.YteognipfnbocpaaGreatClose
import Derived.Test.YteognipfnbocpaaGreatW12
namespace Go.Proofs.YteognipfnbocpaaGreat
open Go.ChangeShapes Go.WideShapes Go.ChangeAt Go.RowKit Go.Deep

instance : Inhabited Op := ⟨⟨0, 0, 0, 0, 0, false⟩⟩
theorem own : ownKnob Tryz.prog.godebug = none := by kernel_rfl
theorem laidOut : laidOutB Tryz.prog = true := by kernel_rfl

/-- The argument's operations lie from ⟨bl, off⟩ on. -/
structure OpsAt (w : World) (bl off n : Nat) (f : Nat → Op) : Prop where
  lt : bl < w.heap.size
  c0 : ∀ i, i < n → w.cell? ⟨bl, off + i * 6, none⟩ = some (.int .i64 (f i).d)
  c1 : ∀ i, i < n → w.cell? ⟨bl, off + i * 6 + 1, none⟩ = some (.int .i64 (f i).cpu)
  c2 : ∀ i, i < n → w.cell? ⟨bl, off + i * 6 + 2, none⟩ = some (.int .i64 (f i).x)
  c3 : ∀ i, i < n → w.cell? ⟨bl, off + i * 6 + 3, none⟩ = some (.int .i64 (f i).pg)
  c4 : ∀ i, i < n → w.cell? ⟨bl, off + i * 6 + 4, none⟩ = some (.int .i64 (f i).fr)
  c5 : ∀ i, i < n → w.cell? ⟨bl, off + i * 6 + 5, none⟩ = some (.bool (f i).wr)
  wf : ∀ i, i < n → (f i).Wf
theorem OpsAt.keep {w w' : World} {bl off n : Nat} {f : Nat → Op} (h : OpsAt w bl off n f) (hk : Keeps [] w w') : OpsAt w' bl off n f :=
  ⟨Nat.lt_of_lt_of_le h.lt hk.size, fun i hi => (hk.cell (p := ⟨bl, _, none⟩) h.lt (by simp)).trans (h.c0 i hi), fun i hi => (hk.cell (p := ⟨bl, _, none⟩) h.lt (by simp)).trans (h.c1 i hi),
    fun i hi => (hk.cell (p := ⟨bl, _, none⟩) h.lt (by simp)).trans (h.c2 i hi), fun i hi => (hk.cell (p := ⟨bl, _, none⟩) h.lt (by simp)).trans (h.c3 i hi), fun i hi => (hk.cell (p := ⟨bl, _, none⟩) h.lt (by simp)).trans (h.c4 i hi), fun i hi => (hk.cell (p := ⟨bl, _, none⟩) h.lt (by simp)).trans (h.c5 i hi), h.wf⟩

set_option maxRecDepth 100000 in
theorem open_ops {H : Type} {enc : TypeId × Value → H} {w : World} {base base' : Nat} {spare : Nat → Bool} {held : Bool} {v : Value} {d : DataW H} {ps : List MemPlace} {r : Reach}
    (ho : Value.okWide Tryz.prog w r base' 22 v) (h : DataW.Trod enc Tryz.prog w base spare held 22 v d ps) : ∃ (A : Option Addr) (n c : Nat) (f : Nat → Op), v = .slice A n c ∧ n ≤ 9223372036854775807 ∧ (0 < n → ∃ bl off, A = some ⟨bl, off, none⟩ ∧ OpsAt w bl off n f) := by
  obtain ⟨a1, l1, c1, rfl⟩ := okWide_slice Tryz.underlying22 ho
  obtain ⟨fuel, h⟩ := h
  rcases open_slice_fields (fs := _) Tryz.underlying22 Tryz.underlying29 (by kernel_rfl) (by kernel_rfl) h with ⟨hcs, _⟩ | ⟨a, len, cap, m, D, Pl, hcs, _, hl, hm, hmm, _, hf⟩
  · have hv : Value.slice a1 l1 c1 = .slice none 0 0 := by simpa [Value.cells] using hcs
    exact ⟨none, 0, 0, fun _ => default, hv, by omega, fun h => absurd h (by omega)⟩
  · have hv : Value.slice a1 l1 c1 = .slice (some a) len cap := by simpa [Value.cells] using hcs
    unfold maxLen at hm
    have hlm : len ≤ m := by rw [hmm]; split <;> omega
    have key : ∀ i, i < len → ∃ x : Op, w.cell? (a.add (i * 6)) = some (.int .i64 x.d) ∧ w.cell? (a.add (i * 6 + 1)) = some (.int .i64 x.cpu) ∧ w.cell? (a.add (i * 6 + 2)) = some (.int .i64 x.x) ∧
        w.cell? (a.add (i * 6 + 3)) = some (.int .i64 x.pg) ∧ w.cell? (a.add (i * 6 + 4)) = some (.int .i64 x.fr) ∧ w.cell? (a.add (i * 6 + 5)) = some (.bool x.wr) ∧ x.Wf := by
      intro i hi
      obtain ⟨ys, n, _, _, _, hj⟩ := hf i (by omega)
      obtain ⟨v0, y0, c0, _, t0⟩ := hj 0 _ rfl
      obtain ⟨v1, y1, c1, _, t1⟩ := hj 1 _ rfl
      obtain ⟨v2, y2, c2, _, t2⟩ := hj 2 _ rfl
      obtain ⟨v3, y3, c3, _, t3⟩ := hj 3 _ rfl
      obtain ⟨v4, y4, c4, _, t4⟩ := hj 4 _ rfl
      obtain ⟨v5, y5, c5, _, t5⟩ := hj 5 _ rfl
      obtain ⟨x0, e0, _, w0⟩ := DataW.trod_int Tryz.underlying3 t0
      obtain ⟨x1, e1, _, w1⟩ := DataW.trod_int Tryz.underlying3 t1
      obtain ⟨x2, e2, _, w2⟩ := DataW.trod_int Tryz.underlying3 t2
      obtain ⟨x3, e3, _, w3⟩ := DataW.trod_int Tryz.underlying3 t3
      obtain ⟨x4, e4, _, w4⟩ := DataW.trod_int Tryz.underlying3 t4
      obtain ⟨x5, e5, _⟩ := DataW.trod_bool Tryz.underlying4 t5
      simp only [List.cons.injEq, and_true] at e0 e1 e2 e3 e4 e5
      subst e0 e1 e2 e3 e4 e5
      exact ⟨⟨x0, x1, x2, x3, x4, x5⟩, c0, c1, c2, c3, c4, c5, ⟨(bounds_i64 w2).1, (bounds_i64 w2).2, (bounds_i64 w3).1, (bounds_i64 w3).2, (bounds_i64 w4).1, (bounds_i64 w4).2⟩⟩
    obtain ⟨f, hf2⟩ := fun_of key
    refine ⟨some a, len, cap, f, hv, by omega, fun h0 => ?_⟩
    obtain ⟨b, off, rfl, hb⟩ := addr_plain (by simpa using (hf2 0 h0).1)
    refine ⟨b, off, rfl, hb, fun i hi => ?_, fun i hi => ?_, fun i hi => ?_, fun i hi => ?_, fun i hi => ?_, fun i hi => ?_, fun i hi => (hf2 i hi).2.2.2.2.2.2⟩
    · have := (hf2 i hi).1
      rw [add_plain] at this
      exact this
    · have := (hf2 i hi).2.1
      rw [add_plain] at this
      exact this
    · have := (hf2 i hi).2.2.1
      rw [add_plain] at this
      exact this
    · have := (hf2 i hi).2.2.2.1
      rw [add_plain] at this
      exact this
    · have := (hf2 i hi).2.2.2.2.1
      rw [add_plain] at this
      exact this
    · have := (hf2 i hi).2.2.2.2.2.1
      rw [add_plain] at this
      exact this
end Go.Proofs.YteognipfnbocpaaGreat
