/- Arguments that are areas and lists of areas, opened. -/
import Derived.Test.YtiffjaociblboaaRows
import Derived.Test.YtiffjaociblboaaClose
import Derived.Test.YtiffjaociblboaaW22
namespace Go.Proofs.Ytiffjaociblboaa
open Go.ChangeShapes Go.WideShapes Go.ChangeAt Go.RowKit Go.Deep

theorem own : ownKnob Try.prog.godebug = none := by kernel_rfl
theorem laidOut : laidOutB Try.prog = true := by kernel_rfl

set_option maxRecDepth 100000 in
theorem open_areas {H : Type} {enc : TypeId × Value → H} {w : World} {base base' : Nat} {spare : Nat → Bool} {held : Bool} {v : Value} {d : DataW H} {ps : List MemPlace} {r : Reach}
    (ho : Value.okWide Try.prog w r base' 22 v) (h : DataW.Trod enc Try.prog w base spare held 22 v d ps) : ∃ (A : Option Addr) (c : Nat) (L : List Ar), v = .slice A L.length c ∧ AtB w A L := by
  obtain ⟨a1, l1, c1, rfl⟩ := okWide_slice Try.underlying22 ho
  obtain ⟨fuel, h⟩ := h
  rcases open_slice_fields (fs := _) Try.underlying22 Try.underlying24 (by kernel_rfl) (by kernel_rfl) h with ⟨hcs, _⟩ | ⟨a, len, cap, m, D, Pl, hcs, _, hl, hm, hmm, _, hf⟩
  · have hv : Value.slice a1 l1 c1 = .slice none 0 0 := by simpa [Value.cells] using hcs
    exact ⟨none, 0, [], hv, fun h => absurd h (by simp), by simp⟩
  · have hv : Value.slice a1 l1 c1 = .slice (some a) len cap := by simpa [Value.cells] using hcs
    unfold maxLen at hm
    have hlm : len ≤ m := by rw [hmm]; split <;> omega
    have key : ∀ i, i < len → ∃ x : Ar, w.cell? (a.add (i * 6)) = some (.int .i64 x.a) ∧ w.cell? (a.add (i * 6 + 1)) = some (.int .i64 x.n) ∧ w.cell? (a.add (i * 6 + 2)) = some (.string x.o) ∧
        w.cell? (a.add (i * 6 + 3)) = some (.int .i64 x.f) ∧ w.cell? (a.add (i * 6 + 4)) = some (.bool x.s) ∧ w.cell? (a.add (i * 6 + 5)) = some (.bool x.w) := by
      intro i hi
      obtain ⟨ys, n, _, _, _, hj⟩ := hf i (by omega)
      obtain ⟨v0, y0, c0, _, t0⟩ := hj 0 _ rfl
      obtain ⟨v1, y1, c1, _, t1⟩ := hj 1 _ rfl
      obtain ⟨v2, y2, c2, _, t2⟩ := hj 2 _ rfl
      obtain ⟨v3, y3, c3, _, t3⟩ := hj 3 _ rfl
      obtain ⟨v4, y4, c4, _, t4⟩ := hj 4 _ rfl
      obtain ⟨v5, y5, c5, _, t5⟩ := hj 5 _ rfl
      obtain ⟨x0, e0, _, _⟩ := DataW.trod_int Try.underlying3 t0
      obtain ⟨x1, e1, _, _⟩ := DataW.trod_int Try.underlying3 t1
      obtain ⟨x2, e2, _, _⟩ := DataW.trod_string Try.underlying9 t2
      obtain ⟨x3, e3, _, _⟩ := DataW.trod_int Try.underlying3 t3
      obtain ⟨x4, e4, _⟩ := DataW.trod_bool Try.underlying4 t4
      obtain ⟨x5, e5, _⟩ := DataW.trod_bool Try.underlying4 t5
      simp only [List.cons.injEq, and_true] at e0 e1 e2 e3 e4 e5
      subst e0 e1 e2 e3 e4 e5
      exact ⟨⟨x0, x1, x2, x3, x4, x5⟩, c0, c1, c2, c3, c4, c5⟩
    haveI : Inhabited Ar := ⟨zA⟩
    obtain ⟨f, hf2⟩ := fun_of key
    have el : ((List.range len).map f).length = len := by simp
    refine ⟨some a, cap, (List.range len).map f, by rw [el]; exact hv, fun h0 => ?_, by rw [el]; omega⟩
    rw [el] at h0
    obtain ⟨b, off, rfl, hb⟩ := addr_plain (by simpa using (hf2 0 h0).1)
    refine ⟨b, off, rfl, hb, fun k hk => ?_⟩
    rw [el] at hk
    obtain ⟨g0, g1, g2, g3, g4, g5⟩ := hf2 k hk
    rw [add_plain] at g0 g1 g2 g3 g4 g5
    simp only [List.getElem_map, List.getElem_range]
    exact ⟨g0, g1, g2, g3, g4, g5⟩

set_option maxRecDepth 100000 in
theorem open_area {H : Type} {enc : TypeId × Value → H} {w : World} {base base' : Nat} {spare : Nat → Bool} {held : Bool} {v : Value} {d : DataW H} {ps : List MemPlace} {r : Reach}
    (ho : Value.okWide Try.prog w r base' 24 v) (h : DataW.Trod enc Try.prog w base spare held 24 v d ps) : ∃ x : Ar, v = x.v := by
  obtain ⟨cs, rfl, hs⟩ := okWide_struct Try.underlying24 ho
  obtain ⟨fuel, h⟩ := h
  obtain ⟨ys, n', hn', hy, hlen, hyl, hf⟩ := DataW.trod_struct Try.underlying24 h
  have h6 : cs.size = 6 := hs.trans (by kernel_rfl)
  obtain ⟨c0, c1, c2, c3, c4, c5, rfl⟩ : ∃ c0 c1 c2 c3 c4 c5, cs = #[c0, c1, c2, c3, c4, c5] := ⟨cs[0], cs[1], cs[2], cs[3], cs[4], cs[5], by
    apply Array.ext
    · simp [h6]
    · intro i h1 h2
      rcases i with _ | _ | _ | _ | _ | _ | i
      all_goals first | rfl | (exfalso; simp at h2; omega)⟩
  have e3 : Try.prog.cellsOf 3 = 1 := by kernel_rfl
  have e9 : Try.prog.cellsOf 9 = 1 := by kernel_rfl
  have e4 : Try.prog.cellsOf 4 = 1 := by kernel_rfl
  have hl : ys.length = 6 := hyl
  have g0 : DataW.trod enc Try.prog w base spare held n' 3 (List.take (Try.prog.cellsOf 3) (List.drop 0 [c0, c1, c2, c3, c4, c5])) = ys[0]? := hf 0 _ rfl
  have g1 : DataW.trod enc Try.prog w base spare held n' 3 (List.take (Try.prog.cellsOf 3) (List.drop 1 [c0, c1, c2, c3, c4, c5])) = ys[1]? := hf 1 _ rfl
  have g2 : DataW.trod enc Try.prog w base spare held n' 9 (List.take (Try.prog.cellsOf 9) (List.drop 2 [c0, c1, c2, c3, c4, c5])) = ys[2]? := hf 2 _ rfl
  have g3 : DataW.trod enc Try.prog w base spare held n' 3 (List.take (Try.prog.cellsOf 3) (List.drop 3 [c0, c1, c2, c3, c4, c5])) = ys[3]? := hf 3 _ rfl
  have g4 : DataW.trod enc Try.prog w base spare held n' 4 (List.take (Try.prog.cellsOf 4) (List.drop 4 [c0, c1, c2, c3, c4, c5])) = ys[4]? := hf 4 _ rfl
  have g5 : DataW.trod enc Try.prog w base spare held n' 4 (List.take (Try.prog.cellsOf 4) (List.drop 5 [c0, c1, c2, c3, c4, c5])) = ys[5]? := hf 5 _ rfl
  rw [e3, List.getElem?_eq_getElem (by omega)] at g0 g1 g3
  rw [e9, List.getElem?_eq_getElem (by omega)] at g2
  rw [e4, List.getElem?_eq_getElem (by omega)] at g4 g5
  obtain ⟨x0, r0, _, _⟩ := DataW.trod_int Try.underlying3 g0
  obtain ⟨x1, r1, _, _⟩ := DataW.trod_int Try.underlying3 g1
  obtain ⟨x2, r2, _, _⟩ := DataW.trod_string Try.underlying9 g2
  obtain ⟨x3, r3, _, _⟩ := DataW.trod_int Try.underlying3 g3
  obtain ⟨x4, r4, _⟩ := DataW.trod_bool Try.underlying4 g4
  obtain ⟨x5, r5, _⟩ := DataW.trod_bool Try.underlying4 g5
  simp at r0 r1 r2 r3 r4 r5
  subst r0 r1 r2 r3 r4 r5
  exact ⟨⟨x0, x1, x2, x3, x4, x5⟩, rfl⟩
end Go.Proofs.Ytiffjaociblboaa
