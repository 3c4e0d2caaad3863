/- The laws' arguments, opened. -/
import Derived.Test.YtcopjjokhjealaaGreatRows
import Derived.Test.YtcopjjokhjealaaGreatClose
import Derived.Test.YtcopjjokhjealaaGreatN20
import Derived.ChangeSlices
namespace Go.Proofs.YtcopjjokhjealaaGreat
open Go.ChangeShapes Go.WideShapes Go.ChangeAt Go.RowKit Go.Deep

theorem own : ownKnob Tryz.prog.godebug = none := by kernel_rfl
theorem laidOut : laidOutB Tryz.prog = true := by kernel_rfl
/-- A list of numbers of any length. -/
theorem open_zs {H : Type} {enc : TypeId × Value → H} {w : World} {base : Nat} {spare : Nat → Bool} {held : Bool} {fuel : Nat} {v : Value} {x : DataW H × List MemPlace}
    (h : DataW.trod enc Tryz.prog w base spare held fuel 22 [v] = some x) : ∃ (A : Option Addr) (c : Nat) (L : List Int), v = .slice A L.length c ∧ L.length ≤ c ∧ L.length ≤ 9223372036854775807 ∧ (L.length ≤ 1000000 → AtZ w A L) ∧ ∀ y ∈ L, -9223372036854775808 ≤ y ∧ y ≤ 9223372036854775807 := by
  rcases Go.ChangeShapes.open_ints Tryz.underlying22 Tryz.underlying3 (by kernel_rfl) h with ⟨hcs, _⟩ | ⟨a, len, cap, ss, hcs, _, hl, hm, hss, _, hc, hr⟩
  · have hv : v = .slice none 0 0 := by simpa using hcs
    exact ⟨none, 0, [], hv, by simp, by simp, fun _ => ⟨fun h => absurd h (by simp), by simp⟩, by simp⟩
  · have hv : v = .slice (some a) len cap := by simpa using hcs
    unfold maxLen at hm
    have hls : len ≤ ss.length := by rw [hss]; split <;> omega
    have hlt : (ss.take len).length = len := by rw [List.length_take]; omega
    refine ⟨some a, cap, ss.take len, by rw [hlt]; exact hv, by omega, by omega, fun hmx => ⟨fun h0 => ?_, hmx⟩, fun y hy => bounds_i64 (hr y (List.mem_of_mem_take hy))⟩
    rw [hlt] at h0
    obtain ⟨b, off, rfl, hb⟩ := addr_plain (hc 0 (by omega))
    refine ⟨b, off, rfl, hb, fun i hi => ?_⟩
    rw [hlt] at hi
    have := hc i (by omega)
    rw [add_plain] at this
    rw [List.getElem_take]
    have e : ss.getD i 0 = ss[i] := by simp [show i < ss.length by omega]
    rw [e] at this
    exact this
set_option maxRecDepth 100000 in
theorem open_its {H : Type} {enc : TypeId × Value → H} {w : World} {base base' : Nat} {spare : Nat → Bool} {held : Bool} {v : Value} {d : DataW H} {ps : List MemPlace} {r : Reach}
    (ho : Value.okWide Tryz.prog w r base' 22 v) (h : DataW.Trod enc Tryz.prog w base spare held 22 v d ps) : ∃ (A : Option Addr) (c : Nat) (L : List Int), v = .slice A L.length c ∧ ItsZ w A L c := by
  obtain ⟨a1, l1, c1, rfl⟩ := okWide_slice Tryz.underlying22 ho
  obtain ⟨fuel, h⟩ := h
  have h' : DataW.trod enc Tryz.prog w base spare held fuel 22 [.slice a1 l1 c1] = some _ := h
  obtain ⟨A, c, L, h1, h0, h2, h3, h4⟩ := open_zs h'
  exact ⟨A, c, L, h1, h2, fun hm => ⟨h3 (by omega), h4⟩, h0⟩
set_option maxRecDepth 100000 in
theorem open_ops {H : Type} {enc : TypeId × Value → H} {w : World} {base base' : Nat} {spare : Nat → Bool} {held : Bool} {v : Value} {d : DataW H} {ps : List MemPlace} {r : Reach}
    (ho : Value.okWide Tryz.prog w r base' 23 v) (h : DataW.Trod enc Tryz.prog w base spare held 23 v d ps) : ∃ (A : Option Addr) (c : Nat) (L : List Op), v = .slice A L.length c ∧ OpsZ w A L := by
  obtain ⟨a1, l1, c1, rfl⟩ := okWide_slice Tryz.underlying23 ho
  obtain ⟨fuel, h⟩ := h
  rcases open_slice_fields (fs := _) Tryz.underlying23 Tryz.underlying34 (by kernel_rfl) (by kernel_rfl) h with ⟨hcs, _⟩ | ⟨a, len, cap, m, D, Pl, hcs, _, hl, hm, hmm, _, hf⟩
  · have hv : Value.slice a1 l1 c1 = .slice none 0 0 := by simpa [Value.cells] using hcs
    exact ⟨none, 0, [], hv, ⟨fun h => absurd h (by simp), by simp, by simp⟩, by simp, by simp⟩
  · have hv : Value.slice a1 l1 c1 = .slice (some a) len cap := by simpa [Value.cells] using hcs
    unfold maxLen at hm
    have hlm : len ≤ m := by rw [hmm]; split <;> omega
    have key : ∀ i, i < len → ∃ x : Op, (w.cell? (a.add (i * 6)) = some (.int .i64 x.d) ∧ w.cell? (a.add (i * 6 + 1)) = some (.int .i64 x.l) ∧ w.cell? (a.add (i * 6 + 2)) = some (.int .i64 x.i) ∧
        w.cell? (a.add (i * 6 + 3)) = some (.int .i64 x.t) ∧ w.cell? (a.add (i * 6 + 4)) = some (.int .i64 x.pd) ∧ w.cell? (a.add (i * 6 + 5)) = some (.slice x.A x.it.length x.c)) ∧
        x.it.length ≤ 9223372036854775807 ∧ (x.it.length ≤ 1000 → OkO x ∧ AtZ w x.A x.it) ∧ x.it.length ≤ x.c := by
      intro i hi
      obtain ⟨ys, n, _, _, _, hj⟩ := hf i (by omega)
      obtain ⟨v0, y0, c0, _, t0⟩ := hj 0 _ rfl
      obtain ⟨v1, y1, c1, _, t1⟩ := hj 1 _ rfl
      obtain ⟨v2, y2, c2, _, t2⟩ := hj 2 _ rfl
      obtain ⟨v3, y3, c3, _, t3⟩ := hj 3 _ rfl
      obtain ⟨v4, y4, c4, _, t4⟩ := hj 4 _ rfl
      obtain ⟨v5, y5, c5, _, t5⟩ := hj 5 _ rfl
      obtain ⟨x0, e0, _, b0⟩ := DataW.trod_int Tryz.underlying3 t0
      obtain ⟨x1, e1, _, b1⟩ := DataW.trod_int Tryz.underlying3 t1
      obtain ⟨x2, e2, _, b2⟩ := DataW.trod_int Tryz.underlying3 t2
      obtain ⟨x3, e3, _, b3⟩ := DataW.trod_int Tryz.underlying3 t3
      obtain ⟨x4, e4, _, b4⟩ := DataW.trod_int Tryz.underlying3 t4
      obtain ⟨A5, cc, L5, rfl, m0, m5, z5, r5⟩ := open_zs t5
      simp only [List.cons.injEq, and_true] at e0 e1 e2 e3 e4
      subst e0 e1 e2 e3 e4
      have g1 := bounds_i64 b1
      have g2 := bounds_i64 b2
      exact ⟨⟨x0, x1, x2, x3, x4, A5, L5, cc⟩, ⟨c0, c1, c2, c3, c4, c5⟩, m5, fun hle => ⟨⟨g1.1, g1.2, g2.1, g2.2, r5, hle⟩, z5 (by have hle : L5.length ≤ 1000 := hle; omega)⟩, m0⟩
    haveI : Inhabited Op := ⟨⟨0, 0, 0, 0, 0, none, [], 0⟩⟩
    obtain ⟨f, hf2⟩ := fun_of key
    have el : ((List.range len).map f).length = len := by simp
    refine ⟨some a, cap, (List.range len).map f, by rw [el]; exact hv, ⟨fun h0 => ?_, by rw [el]; omega, fun x hx => ?_⟩, fun x hx => ?_, fun x hx => ?_⟩
    · rw [el] at h0
      obtain ⟨b, off, rfl, hb⟩ := addr_plain (by simpa using (hf2 0 h0).1.1)
      refine ⟨b, off, rfl, hb, fun k hk => ?_⟩
      rw [el] at hk
      obtain ⟨g0, g1, g2, g3, g4, g5⟩ := (hf2 k hk).1
      rw [add_plain] at g0 g1 g2 g3 g4 g5
      simp only [List.getElem_map, List.getElem_range]
      exact ⟨g0, g1, g2, g3, g4, g5⟩
    · obtain ⟨k, hk, rfl⟩ := List.mem_map.1 hx
      exact (hf2 k (List.mem_range.1 hk)).2.1
    · obtain ⟨k, hk, rfl⟩ := List.mem_map.1 hx
      exact (hf2 k (List.mem_range.1 hk)).2.2.1
    · obtain ⟨k, hk, rfl⟩ := List.mem_map.1 hx
      exact (hf2 k (List.mem_range.1 hk)).2.2.2
end Go.Proofs.YtcopjjokhjealaaGreat
