/- Texts of the elder seat, turned to this one: Ops. -/
import Derived.Test.YtbllmpcpfmlemaaGreatRows
import Derived.Test.YtbllmpcpfmlemaaGreatClose
import Derived.Test.YtbllmpcpfmlemaaGreatZB
import Derived.ChangeSlices
import Derived.SliceStrings
namespace Go.Proofs.YtbllmpcpfmlemaaGreat
open Go.ChangeShapes Go.WideShapes Go.ChangeAt Go.RowKit Go.Deep
theorem own : ownKnob Tryz.prog.godebug = none := by kernel_rfl
theorem laidOut : laidOutB Tryz.prog = true := by kernel_rfl
def strOf (b : ByteArray) : Str := b.data.toList
theorem sv_of (b : ByteArray) : sv (strOf b) = .string b := by unfold strOf sv; rw [bs_of]
/-- A list of strings of any length. -/
theorem open_ss {H : Type} {enc : TypeId × Value → H} {w : World} {base : Nat} {spare : Nat → Bool} {held : Bool} {fuel : Nat} {v : Value} {x : DataW H × List MemPlace}
    (h : DataW.trod enc Tryz.prog w base spare held fuel 29 [v] = some x) : ∃ (A : Option Addr) (c : Nat) (L : List Str), v = .slice A L.length c ∧ L.length ≤ 9223372036854775807 ∧ (L.length ≤ 1000000 → AtS w A L) := by
  rcases open_strings Tryz.underlying29 Tryz.underlying9 (by kernel_rfl) h with ⟨hcs, _⟩ | ⟨a, len, cap, ss, hcs, _, hl, hm, hss, _, hc, _⟩
  · have hv : v = .slice none 0 0 := by simpa using hcs
    exact ⟨none, 0, [], hv, by simp, fun _ => ⟨fun h => absurd h (by simp), by simp⟩⟩
  · have hv : v = .slice (some a) len cap := by simpa using hcs
    unfold maxLen at hm
    have hls : len ≤ ss.length := by rw [hss]; split <;> omega
    have hlt : ((ss.take len).map strOf).length = len := by rw [List.length_map, List.length_take]; omega
    refine ⟨some a, cap, (ss.take len).map strOf, by rw [hlt]; exact hv, by omega, fun hmx => ⟨fun h0 => ?_, hmx⟩⟩
    rw [hlt] at h0
    obtain ⟨b, off, rfl, hb⟩ := addr_plain (hc 0 (by omega))
    refine ⟨b, off, rfl, hb, fun i hi => ?_⟩
    rw [hlt] at hi
    have := hc i (by omega)
    rw [add_plain] at this
    have e : ss.getD i ByteArray.empty = ss[i] := by simp [show i < ss.length by omega]
    rw [e] at this
    rw [List.getElem_map, sv_of, List.getElem_take]
    exact this
set_option maxRecDepth 100000 in
theorem open_op9 {H : Type} {enc : TypeId × Value → H} {w : World} {base : Nat} {spare : Nat → Bool} {held : Bool} {n : Nat} {cs : List Value} {y : DataW H × List MemPlace} (hl : cs.length = 9)
    (h : DataW.trod enc Tryz.prog w base spare held n 36 cs = some y) : ∃ q : Oq, cs = q.cells.toList ∧ q.x.r.list.length ≤ 9223372036854775807 ∧ (q.x.r.list.length ≤ 1000 → AtS w q.A q.x.r.list) ∧ I64 q.x.dw ∧ I64 q.x.who ∧ I64 q.x.n ∧ I64 q.x.r.kind := by
  obtain ⟨c0, c1, c2, c3, c4, c5, c6, c7, c8, rfl⟩ : ∃ c0 c1 c2 c3 c4 c5 c6 c7 c8, cs = [c0, c1, c2, c3, c4, c5, c6, c7, c8] := by
    match cs, hl with
    | [c0, c1, c2, c3, c4, c5, c6, c7, c8], _ => exact ⟨c0, c1, c2, c3, c4, c5, c6, c7, c8, rfl⟩
  obtain ⟨ys, n', _, _, _, hyl, hf⟩ := DataW.trod_struct Tryz.underlying36 h
  have hy : ys.length = 6 := hyl
  have e3 : Tryz.prog.cellsOf 3 = 1 := by kernel_rfl
  have e9 : Tryz.prog.cellsOf 9 = 1 := by kernel_rfl
  have e32 : Tryz.prog.cellsOf 34 = 4 := by kernel_rfl
  have e27 : Tryz.prog.cellsOf 29 = 1 := by kernel_rfl
  have g0 : DataW.trod enc Tryz.prog w base spare held n' 3 (List.take (Tryz.prog.cellsOf 3) (List.drop 0 [c0, c1, c2, c3, c4, c5, c6, c7, c8])) = ys[0]? := hf 0 _ rfl
  have g1 : DataW.trod enc Tryz.prog w base spare held n' 3 (List.take (Tryz.prog.cellsOf 3) (List.drop 1 [c0, c1, c2, c3, c4, c5, c6, c7, c8])) = ys[1]? := hf 1 _ rfl
  have g2 : DataW.trod enc Tryz.prog w base spare held n' 3 (List.take (Tryz.prog.cellsOf 3) (List.drop 2 [c0, c1, c2, c3, c4, c5, c6, c7, c8])) = ys[2]? := hf 2 _ rfl
  have g3 : DataW.trod enc Tryz.prog w base spare held n' 9 (List.take (Tryz.prog.cellsOf 9) (List.drop 3 [c0, c1, c2, c3, c4, c5, c6, c7, c8])) = ys[3]? := hf 3 _ rfl
  have g4 : DataW.trod enc Tryz.prog w base spare held n' 9 (List.take (Tryz.prog.cellsOf 9) (List.drop 4 [c0, c1, c2, c3, c4, c5, c6, c7, c8])) = ys[4]? := hf 4 _ rfl
  have g5 : DataW.trod enc Tryz.prog w base spare held n' 34 (List.take (Tryz.prog.cellsOf 34) (List.drop 5 [c0, c1, c2, c3, c4, c5, c6, c7, c8])) = ys[5]? := hf 5 _ rfl
  rw [e3, List.getElem?_eq_getElem (by omega)] at g0 g1 g2
  rw [e9, List.getElem?_eq_getElem (by omega)] at g3 g4
  rw [e32, List.getElem?_eq_getElem (by omega)] at g5
  obtain ⟨zs, n2, _, _, _, hzl, hf2⟩ := DataW.trod_struct Tryz.underlying34 g5
  have hz : zs.length = 4 := hzl
  have k0 : DataW.trod enc Tryz.prog w base spare held n2 3 (List.take (Tryz.prog.cellsOf 3) (List.drop 0 [c5, c6, c7, c8])) = zs[0]? := hf2 0 _ rfl
  have k1 : DataW.trod enc Tryz.prog w base spare held n2 9 (List.take (Tryz.prog.cellsOf 9) (List.drop 1 [c5, c6, c7, c8])) = zs[1]? := hf2 1 _ rfl
  have k2 : DataW.trod enc Tryz.prog w base spare held n2 9 (List.take (Tryz.prog.cellsOf 9) (List.drop 2 [c5, c6, c7, c8])) = zs[2]? := hf2 2 _ rfl
  have k3 : DataW.trod enc Tryz.prog w base spare held n2 29 (List.take (Tryz.prog.cellsOf 29) (List.drop 3 [c5, c6, c7, c8])) = zs[3]? := hf2 3 _ rfl
  rw [e3, List.getElem?_eq_getElem (by omega)] at k0
  rw [e9, List.getElem?_eq_getElem (by omega)] at k1 k2
  rw [e27, List.getElem?_eq_getElem (by omega)] at k3
  obtain ⟨x0, r0, _, b0⟩ := DataW.trod_int Tryz.underlying3 g0
  obtain ⟨x1, r1, _, b1⟩ := DataW.trod_int Tryz.underlying3 g1
  obtain ⟨x2, r2, _, b2⟩ := DataW.trod_int Tryz.underlying3 g2
  obtain ⟨x3, r3, _, _⟩ := DataW.trod_string Tryz.underlying9 g3
  obtain ⟨x4, r4, _, _⟩ := DataW.trod_string Tryz.underlying9 g4
  obtain ⟨x5, r5, _, b5⟩ := DataW.trod_int Tryz.underlying3 k0
  obtain ⟨x6, r6, _, _⟩ := DataW.trod_string Tryz.underlying9 k1
  obtain ⟨x7, r7, _, _⟩ := DataW.trod_string Tryz.underlying9 k2
  obtain ⟨A, cc, L, r8, m8, z8⟩ := open_ss k3
  simp at r0 r1 r2 r3 r4 r5 r6 r7
  subst r0 r1 r2 r3 r4 r5 r6 r7 r8
  refine ⟨⟨⟨x0, x1, x2, strOf x3, strOf x4, x5, strOf x6, strOf x7, L⟩, A, cc⟩, ?_, m8, fun hle => z8 (by have : L.length ≤ 1000 := hle; omega), bounds_i64 b0, bounds_i64 b1, bounds_i64 b2, bounds_i64 b5⟩
  simp only [Oq.cells, sv_of]
set_option maxRecDepth 100000 in
theorem open_ops {H : Type} {enc : TypeId × Value → H} {w : World} {base base' : Nat} {spare : Nat → Bool} {held : Bool} {v : Value} {d : DataW H} {ps : List MemPlace} {r : Reach}
    (ho : Value.okWide Tryz.prog w r base' 22 v) (h : DataW.Trod enc Tryz.prog w base spare held 22 v d ps) : ∃ (A : Option Addr) (c : Nat) (L : List Oq), v = .slice A L.length c ∧ AtO w A L := by
  obtain ⟨a1, l1, c1, rfl⟩ := okWide_slice Tryz.underlying22 ho
  obtain ⟨fuel, h⟩ := h
  rcases open_slice Tryz.underlying22 h with ⟨hcs, _⟩ | ⟨a, len, cap, m, n, D, Pl, hcs, _, hl, hm, hmm, _, hf⟩
  · have hv : Value.slice a1 l1 c1 = .slice none 0 0 := by simpa [Value.cells] using hcs
    exact ⟨none, 0, [], hv, ⟨fun h => absurd h (by simp), by simp, by simp, by simp, by simp⟩⟩
  · have hv : Value.slice a1 l1 c1 = .slice (some a) len cap := by simpa [Value.cells] using hcs
    unfold maxLen at hm
    have hlm : len ≤ m := by rw [hmm]; split <;> omega
    have e34 : Tryz.prog.cellsOf 36 = 9 := by kernel_rfl
    rw [e34] at hf
    have key : ∀ i, i < len → ∃ q : Oq, (∀ j, j < 9 → w.cell? (a.add (i * 9 + j)) = q.cells[j]?) ∧ q.x.r.list.length ≤ 9223372036854775807 ∧ (q.x.r.list.length ≤ 1000 → AtS w q.A q.x.r.list) ∧ I64 q.x.dw ∧ I64 q.x.who ∧ I64 q.x.n ∧ I64 q.x.r.kind := by
      intro i hi
      obtain ⟨cs', hc, ht⟩ := hf i (by omega)
      obtain ⟨_, hcl, hat⟩ := World.cells?_some hc
      obtain ⟨q, hq, h2⟩ := open_op9 hcl ht
      refine ⟨q, fun j hj => ?_, h2⟩
      rw [← Go.Deep.add_add, hat j hj, hq]
      simp
    haveI : Inhabited Oq := ⟨⟨⟨0, 0, 0, [], [], 0, [], [], []⟩, none, 0⟩⟩
    obtain ⟨f, hf2⟩ := fun_of key
    have el : ((List.range len).map f).length = len := by simp
    refine ⟨some a, cap, (List.range len).map f, by rw [el]; exact hv, ⟨fun h0 => ?_, by rw [el]; omega, fun x hx => ?_, fun x hx => ?_, fun x hx => ?_⟩⟩
    · rw [el] at h0
      obtain ⟨b, off, rfl, hb⟩ := addr_plain (v := .int .i64 (f 0).x.dw) (by simpa [Oq.cells] using (hf2 0 h0).1 0 (by omega))
      refine ⟨b, off, rfl, hb, fun k hk => ?_⟩
      rw [el] at hk
      have g := (hf2 k hk).1
      simp only [add_plain] at g
      simp only [List.getElem_map, List.getElem_range]
      exact ⟨g 0 (by omega), g 1 (by omega), g 2 (by omega), g 3 (by omega), g 4 (by omega), g 5 (by omega), g 6 (by omega), g 7 (by omega), g 8 (by omega)⟩
    · obtain ⟨k, hk, rfl⟩ := List.mem_map.1 hx
      exact (hf2 k (List.mem_range.1 hk)).2.1
    · obtain ⟨k, hk, rfl⟩ := List.mem_map.1 hx
      exact (hf2 k (List.mem_range.1 hk)).2.2.1
    · obtain ⟨k, hk, rfl⟩ := List.mem_map.1 hx
      exact (hf2 k (List.mem_range.1 hk)).2.2.2
end Go.Proofs.YtbllmpcpfmlemaaGreat
