/- The walks of the methods Levels, Entries and Copy. -/
import Derived.Test.YteognipfnbocpaaT12W4
namespace Go.Proofs.Yteognipfnbocpaa.T12
open Go.RowKit

/-- How many of the first n groups have entries. -/
def levs (m : Nat → Option E) : Nat → Nat
  | 0 => 0
  | n + 1 => levs m n + if used m n 16 = 0 then 0 else 1
theorem levs_le (m : Nat → Option E) (n : Nat) : levs m n ≤ n := by
  induction n with
  | zero => exact Nat.le_refl _
  | succ n ih => unfold levs; split <;> omega
theorem levs_zero {m : Nat → Option E} {n : Nat} (h : used m n 16 = 0) : levs m (n + 1) = levs m n := by simp [levs, h]
theorem levs_succ {m : Nat → Option E} {n : Nat} (h : used m n 16 ≠ 0) : levs m (n + 1) = levs m n + 1 := by simp [levs, h]
theorem TbAt.none_ {w : World} {F : List Nat} {p : Nat} {m : Nat → Option E} {q : Nat → Option Nat} (h : TbAt 16 w F p m q) {k : Nat} (hk : k < 16) (hq : q k = none) : used m k 16 = 0 :=
  (used_zero _ _ _).2 ((h.n k hk (by omega)).1 hq)
theorem TbAt.some_ {w : World} {F : List Nat} {p : Nat} {m : Nat → Option E} {q : Nat → Option Nat} (h : TbAt 16 w F p m q) {k s : Nat} (hk : k < 16) (hq : q k = some s) : used m k 16 ≠ 0 := by
  intro h0
  have := (h.n k hk (by omega)).2 ((used_zero _ _ _).1 h0)
  rw [hq] at this
  cases this

theorem run_idx (cs : Array Value) (k : Nat) (v : Value) (hk : k < 16) (hv : cs[k]? = some v) (w : World) : (Instr.index 91 (.agg cs) (.int .i64 k)).run Try.prog w = .ok v w := by
  have hs : ∀ w, (sizeOf 90).run Try.prog w = .ok 1 w := fun w => by kernel_rfl
  have ha : ∀ w, (isAgg 90).run Try.prog w = .ok false w := fun w => by kernel_rfl
  simp [Instr.index, run_underlying Try.underlying91, asIntOf, part, hs, ha, hv, go_sem]
  intro h
  omega

/-- The entries of the first n pages. -/
def ents (m : Nat → Option E) : Nat → List (Nat × E)
  | 0 => []
  | n + 1 => ents m n ++ (match m n with | none => [] | some e => [(n, e)])
theorem ents_none {m : Nat → Option E} {n : Nat} (h : m n = none) : ents m (n + 1) = ents m n := by simp [ents, h]
theorem ents_some {m : Nat → Option E} {n : Nat} {e : E} (h : m n = some e) : ents m (n + 1) = ents m n ++ [(n, e)] := by simp [ents, h]
theorem ents_len (m : Nat → Option E) (n : Nat) : (ents m n).length ≤ n := by
  induction n with
  | zero => exact Nat.le_refl _
  | succ n ih =>
    cases h : m n with
    | none => rw [ents_none h]; omega
    | some e => rw [ents_some h]; simp; omega
theorem ents_skip {m : Nat → Option E} {a : Nat} (n : Nat) (h : ∀ i, i < n → m (a + i) = none) : ents m (a + n) = ents m a := by
  induction n with
  | zero => rfl
  | succ n ih => rw [← Nat.add_assoc, ents_none (h n (by omega)), ih (fun i hi => h i (by omega))]
def c5 (x : Nat × E) : List Value := [.int .i64 x.1, .int .i64 x.2.fr, .bool x.2.wr, .bool x.2.ac, .bool x.2.di]
/-- A list of entries as cells. -/
def cells5 (l : List (Nat × E)) : List Value := l.flatMap c5
theorem cells5_snoc (l : List (Nat × E)) (x : Nat × E) : cells5 (l ++ [x]) = cells5 l ++ c5 x := by simp [cells5]

set_option maxRecDepth 100000 in
set_option maxHeartbeats 1600000 in
theorem entries_any (w : World) (F : List Nat) (p : Nat) (m : Nat → Option E) (h : TbRep w F p m) :
    Calls Try.prog 30 #[.pointer (some ⟨p, 0, none⟩)] w fun e w' => ∃ v, e = .returned v ∧ w'.ownsRow 0 34 5 v (ents m 256).length (cells5 (ents m 256)) ∧ Keeps [] w w' ∧ ∀ g ∈ fp v, w.heap.size ≤ g := by
  obtain ⟨q, h⟩ := h
  obtain ⟨cs, hb, hz, hc⟩ := h.b
  have HB := Lib.hid hb
  have HC := Lib.hid hc
  have HZ := Lib.hid hz
  clear hc hz
  go_enter Try.func30, Try.ntmps30
  go_wp2_with (refine wpList_load_row rfl 91 _ rfl p rfl 93 cs (0, 0) _ HB.out Try.underlying91 rfl (by rw [HZ.out]; kernel_rfl) ?_)
  go_loopw [3, 11] (fun o i wr => ∃ k : Nat, k ≤ 16 ∧ i = .int .i64 k ∧ wr.ownsRow 0 34 5 o (ents m (16 * k)).length (cells5 (ents m (16 * k))) ∧ Keeps [] w wr ∧ ∀ g ∈ fp o, w.heap.size ≤ g) (fun _ i _ => 16 - (intOf i).toNat)
  case atStart => exact ⟨0, by omega, rfl, World.ownsRow_nil _ _ _ _, Keeps.refl _ _, by simp⟩
  case round =>
    obtain ⟨k, hk, rfl, hown, hkp, hfr⟩ := hrel
    by_cases hlt : k < 16
    · have hi := HC.out k hlt
      cases hq : q k with
      | none =>
        rw [hq] at hi
        have hx := run_idx cs k _ hlt hi
        have HL := Lib.hid (ents_skip 16 ((h.n k hlt (by omega)).1 hq))
        clear hi hq
        go_wp2
        go_roundw
        case rel => exact ⟨k + 1, by omega, by go_num, by rw [show 16 * (k + 1) = 16 * k + 16 by omega, HL.out]; exact hown, hkp, hfr⟩
        case measure => simp [intOf]; omega
      | some s =>
        rw [hq] at hi
        have hx := run_idx cs k _ hlt hi
        obtain ⟨c2, hs⟩ := h.s k s hlt hq
        have tk : decide ((k : Int) < 16) = true := by simp; omega
        clear hi hq
        go_wp2
        obtain ⟨w0, rfl⟩ : ∃ w0 : World, w0 = wr := ⟨_, rfl⟩
        go_loopw [3, 16] (fun o i wr => ∃ j : Nat, j ≤ 16 ∧ i = .int .i64 j ∧ wr.ownsRow 0 34 5 o (ents m (16 * k + j)).length (cells5 (ents m (16 * k + j))) ∧ Keeps [] w wr ∧ ∀ g ∈ fp o, w.heap.size ≤ g) (fun _ i _ => 16 - (intOf i).toNat)
        case atStart => exact ⟨0, by omega, rfl, hown, hkp, hfr⟩
        case round =>
          clear hown hkp hfr hx
          obtain ⟨j, hj, rfl, hown, hkp, hfr⟩ := hrel
          by_cases hjt : j < 16
          · have hs2 := hs.b.keep hkp (by simp)
            have hlen := ents_len m (16 * k + j)
            have a0 : (0 : Int) ≤ (j : Int) := by omega
            have p5 : wr.cell? ⟨s, j * 6 + 5, none⟩ = some (cellv (m (16 * k + j)) (16 * k + j) 5) := (hs2.cell _).trans (hs.c j 5 hjt (by omega))
            cases hm : m (16 * k + j) with
            | none =>
              rw [hm] at p5
              simp only [cellv, Option.isSome_none] at p5
              have HL := Lib.hid (ents_none hm)
              clear hm
              go_wp2
              go_roundw
              case rel => exact ⟨j + 1, by omega, by go_num, by rw [← Nat.add_assoc, HL.out]; exact hown, hkp, hfr⟩
              case measure => simp [intOf]; omega
            | some x =>
              have p0 : wr.cell? ⟨s, j * 6, none⟩ = some (cellv (m (16 * k + j)) (16 * k + j) 0) := (hs2.cell _).trans (hs.c j 0 hjt (by omega))
              have p1 : wr.cell? ⟨s, j * 6 + 1, none⟩ = some (cellv (m (16 * k + j)) (16 * k + j) 1) := (hs2.cell _).trans (hs.c j 1 hjt (by omega))
              have p2 : wr.cell? ⟨s, j * 6 + 2, none⟩ = some (cellv (m (16 * k + j)) (16 * k + j) 2) := (hs2.cell _).trans (hs.c j 2 hjt (by omega))
              have p3 : wr.cell? ⟨s, j * 6 + 3, none⟩ = some (cellv (m (16 * k + j)) (16 * k + j) 3) := (hs2.cell _).trans (hs.c j 3 hjt (by omega))
              have p4 : wr.cell? ⟨s, j * 6 + 4, none⟩ = some (cellv (m (16 * k + j)) (16 * k + j) 4) := (hs2.cell _).trans (hs.c j 4 hjt (by omega))
              rw [hm] at p0 p1 p2 p3 p4 p5
              simp only [cellv, Option.isSome_some] at p0 p1 p2 p3 p4 p5
              have HL := Lib.hid (ents_some hm)
              clear hm hs2
              obtain ⟨A2, cap2, rfl, _, _, _⟩ := own_shape hown
              go_wp2_with (at_builtin; refine wpList_app _ rfl (.tmp 26) (.tmp 34) _ rfl 34 (.agg #[.int .i64 0, .int .i64 0, .bool false, .bool false, .bool false]) 5 24 Try.underlying45 (by kernel_rfl) rfl (by omega) (.slice A2 (ents m (16 * k + j)).length cap2) _ _ rfl (own_keep hown ((Keeps.refl [] _).alloc _) (by simp)) _ _ _ _ (c5 (16 * k + j, x)) rfl (reads_cells wr #[.int .i64 (16 * k + j : Nat), .int .i64 x.fr, .bool x.wr, .bool x.ac, .bool x.di] 1 5 34 rfl) (by simp [c5, Value.oneCell']) (by unfold maxLen; omega) (by omega) ?_)
              intro v' w' ho' hk' hf'
              have hs := hkp.size
              have hk2 : Keeps [] w w' := (hkp.alloc _).trans hk' (fun g hg => .inr (hfr g hg))
              have ho2 : w'.ownsRow 0 34 5 v' (ents m (16 * k + (j + 1))).length (cells5 (ents m (16 * k + (j + 1)))) := by
                rw [← Nat.add_assoc, HL.out, cells5_snoc]; simpa using ho'
              have hf2 : ∀ g ∈ fp v', w.heap.size ≤ g := by
                intro g hg
                rcases hf' g hg with h1 | h1
                · exact hfr g h1
                · omega
              clear ho' hk' hf' hown hkp hfr
              go_wp2
              go_roundw
              case rel => exact ⟨j + 1, by omega, by go_num, ho2, hk2, hf2⟩
              case measure => simp [intOf]; omega
          · obtain rfl : j = 16 := by omega
            go_wp2
            go_roundw
            case rel => exact ⟨k + 1, by omega, by go_num, by rw [show 16 * (k + 1) = 16 * k + 16 by omega]; exact hown, hkp, hfr⟩
            case measure => simp [intOf]; omega
    · obtain rfl : k = 16 := by omega
      go_wp2
      go_ret
      exact ⟨_, rfl, hown, hkp, hfr⟩
end Go.Proofs.Yteognipfnbocpaa.T12
