/- The walks of the clock's methods: New, has, Owner, Used, Work, over. -/
import Derived.Test.YtcikdffahnnbhaaP1
import Derived.BigRegion
import Derived.Deep.QuietTactic
import Derived.BigQuiet
import Derived.WalkLawsBesides
import Derived.WalkSpells
import Derived.Handy
import Derived.Deep.RegionHeld3
import Derived.Laws.MakeOwn
namespace Go.Proofs.Ytcikdffahnnbhaa
open Go.RowKit

theorem info48 : (Try.prog.info? 48).map (fun i => (i.zero, i.size, i.bytes)) = some (some (.agg #[.bool false, .bool false, .bool false, .int .i64 0]), 4, 16) := by kernel_rfl
theorem made_cells (n : Nat) : (madeCells #[.bool false, .bool false, .bool false, .int .i64 0] (n * 4)).toList = cells4 (List.replicate n fr0) := by
  apply List.ext_getElem?
  intro k
  by_cases hk : k < n * 4
  · have h1 : k / 4 < n := by omega
    have h2 := cells4_at (List.replicate n fr0) (k / 4) (k % 4) (by simpa using h1) (by omega)
    rw [show k / 4 * 4 + k % 4 = k by omega] at h2
    rw [h2]
    simp only [List.getElem_replicate]
    have : k % 4 = 0 ∨ k % 4 = 1 ∨ k % 4 = 2 ∨ k % 4 = 3 := by omega
    unfold madeCells
    rcases this with h | h | h | h <;> simp [hk, h, c4, fr0]
  · rw [List.getElem?_eq_none (by simp [madeCells]; omega), List.getElem?_eq_none (by rw [cells4_len]; simp; omega)]

/-- A clock of n free frames. -/
def ck0 (n : Nat) : Ck := ⟨List.replicate n fr0, 0, fun _ => 0, fun _ => 0, fun _ => 0, 0⟩

set_option maxRecDepth 100000 in
set_option maxHeartbeats 800000 in
theorem new_any (w : World) (n : Nat) (h0 : 0 < n) (h1 : n ≤ 40) : Calls Try.prog 7 #[.int .i64 n] w fun e w' => ∃ F p, e = .returned (.pointer (some ⟨p, 0, none⟩)) ∧ CkRep w' F p (ck0 n) ∧ Keeps [] w w' ∧ ∀ g ∈ F, w.heap.size ≤ g := by
  have hmm := @run_makeMap Try.prog
  obtain ⟨i0, hi0, hz, hsz, hby⟩ := info_parts info48
  have hmk : ∀ W : World, (Instr.makeSlice 42 (.int .i64 n) (.int .i64 n)).run Try.prog W = .ok (.slice (some ⟨W.heap.size, 0, none⟩) n n) (W.alloc (.cells (madeCells #[.bool false, .bool false, .bool false, .int .i64 0] (n * 4)) 48)) := fun W => by
    have := run_make W 42 48 i0 _ Try.underlying42 hi0 hz .i64 .i64 n n (by omega) (by omega) (by rw [hby]; omega) (by omega)
    rw [hsz] at this
    exact this
  have hmx : max 0 (min (n : Int) 4096) = n := by omega
  have hmx2 : min (max (n : Int) 0) 4096 = n := by omega
  have HS : (madeCells #[.bool false, .bool false, .bool false, .int .i64 0] (n * 4)).size = n * 4 := size_madeCells _ _
  have HC := made_cells n
  generalize madeCells #[.bool false, .bool false, .bool false, .int .i64 0] (n * 4) = cs at *
  have HS := Lib.hid HS
  have HC := Lib.hid HC
  clear hi0 hz hsz hby
  go_enter Try.func7, Try.ntmps7
  go_wp2
  go_ret
  have kk : Keeps [] w (((((w.alloc (.cells cs 48)).alloc (.map #[] 0)).alloc (.map #[] 0)).alloc (.map #[] 0)).alloc (.cells #[.slice (some ⟨w.heap.size, 0, none⟩) n n, .int .i64 0, .map (some (w.heap.size + 1)), .map (some (w.heap.size + 1 + 1)), .map (some (w.heap.size + 1 + 1 + 1))] 45)) := (((((Keeps.refl _ _).alloc _).alloc _).alloc _).alloc _).alloc _
  have bo : Blk (w.alloc (.cells cs 48)) w.heap.size 48 cs := Blk.new _ _ _
  have m1 : MapAt ((w.alloc (.cells cs 48)).alloc (.map #[] 0)) (w.heap.size + 1) 0 (fun _ => 0) := by simpa using MapAt.made (w.alloc (.cells cs 48))
  have m2 : MapAt (((w.alloc (.cells cs 48)).alloc (.map #[] 0)).alloc (.map #[] 0)) (w.heap.size + 1 + 1) 0 (fun _ => 0) := by simpa using MapAt.made ((w.alloc (.cells cs 48)).alloc (.map #[] 0))
  have m3 : MapAt ((((w.alloc (.cells cs 48)).alloc (.map #[] 0)).alloc (.map #[] 0)).alloc (.map #[] 0)) (w.heap.size + 1 + 1 + 1) 0 (fun _ => 0) := by simpa using MapAt.made (((w.alloc (.cells cs 48)).alloc (.map #[] 0)).alloc (.map #[] 0))
  have b5 : Blk (((((w.alloc (.cells cs 48)).alloc (.map #[] 0)).alloc (.map #[] 0)).alloc (.map #[] 0)).alloc (.cells #[.slice (some ⟨w.heap.size, 0, none⟩) n n, .int .i64 0, .map (some (w.heap.size + 1)), .map (some (w.heap.size + 1 + 1)), .map (some (w.heap.size + 1 + 1 + 1))] 45)) (w.heap.size + 1 + 1 + 1 + 1) 45 #[.slice (some ⟨w.heap.size, 0, none⟩) n n, .int .i64 0, .map (some (w.heap.size + 1)), .map (some (w.heap.size + 1 + 1)), .map (some (w.heap.size + 1 + 1 + 1))] := by
    simpa using Blk.new ((((w.alloc (.cells cs 48)).alloc (.map #[] 0)).alloc (.map #[] 0)).alloc (.map #[] 0)) 45 #[.slice (some ⟨w.heap.size, 0, none⟩) n n, .int .i64 0, .map (some (w.heap.size + 1)), .map (some (w.heap.size + 1 + 1)), .map (some (w.heap.size + 1 + 1 + 1))]
  have hl : (ck0 n).L.length = n := by simp [ck0]
  refine ⟨[w.heap.size + 1 + 1 + 1 + 1, w.heap.size, w.heap.size + 1, w.heap.size + 1 + 1, w.heap.size + 1 + 1 + 1], w.heap.size + 1 + 1 + 1 + 1, rfl, ⟨w.heap.size, n, w.heap.size + 1, w.heap.size + 1 + 1, w.heap.size + 1 + 1 + 1, (by intro x; simp), by rw [hl]; exact b5, ?_, by rw [hl]; exact h0, by rw [hl]; exact h1, by rw [hl]; exact h0, ((m1.alloc _).alloc _).alloc _, (m2.alloc _).alloc _, m3.alloc _, by omega, by omega, by omega, fun _ => ⟨by simp [ck0], by simp [ck0]⟩, fun _ => ⟨by simp [ck0], by simp [ck0]⟩, fun _ => ⟨by simp [ck0], by simp [ck0]⟩, fun i hi => by simp [ck0, fr0]⟩, kk, ?_⟩
  · rw [hl]
    exact own_of_blk ((((bo.alloc _).alloc _).alloc _).alloc _) (by omega) (by unfold maxLen; omega) HS.out (by rw [show (ck0 n).L = List.replicate n fr0 from rfl, ← HC.out, List.take_of_length_le (by simp [HS.out])])
  · intro g hg
    simp at hg
    omega

/-- The facts that a walk reads off the clock. -/
theorem CkAt.e0 {w : World} {F : List Nat} {p : Nat} {s : Ck} {g cap bu bn bb : Nat} (h : CkAt w F p s g cap bu bn bb) : w.cell? ⟨p, 0, none⟩ = some (.slice (some ⟨g, 0, none⟩) s.L.length cap) := h.b.cell 0
theorem CkAt.e1 {w : World} {F : List Nat} {p : Nat} {s : Ck} {g cap bu bn bb : Nat} (h : CkAt w F p s g cap bu bn bb) : w.cell? ⟨p, 1, none⟩ = some (.int .i64 s.h) := h.b.cell 1
theorem CkAt.e2 {w : World} {F : List Nat} {p : Nat} {s : Ck} {g cap bu bn bb : Nat} (h : CkAt w F p s g cap bu bn bb) : w.cell? ⟨p, 2, none⟩ = some (.map (some bu)) := h.b.cell 2
theorem CkAt.e3 {w : World} {F : List Nat} {p : Nat} {s : Ck} {g cap bu bn bb : Nat} (h : CkAt w F p s g cap bu bn bb) : w.cell? ⟨p, 3, none⟩ = some (.map (some bn)) := h.b.cell 3
theorem CkAt.e4 {w : World} {F : List Nat} {p : Nat} {s : Ck} {g cap bu bn bb : Nat} (h : CkAt w F p s g cap bu bn bb) : w.cell? ⟨p, 4, none⟩ = some (.map (some bb)) := h.b.cell 4

theorem has_any (w : World) (F : List Nat) (p : Nat) (s : Ck) (f : Int) (h : CkRep w F p s) :
    Calls Try.prog 19 #[.pointer (some ⟨p, 0, none⟩), .int .i64 f] w fun e w' => e = .returned (.bool (s.has f)) ∧ w = w' := by
  obtain ⟨g, cap, bu, bn, bb, h⟩ := h
  have c0 := h.e0
  have hl := h.l1
  clear h
  by_cases a0 : 0 ≤ f
  · by_cases a1 : f < s.L.length
    · have H := Lib.hid (show s.has f = true by simp [Ck.has, a0, a1])
      go_enter Try.func19, Try.ntmps19
      go_wp2
      go_ret
      exact ⟨ret_bool H.out.symm, rfl⟩
    · have H := Lib.hid (show s.has f = false by simp [Ck.has, a1])
      go_enter Try.func19, Try.ntmps19
      go_wp2
      go_ret
      exact ⟨ret_bool H.out.symm, rfl⟩
  · have H := Lib.hid (show s.has f = false by simp [Ck.has, a0])
    go_enter Try.func19, Try.ntmps19
    go_wp2
    go_ret
    exact ⟨ret_bool H.out.symm, rfl⟩
end Go.Proofs.Ytcikdffahnnbhaa
