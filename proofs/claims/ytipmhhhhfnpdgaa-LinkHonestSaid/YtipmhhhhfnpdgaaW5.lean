/- Clone, List, Copy. -/
import Derived.Test.YtipmhhhhfnpdgaaW4
namespace Go.Proofs.Ytipmhhhhfnpdgaa
open Go.RowKit

/-- slices.Clone over packets. -/
theorem clone_any (w : World) (A : Option Addr) (n cap : Nat) (xs : List Value) (ho : w.ownsRow 0 31 2 (.slice A n cap) n xs) (h1 : ∀ u ∈ xs, u.oneCell' = true) (hn : n ≤ 1000000) :
    Calls Try.prog 28 #[.slice A n cap] w fun e w' => ∃ v, e = .returned v ∧ w'.ownsRow 0 31 2 v n xs ∧ Keeps [] w w' ∧ ∀ g ∈ fp v, w.heap.size ≤ g := by
  rcases A with _ | a
  · have hx : n = 0 ∧ cap = 0 := by
      rcases ho.2 with ⟨h, h0⟩ | ⟨g, c, cur, h, _⟩
      · injection h with _ _ h2; exact ⟨h0, h2⟩
      · injection h with h; cases h
    obtain ⟨rfl, rfl⟩ := hx
    have he := fun W => Lib.run_eql_slice_nil (P := Try.prog) W 27 31 none 0 0 0 0 Try.underlying27
    go_enter Try.func28, Try.ntmps28
    go_wp2
    go_ret
    exact ⟨_, rfl, ho, Keeps.refl _ _, by simp⟩
  · have he := fun W => Lib.run_eql_slice_nil (P := Try.prog) W 27 31 (some a) n cap 0 0 Try.underlying27
    go_enter Try.func28, Try.ntmps28
    go_wp2_with (at_builtin; refine wpList_app _ rfl (.tmp 5) (.tmp 6) _ rfl 31 (.agg #[.int .i64 0, .string E0]) 2 24 Try.underlying27 info31 rfl (by omega) (.slice (some ⟨w.heap.size, 0, none⟩) 0 0) 0 [] rfl (own_of_blk (Blk.new w 31 #[]) (by omega) (by omega) rfl rfl) _ _ _ _ xs rfl (reads_own (own_keep ho ((Keeps.refl [] _).alloc _) (by simp))) h1 (by unfold maxLen; omega) (by omega) ?_)
    intro v' w' ho' hk' hf'
    go_wp2
    go_ret
    have hk1 : Keeps [] w (w.alloc (.cells #[] 31)) := (Keeps.refl _ _).alloc _
    refine ⟨v', rfl, by simpa using ho', hk1.trans hk' (by simp), fun g hg => ?_⟩
    rcases hf' g hg with h2 | h2
    · have : g = w.heap.size := by simpa using h2
      omega
    · omega

theorem list_any (w : World) (F : List Nat) (p : Nat) (s : Lk) (h : LkRep 53 w F p s) :
    Calls Try.prog 12 #[.pointer (some ⟨p, 0, none⟩)] w fun e w' => ∃ v, e = .returned v ∧ w'.ownsRow 0 31 2 v s.L.length (pc s.L) ∧ Keeps [] w w' ∧ ∀ g ∈ fp v, w.heap.size ≤ g := by
  obtain ⟨A, cap, h⟩ := h
  have c0 : w.cell? ⟨p, 0, none⟩ = some (.slice A s.L.length cap) := h.b.cell 0
  have hm := h.m
  go_enter Try.func12, Try.ntmps12
  go_wp2_with fail
  refine (clone_any w A s.L.length cap _ h.o (pc_one _) (by omega)).mono ?_
  rintro e w1 ⟨v, rfl, ho, hk, hf⟩
  go_wp2
  go_ret
  exact ⟨v, rfl, ho, hk, hf⟩

set_option maxHeartbeats 1000000 in
theorem copy_any (w : World) (F : List Nat) (p : Nat) (s : Lk) (h : LkRep 53 w F p s) :
    Calls Try.prog 22 #[.pointer (some ⟨p, 0, none⟩)] w fun e w' => ∃ F' p', e = .returned (.pointer (some ⟨p', 0, none⟩)) ∧ LkRep 53 w' F' p' s ∧ Keeps [] w w' ∧ ∀ g ∈ F', w.heap.size ≤ g := by
  obtain ⟨A, cap, h⟩ := h
  have c0 : w.cell? ⟨p, 0, none⟩ = some (.slice A s.L.length cap) := h.b.cell 0
  have c1 : w.cell? ⟨p, 1, none⟩ = some (.bool s.cut) := h.b.cell 1
  have hm := h.m
  have HB := Lib.hid h.b
  have HO := Lib.hid (own_keep h.o ((Keeps.refl [] w).drew) (by simp))
  clear h
  go_enter Try.func22, Try.ntmps22
  go_wp2_with fail
  go_region_held3 (fun w' => w'.cell? ⟨p, 0, none⟩ = some (.slice A s.L.length cap) ∧ w'.cell? ⟨p, 1, none⟩ = some (.bool s.cut))
    (first
      | go_keep
      | (go_split_ands
         exact ⟨((HB.out.drew).keep hk1 (by simp)).cell 0, ((HB.out.drew).keep hk1 (by simp)).cell 1⟩))
    ((first
      | (go_at_call 28; refine (clone_any _ A s.L.length cap _ HO.out (pc_one _) (by omega)).mono ?_; rintro e w1 ⟨v, rfl, ho1, hk1, hf1⟩; obtain ⟨A1, cap1, rfl, -, -, -⟩ := own_shape ho1)))
  go_wp2
  go_ret
  have hs : w.heap.size ≤ w1.heap.size := hk1.size
  refine ⟨w1.heap.size :: fp (.slice A1 s.L.length cap1), w1.heap.size, rfl, ⟨A1, cap1, rfl, Blk.new _ _ _, own_keep ho1 ((Keeps.refl [] _).alloc _) (by simp), hm, by decide⟩, ?_, ?_⟩
  · exact (((Keeps.refl [] w).drew).trans hk1 (by simp)).alloc _
  · intro g hg
    rcases List.mem_cons.1 hg with rfl | hg
    · exact hs
    · exact hf1 g hg
end Go.Proofs.Ytipmhhhhfnpdgaa
