/- The walks of the link's methods, the rest. -/
import Derived.Test.YtipmhhhhfnpdgaaW2
namespace Go.Proofs.Ytipmhhhhfnpdgaa
open Go.RowKit

/-- What a method leaves: the link s', in old blocks of its own and in new ones. -/
def Next (T : TypeId) (w w' : World) (F : List Nat) (p : Nat) (s' : Lk) : Prop := ∃ F', LkRep T w' F' p s' ∧ Keeps F w w' ∧ ∀ g ∈ F', g ∈ F ∨ w.heap.size ≤ g
theorem Next.same {T : TypeId} {w w' : World} {F : List Nat} {p : Nat} {s' : Lk} (h : LkRep T w' F p s') (hk : Keeps F w w') : Next T w w' F p s' := ⟨F, h, hk, fun _ hg => .inl hg⟩

theorem reads_pk (W : World) (f : Int) (b : ByteArray) : Reads (W.alloc (.cells #[.int .i64 f, .string b] 31)) (W.heap.size + 1) 2 (some ⟨W.heap.size, 0, none⟩) 1 (pc [(f, b)]) :=
  reads_cells W #[.int .i64 f, .string b] 1 2 31 rfl
theorem info31 : (Try.prog.info? 31).map (fun i => (i.zero, i.size, i.bytes)) = some (some (.agg #[.int .i64 0, .string E0]), 2, 24) := by kernel_rfl

set_option maxRecDepth 100000 in
theorem send_any (w : World) (F : List Nat) (p : Nat) (s : Lk) (f : Int) (b : ByteArray) (h : LkRep 53 w F p s) :
    Calls Try.prog 9 #[.pointer (some ⟨p, 0, none⟩), .int .i64 f, .string b] w fun e w' => e = .returned (.int .i64 (s.send f b).1) ∧ Next 53 w w' F p (s.send f b).2 := by
  have h0 := h
  obtain ⟨A, cap, h⟩ := h
  have c0 : w.cell? ⟨p, 0, none⟩ = some (.slice A s.L.length cap) := h.b.cell 0
  have c1 : w.cell? ⟨p, 1, none⟩ = some (.bool s.cut) := h.b.cell 1
  have hm := h.m
  have hf := h.f
  have hpl := h.b.lt
  by_cases g1 : f = 0 ∨ f = 1
  rotate_left
  · have e : s.send f b = (1, s) := by unfold Lk.send; rw [if_pos (by omega)]
    have H := Lib.hid e; clear e
    have t0 : (f != 0) = true := by simp; omega
    have t1 : (f != 1) = true := by simp; omega
    clear g1
    go_enter Try.func9, Try.ntmps9
    go_wp2
    go_ret
    rw [H.out]
    exact ⟨rfl, .same h0 (Keeps.refl _ _)⟩
  cases hc : s.cut
  rotate_left
  · have e : s.send f b = (28, s) := by unfold Lk.send; rw [if_neg (by omega), if_pos hc]
    have H := Lib.hid e; clear e
    rcases g1 with rfl | rfl
    all_goals
      go_enter Try.func9, Try.ntmps9
      go_wp2
      go_ret
      rw [H.out]
      exact ⟨rfl, .same h0 (Keeps.refl _ _)⟩
  by_cases g2 : 500 ≤ s.L.length
  · have e : s.send f b = (6, s) := by unfold Lk.send; rw [if_neg (by omega), if_neg (by simp [hc]), if_pos g2]
    have H := Lib.hid e; clear e
    rcases g1 with rfl | rfl
    all_goals
      go_enter Try.func9, Try.ntmps9
      go_wp2
      go_ret
      rw [H.out]
      exact ⟨rfl, .same h0 (Keeps.refl _ _)⟩
  have e : s.send f b = (0, ⟨s.L ++ [(1 - f, b)], s.cut⟩) := by unfold Lk.send; rw [if_neg (by omega), if_neg (by simp [hc]), if_neg g2]
  have H := Lib.hid e; clear e
  have hB := h.b
  have ho := h.o
  have ht := h.t
  have hoff := h.off
  clear h0 h
  have key : ∀ (v' : Value) (w1 : World), w1.ownsRow 0 31 2 v' (s.L.length + 1) (pc s.L ++ pc [(1 - f, b)]) → Keeps (fp (.slice A s.L.length cap)) (w.alloc (.cells #[.int .i64 (1 - f), .string b] 31)) w1 → (∀ g ∈ fp v', g ∈ fp (.slice A s.L.length cap) ∨ w.heap.size + 1 ≤ g) →
      ∃ A1 cap1, v' = .slice A1 (s.L.length + 1) cap1 ∧ w1.cell? ⟨p, 0, none⟩ = some (.slice A s.L.length cap) ∧ w1.frozen? ⟨p, 0, none⟩ = false ∧ Next 53 w (w1.setCell ⟨p, 0, none⟩ v') F p ⟨s.L ++ [(1 - f, b)], s.cut⟩ := by
    intro v' w1 ho' hk' hf'
    obtain ⟨A1, cap1, rfl, -, -, -⟩ := own_shape ho'
    have b1 := (hB.alloc (.cells #[.int .i64 (1 - f), .string b] 31)).keep hk' hoff
    refine ⟨A1, cap1, rfl, b1.cell 0, b1.frozen 0, p :: fp (.slice A1 (s.L.length + 1) cap1), ⟨A1, cap1, by simp, ?_, ?_, by simp; omega, ht⟩, ?_, ?_⟩
    · simpa using b1.set_ 0 (.slice A1 (s.L.length + 1) cap1)
    · have hoff1 : p ∉ fp (.slice A1 (s.L.length + 1) cap1) := own_blk_off ho' b1 (by decide)
      have := own_far (p := ⟨p, 0, none⟩) ho' hoff1 (.slice A1 (s.L.length + 1) cap1)
      simpa [pc_append] using this
    · refine (Keeps.trans (F := F) (a := w) (w := w.alloc (.cells #[.int .i64 (1 - f), .string b] 31)) ((Keeps.refl _ _).alloc _) hk' ?_).setCell (.inl (by rw [hf]; simp)) _
      intro g hg
      exact .inl (by rw [hf]; simp [hg])
    · intro g hg
      rcases List.mem_cons.1 hg with rfl | hg
      · exact .inl (by rw [hf]; simp)
      · rcases hf' g hg with h1 | h1
        · exact .inl (by rw [hf]; simp [h1])
        · exact .inr (by omega)
  have K := Lib.hid key
  clear key hf hB hoff
  rcases g1 with rfl | rfl
  all_goals
    go_enter Try.func9, Try.ntmps9
    go_wp2_with (at_builtin; refine wpList_app _ rfl (.tmp 30) (.tmp 35) _ rfl 31 (.agg #[.int .i64 0, .string E0]) 2 24 Try.underlying27 info31 rfl (by omega) (.slice A s.L.length cap) _ _ rfl (own_keep ho ((Keeps.refl [] _).alloc _) (by simp)) _ _ _ _ _ rfl (reads_pk w _ b) (pc_one _) (by unfold maxLen; omega) (by omega) ?_)
    intro v' w1 ho' hk' hf'
    have k1 := K.out v' w1 ho' hk' hf'
    obtain ⟨A1, cap1, rfl, d0, d1, hn⟩ := k1
    have hs1 : w.heap.size < w1.heap.size := by have := hk'.size; simp at this; omega
    clear c0 c1 ho ho' hk' hf' K
    have HN := Lib.hid hn
    clear hn
    go_wp2
    go_ret
    rw [H.out]
    exact ⟨rfl, HN.out⟩
end Go.Proofs.Ytipmhhhhfnpdgaa
