/- The reference's Deliver and Drop. -/
import Derived.Test.YtipmhhhhfnpdgaaW6
namespace Go.Proofs.Ytipmhhhhfnpdgaa
open Go.RowKit

theorem Next.keep0 {T : TypeId} {w w1 w2 : World} {F : List Nat} {p : Nat} {s : Lk} (hk : Keeps [] w w1) (h : Next T w1 w2 F p s) : Next T w w2 F p s := by
  obtain ⟨F', h1, h2, h3⟩ := h
  exact ⟨F', h1, (hk.mono (G := F) (by simp)).trans h2 (fun g hg => .inl hg), fun g hg => (h3 g hg).imp id (fun h => Nat.le_trans hk.size h)⟩
theorem Next.after {T : TypeId} {w w1 w2 : World} {F : List Nat} {p : Nat} {s : Lk} {G : List Nat} (h : Next T w w1 F p s) (hk : Keeps G w1 w2) (hG : ∀ g ∈ G, w.heap.size ≤ g) (hd : ∀ F', LkRep T w1 F' p s → (∀ g ∈ F', g ∈ F ∨ w.heap.size ≤ g) → ∀ g ∈ F', g ∉ G) : Next T w w2 F p s := by
  obtain ⟨F', h1, h2, h3⟩ := h
  exact ⟨F', h1.keep hk (hd F' h1 h3), h2.trans hk (fun g hg => .inr (hG g hg)), h3⟩

theorem rdeliver_any (w : World) (F : List Nat) (p : Nat) (s : Lk) (i : Int) (h : LkRep 51 w F p s) :
    Calls Try.prog 29 #[.pointer (some ⟨p, 0, none⟩), .int .i64 i] w fun e w' => e = .returned (.tuple #[.agg #[.int .i64 (s.deliver i).1.1, .string (s.deliver i).1.2], .int .i64 (s.deliver i).2.1]) ∧ Next 51 w w' F p (s.deliver i).2.2 := by
  have hh := fun W (h : LkRep 51 W F p s) => rhas_any W F p s i h
  have hk0 : Keeps [] w (w.alloc (.cells #[.int .i64 0, .string E0] 31)) := (Keeps.refl _ _).alloc _
  have h1 := h.keep hk0 (by simp)
  have hlt := h.lt
  cases hb : hasI s.L i
  · have e : s.deliver i = ((0, E0), 4, s) := by unfold Lk.deliver; rw [hb]; rfl
    have H := Lib.hid e; clear e
    go_enter Try.func29, Try.ntmps29
    go_wp2_with fail
    refine (hh _ h1).mono ?_
    rintro e w1 ⟨rfl, rfl⟩
    go_wp2
    go_returns
    rw [H.out]
    exact ⟨rfl, .same h1 (hk0.mono (by simp))⟩
  · obtain ⟨k, rfl, hkl⟩ := hasI_lt hb
    have e : s.deliver (k : Int) = (s.L[k], 0, ⟨s.L.eraseIdx k, s.cut⟩) := by unfold Lk.deliver; rw [hb]; simp [List.getD, hkl]
    have H := Lib.hid e; clear e
    have h0 := h
    obtain ⟨A, cap, g1⟩ := h
    have b1 := g1.b
    have o1 := g1.o
    obtain ⟨_, _, hv, hcap, hmax, hA⟩ := own_shape o1
    obtain ⟨rfl, -, rfl⟩ : A = _ ∧ s.L.length = _ ∧ cap = _ := by injection hv with h1 h2 h3; exact ⟨h1, rfl, h3⟩
    clear hv
    obtain ⟨g, rfl⟩ := hA (by omega)
    have hpl := b1.lt
    have hgl : g < w.heap.size := own_lt o1 (by simp)
    have c0 : w.cell? ⟨p, 0, none⟩ = some (.slice (some ⟨g, 0, none⟩) s.L.length cap) := b1.cell 0
    have q0 : w.cell? ⟨g, k * 2, none⟩ = some (.int .i64 s.L[k].1) := own_cell o1 (pc_at0 _ _ hkl)
    have q1 : w.cell? ⟨g, k * 2 + 1, none⟩ = some (.string s.L[k].2) := own_cell o1 (pc_at1 _ _ hkl)
    have hm := g1.m
    go_enter Try.func29, Try.ntmps29
    go_wp2_with fail
    refine (hh _ h1).mono ?_
    rintro e w1 ⟨rfl, rfl⟩
    go_wp2_with fail
    have kk : Keeps [] w ((w.alloc (.cells #[.int .i64 0, .string E0] 31)).alloc (.cells #[.int .i64 s.L[k].1, .string s.L[k].2] 31)) := ((Keeps.refl _ _).alloc _).alloc _
    refine (remove_any _ F p s k hkl (h0.keep kk (by simp))).mono ?_
    rintro e w2 ⟨rfl, hn2⟩
    have N2 := Next.keep0 kk hn2
    obtain ⟨F', hr2, hk2, hf2⟩ := hn2
    have hF1 : w.heap.size ∉ F := fun hx => by have := hlt _ hx; omega
    have hF2 : w.heap.size + 1 ∉ F := fun hx => by have := hlt _ hx; omega
    have bz : Blk w2 w.heap.size 31 #[.int .i64 0, .string E0] := ((Blk.new w 31 #[.int .i64 0, .string E0]).alloc _).keep hk2 hF1
    have bx : Blk w2 (w.heap.size + 1) 31 #[.int .i64 s.L[k].1, .string s.L[k].2] := by
      have := (Blk.new (w.alloc (.cells #[.int .i64 0, .string E0] 31)) 31 #[.int .i64 s.L[k].1, .string s.L[k].2]).keep hk2 (by simpa using hF2)
      simpa using this
    have d0 := bz.cell 0
    have d1 := bz.cell 1
    have e0 := bx.cell 0
    have e1 := bx.cell 1
    have fz0 := bz.frozen 0
    have fz1 := bz.frozen 1
    have br := (bz.set_ 0 (.int .i64 s.L[k].1)).set_ 1 (.string s.L[k].2)
    have R0 := Lib.hid (br.cell 0)
    have R1 := Lib.hid (br.cell 1)
    have hs2 : w.heap.size + 1 < w2.heap.size := by have := hk2.size; simp at this; omega
    have N3 : Next 51 w ((w2.setCell ⟨w.heap.size, 0, none⟩ (.int .i64 s.L[k].1)).setCell ⟨w.heap.size, 1, none⟩ (.string s.L[k].2)) F p ⟨s.L.eraseIdx k, s.cut⟩ := by
      have hk3 : Keeps [w.heap.size] w2 ((w2.setCell ⟨w.heap.size, 0, none⟩ (.int .i64 s.L[k].1)).setCell ⟨w.heap.size, 1, none⟩ (.string s.L[k].2)) := ((Keeps.refl _ _).setCell (by simp) _).setCell (by simp) _
      refine ⟨F', hr2.keep hk3 (fun g hg hx => ?_), ((kk.mono (G := F) (by simp)).trans hk2 (fun g hg => .inl hg)).trans hk3 (fun g hg => .inr (by simp at hg; omega)), fun g hg => (hf2 g hg).imp id (fun h => by simp at h; omega)⟩
      simp at hx
      subst hx
      rcases hf2 _ hg with h | h
      · exact hF1 h
      · simp at h
        omega
    have NN := Lib.hid N3
    clear N2 hr2 hf2 c0 q0 q1 bz bx br N3
    go_wp2
    refine bodyPost_ret (v := .tuple #[.agg #[.int .i64 s.L[k].1, .string s.L[k].2], .int .i64 0]) (by simp [results, Try.results29, go_sem, R0.out, R1.out]) rfl ?_
    rw [H.out]
    exact ⟨rfl, NN.out⟩

theorem rdrop_any (w : World) (F : List Nat) (p : Nat) (s : Lk) (i : Int) (h : LkRep 51 w F p s) :
    Calls Try.prog 30 #[.pointer (some ⟨p, 0, none⟩), .int .i64 i] w fun e w' => e = .returned (.int .i64 (s.deliver i).2.1) ∧ Next 51 w w' F p (s.deliver i).2.2 := by
  have hh := rhas_any w F p s i h
  cases hb : hasI s.L i
  · have e : s.deliver i = ((0, E0), 4, s) := by unfold Lk.deliver; rw [hb]; rfl
    have H := Lib.hid e; clear e
    go_enter Try.func30, Try.ntmps30
    go_wp2_with fail
    refine hh.mono ?_
    rintro e w1 ⟨rfl, rfl⟩
    go_wp2
    go_ret
    rw [H.out]
    exact ⟨rfl, .same h (Keeps.refl _ _)⟩
  · obtain ⟨k, rfl, hkl⟩ := hasI_lt hb
    have e : s.deliver (k : Int) = (s.L[k], 0, ⟨s.L.eraseIdx k, s.cut⟩) := by unfold Lk.deliver; rw [hb]; simp [List.getD, hkl]
    have H := Lib.hid e; clear e
    go_enter Try.func30, Try.ntmps30
    go_wp2_with fail
    refine hh.mono ?_
    rintro e w1 ⟨rfl, rfl⟩
    go_wp2_with fail
    refine (remove_any _ F p s k hkl h).mono ?_
    rintro e w2 ⟨rfl, hn⟩
    go_wp2
    go_ret
    rw [H.out]
    exact ⟨rfl, hn⟩
end Go.Proofs.Ytipmhhhhfnpdgaa
