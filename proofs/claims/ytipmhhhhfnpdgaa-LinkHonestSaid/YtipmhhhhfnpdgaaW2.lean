/- The walks of the link's methods, more. -/
import Derived.Test.YtipmhhhhfnpdgaaW1
namespace Go.Proofs.Ytipmhhhhfnpdgaa
open Go.RowKit

theorem deliver_any (w : World) (F : List Nat) (p : Nat) (s : Lk) (i : Int) (h : LkRep 53 w F p s) :
    Calls Try.prog 10 #[.pointer (some ⟨p, 0, none⟩), .int .i64 i] w fun e w' => e = .returned (.tuple #[.agg #[.int .i64 (s.deliver i).1.1, .string (s.deliver i).1.2], .int .i64 (s.deliver i).2.1]) ∧ LkRep 53 w' F p (s.deliver i).2.2 ∧ Keeps F w w' := by
  have hh := fun W (h : LkRep 53 W F p s) => has_any W F p s i h
  have hk0 : Keeps F w (w.alloc (.cells #[.int .i64 0, .string E0] 31)) := (Keeps.refl _ _).alloc _
  have h1 := h.keep (G := []) ((Keeps.refl [] w).alloc (.cells #[.int .i64 0, .string E0] 31)) (by simp)
  have hlt := h.lt
  cases hb : hasI s.L i
  · have e : s.deliver i = ((0, E0), 4, s) := by unfold Lk.deliver; rw [hb]; rfl
    have H := Lib.hid e; clear e
    go_enter Try.func10, Try.ntmps10
    go_wp2_with fail
    refine (hh _ h1).mono ?_
    rintro e w1 ⟨rfl, rfl⟩
    go_wp2
    go_returns
    rw [H.out]
    exact ⟨rfl, h1, hk0⟩
  · obtain ⟨k, rfl, hkl⟩ := hasI_lt hb
    have e : s.deliver (k : Int) = (s.L[k], 0, ⟨s.L.eraseIdx k, s.cut⟩) := by unfold Lk.deliver; rw [hb]; simp [List.getD, hkl]
    have H := Lib.hid e; clear e
    have h0 := h
    obtain ⟨A, cap, g1⟩ := h
    have b1 := g1.b
    have o1 := g1.o
    obtain ⟨_, _, hv, hcap, hmax, hA⟩ := own_shape o1
    obtain ⟨rfl, -, rfl⟩ : A = _ ∧ s.L.length = _ ∧ cap = _ := by injection hv with h1 h2 h3; exact ⟨h1, rfl, h3⟩
    clear hv
    obtain ⟨g, rfl⟩ := hA (by omega)
    have hoff : p ∉ fp (.slice (some ⟨g, 0, none⟩) s.L.length cap) := g1.off
    have hpg : p ≠ g := by simpa using hoff
    have hpl := b1.lt
    have hgl : g < w.heap.size := own_lt o1 (by simp)
    have c0 : w.cell? ⟨p, 0, none⟩ = some (.slice (some ⟨g, 0, none⟩) s.L.length cap) := b1.cell 0
    have q0 : w.cell? ⟨g, k * 2, none⟩ = some (.int .i64 s.L[k].1) := own_cell o1 (pc_at0 _ _ hkl)
    have q1 : w.cell? ⟨g, k * 2 + 1, none⟩ = some (.string s.L[k].2) := own_cell o1 (pc_at1 _ _ hkl)
    have hm := g1.m
    have hf := g1.f
    go_enter Try.func10, Try.ntmps10
    go_wp2_with fail
    refine (hh _ h1).mono ?_
    rintro e w1 ⟨rfl, rfl⟩
    go_wp2_with fail
    have kk : Keeps [] w ((w.alloc (.cells #[.int .i64 0, .string E0] 31)).alloc (.cells #[.int .i64 s.L[k].1, .string s.L[k].2] 31)) := ((Keeps.refl _ _).alloc _).alloc _
    refine (delete_any _ g s.L.length cap k _ (own_keep o1 kk (by simp)) (pc_one _) hkl (by omega)).mono ?_
    rintro e w2 ⟨rfl, ho2, hk2⟩
    have d0 : w2.cell? ⟨w.heap.size, 0, none⟩ = some (.int .i64 0) := (((Blk.new w 31 #[.int .i64 0, .string E0]).alloc _).keep hk2 (by simp; omega)).cell 0
    have d1 : w2.cell? ⟨w.heap.size, 1, none⟩ = some (.string E0) := (((Blk.new w 31 #[.int .i64 0, .string E0]).alloc _).keep hk2 (by simp; omega)).cell 1
    have e0 : w2.cell? ⟨w.heap.size + 1, 0, none⟩ = some (.int .i64 s.L[k].1) := by
      have := ((Blk.new (w.alloc (.cells #[.int .i64 0, .string E0] 31)) 31 #[.int .i64 s.L[k].1, .string s.L[k].2]).keep hk2 (by simp; omega)).cell 0
      simpa using this
    have e1 : w2.cell? ⟨w.heap.size + 1, 1, none⟩ = some (.string s.L[k].2) := by
      have := ((Blk.new (w.alloc (.cells #[.int .i64 0, .string E0] 31)) 31 #[.int .i64 s.L[k].1, .string s.L[k].2]).keep hk2 (by simp; omega)).cell 1
      simpa using this
    have fz := (((Blk.new w 31 #[.int .i64 0, .string E0]).alloc (.cells #[.int .i64 s.L[k].1, .string s.L[k].2] 31)).keep hk2 (by simp; omega)).frozen
    have fz0 := fz 0
    have fz1 := fz 1
    clear fz
    have b2 := (b1.keep kk (by simp)).keep hk2 (by simp; exact hpg)
    have c2 : w2.cell? ⟨p, 0, none⟩ = some (.slice (some ⟨g, 0, none⟩) s.L.length cap) := b2.cell 0
    have f2 := b2.frozen 0
    have hs2 : w.heap.size + 1 < w2.heap.size := by have := hk2.size; simp at this; omega
    clear c0 q0 q1
    have hlen : (s.L.eraseIdx k).length = s.L.length - 1 := List.length_eraseIdx_of_lt hkl
    have HL := Lib.hid hlen
    clear hlen
    have bz : Blk w2 w.heap.size 31 #[.int .i64 0, .string E0] := ((Blk.new w 31 #[.int .i64 0, .string E0]).alloc _).keep hk2 (by simp; omega)
    have br := ((bz.far (p := ⟨p, 0, none⟩) (by simp; omega) (.slice (some ⟨g, 0, none⟩) (s.L.length - 1) cap)).set_ 0 (.int .i64 s.L[k].1)).set_ 1 (.string s.L[k].2)
    have r0 := br.cell 0
    have r1 := br.cell 1
    have R0 := Lib.hid r0
    have R1 := Lib.hid r1
    clear r0 r1 bz br
    go_wp2
    refine bodyPost_ret (v := .tuple #[.agg #[.int .i64 s.L[k].1, .string s.L[k].2], .int .i64 0]) (by simp [results, Try.results10, go_sem, R0.out, R1.out]) rfl ?_
    rw [H.out]
    refine ⟨rfl, ⟨some ⟨g, 0, none⟩, cap, ?_, ?_, ?_, ?_, by decide⟩, ?_⟩
    · rw [hf]; rfl
    · have hb3 := ((b2.set_ 0 (.slice (some ⟨g, 0, none⟩) (s.L.length - 1) cap)).far (p := ⟨w.heap.size, 0, none⟩) (by simp; omega) (.int .i64 s.L[k].1)).far (p := ⟨w.heap.size, 1, none⟩) (by simp; omega) (.string s.L[k].2)
      simp only [HL.out]
      exact hb3
    · have hx3 := own_far (p := ⟨w.heap.size, 1, none⟩) (own_far (p := ⟨w.heap.size, 0, none⟩) (own_far (p := ⟨p, 0, none⟩) ho2 (by simpa using hpg) (.slice (some ⟨g, 0, none⟩) (s.L.length - 1) cap)) (by simp; omega) (.int .i64 s.L[k].1)) (by simp; omega) (.string s.L[k].2)
      rw [← pc_erase] at hx3
      simp only [HL.out]
      exact hx3
    · simp only [HL.out]; omega
    · have k3 : Keeps F w w2 := (kk.mono (G := F) (by simp)).trans hk2 (by rw [hf]; simp)
      exact ((k3.setCell (.inl (by rw [hf]; simp)) _).setCell (.inr (Nat.le_refl _)) _).setCell (.inr (Nat.le_refl _)) _

theorem drop_any (w : World) (F : List Nat) (p : Nat) (s : Lk) (i : Int) (h : LkRep 53 w F p s) :
    Calls Try.prog 15 #[.pointer (some ⟨p, 0, none⟩), .int .i64 i] w fun e w' => e = .returned (.int .i64 (s.deliver i).2.1) ∧ LkRep 53 w' F p (s.deliver i).2.2 ∧ Keeps F w w' := by
  have hd := deliver_any w F p s i h
  go_enter Try.func15, Try.ntmps15
  go_wp2_with fail
  refine hd.mono ?_
  rintro e w1 ⟨rfl, hw, hk⟩
  go_wp2
  go_ret
  exact ⟨rfl, hw.keep (G := []) ((Keeps.refl _ _).alloc _) (by simp), hk.alloc _⟩

theorem cut_any (w : World) (F : List Nat) (p : Nat) (s : Lk) (h : LkRep 53 w F p s) :
    Calls Try.prog 16 #[.pointer (some ⟨p, 0, none⟩)] w fun e w' => e = .returned (.tuple #[]) ∧ ∃ F', LkRep 53 w' F' p ⟨[], true⟩ ∧ Keeps F w w' ∧ ∀ g ∈ F', g ∈ F := by
  obtain ⟨A, cap, h⟩ := h
  have c0 : w.cell? ⟨p, 0, none⟩ = some (.slice A s.L.length cap) := h.b.cell 0
  have c1 : w.cell? ⟨p, 1, none⟩ = some (.bool s.cut) := h.b.cell 1
  have f0 := h.b.frozen 0
  have f1 := h.b.frozen 1
  have hf := h.f
  go_enter Try.func16, Try.ntmps16
  go_wp2
  go_end0
  refine ⟨rfl, [p], ⟨none, 0, rfl, ?_, World.ownsRow_nil _ _ _ _, by simp, h.t⟩, ?_, by rw [hf]; simp⟩
  · exact (h.b.set_ 1 _).set_ 0 _
  · exact ((Keeps.refl _ _).setCell (.inl (by rw [hf]; simp)) _).setCell (.inl (by rw [hf]; simp)) _

theorem join_any (w : World) (F : List Nat) (p : Nat) (s : Lk) (h : LkRep 53 w F p s) :
    Calls Try.prog 25 #[.pointer (some ⟨p, 0, none⟩)] w fun e w' => e = .returned (.tuple #[]) ∧ LkRep 53 w' F p ⟨s.L, false⟩ ∧ Keeps F w w' := by
  obtain ⟨A, cap, h⟩ := h
  have c1 : w.cell? ⟨p, 1, none⟩ = some (.bool s.cut) := h.b.cell 1
  have f1 := h.b.frozen 1
  go_enter Try.func25, Try.ntmps25
  go_wp2
  go_end0
  have hf := h.f
  exact ⟨rfl, ⟨A, cap, h.f, h.b.set_ 1 _, own_far h.o h.off _, h.m, h.t⟩, (Keeps.refl _ _).setCell (.inl (by rw [hf]; simp)) _⟩

theorem iscut_any (w : World) (F : List Nat) (p : Nat) (s : Lk) (h : LkRep 53 w F p s) :
    Calls Try.prog 17 #[.pointer (some ⟨p, 0, none⟩)] w fun e w' => e = .returned (.bool s.cut) ∧ w = w' := by
  have c1 := h.cutc
  go_enter Try.func17, Try.ntmps17
  go_wp2
  go_ret
  exact ⟨rfl, rfl⟩

theorem count_any (w : World) (F : List Nat) (p : Nat) (s : Lk) (h : LkRep 53 w F p s) :
    Calls Try.prog 13 #[.pointer (some ⟨p, 0, none⟩)] w fun e w' => e = .returned (.int .i64 s.L.length) ∧ w = w' := by
  obtain ⟨A, cap, h⟩ := h
  have c0 : w.cell? ⟨p, 0, none⟩ = some (.slice A s.L.length cap) := h.b.cell 0
  go_enter Try.func13, Try.ntmps13
  go_wp2
  go_ret
  exact ⟨rfl, rfl⟩
end Go.Proofs.Ytipmhhhhfnpdgaa
