/- The walks of the swap device's methods, more. -/
import Derived.Test.YtfhnlkbmkfjpnaaW2
namespace Go.Proofs.Ytfhnlkbmkfjpnaa
open Go.RowKit

theorem SwRep.drewN {w : World} {F : List Nat} {p : Nat} {s : Sw} (h : SwRep w F p s) (n : Nat) : SwRep (w.drewN n) F p s := h.keep ((Keeps.refl [] w).drewN n) (by simp)

theorem index_first (w : World) (A : Option Addr) (cap : Nat) (L : List ByteArray) (ho : w.ownsRow 0 9 1 (.slice A L.length cap) L.length (L.map .string)) (hl : first L < L.length) :
    Calls Try.prog 27 #[.slice A L.length cap, .string E0] w fun e w' => e = .returned (.int .i64 (first L)) ∧ w = w' :=
  (index_any w A cap L E0 ho).mono fun e w' ⟨he, hw⟩ => ⟨by rw [he]; exact ret_int (by unfold idxI; exact if_pos hl), hw⟩

theorem map_set (L : List ByteArray) (k : Nat) (x : ByteArray) : (L.set k x).map Value.string = (L.map Value.string).set k (.string x) := List.map_set

set_option maxHeartbeats 400000 in
theorem put_any (w : World) (F : List Nat) (p : Nat) (s : Sw) (x : ByteArray) (h : SwRep w F p s) (hr : s.ret ≤ 1000000000) :
    Calls Try.prog 12 #[.pointer (some ⟨p, 0, none⟩), .string x] w fun e w' => e = .returned (.tuple #[.int .i64 (s.put x).1, .bool (s.put x).2.1]) ∧ SwRep w' F p (s.put x).2.2 ∧ Keeps F w w' := by
  have hrep := h
  obtain ⟨A, cap, h⟩ := h
  have c0 : w.cell? ⟨p, 0, none⟩ = some (.slice A s.L.length cap) := h.b.cell 0
  have c1 : w.cell? ⟨p, 1, none⟩ = some (.int .i64 (cnt s.L)) := h.b.cell 1
  have hm := h.m
  have hcl := cnt_le s.L
  by_cases h1 : x.size = 64
  · have t1 : ((x.size : Int) != 64) = false := by rw [h1]; rfl
    by_cases h2 : cnt s.L < s.L.length
    · have hfl := first_lt h2
      have H1 := Lib.hid h1
      have e : s.put x = ((first s.L : Int), true, ⟨s.L.set (first s.L) x, 0, s.ret + s.due⟩) := by unfold Sw.put; rw [if_pos ⟨h1, h2⟩]
      have H := Lib.hid e; clear e
      have t2 : ((cnt s.L : Int) == (s.L.length : Int)) = false := by simp; omega
      clear h1
      go_enter Try.func12, Try.ntmps12
      go_wp2_with fail
      go_quiet (fail)
      go_wp2_with fail
      refine (use_any _ F p s (hrep.drewN _) hr).mono ?_
      rintro e w1 ⟨rfl, ⟨A1, cap1, g1⟩, hk1⟩
      clear c0 c1
      have b1 : Blk w1 p 54 #[.slice A1 s.L.length cap1, .int .i64 (cnt s.L), .int .i64 0, .int .i64 (s.ret + s.due)] := g1.b
      have o1 : w1.ownsRow 0 9 1 (.slice A1 s.L.length cap1) s.L.length (s.L.map .string) := g1.o
      obtain ⟨_, _, hv, hcap, hmax, hA⟩ := own_shape o1
      obtain ⟨rfl, -, rfl⟩ : A1 = _ ∧ s.L.length = _ ∧ cap1 = _ := by injection hv with h1 h2 h3; exact ⟨h1, rfl, h3⟩
      clear hv
      obtain ⟨g, rfl⟩ := hA (by omega)
      have hoff : p ∉ fp (.slice (some ⟨g, 0, none⟩) s.L.length cap1) := g1.off
      have hpg : p ≠ g := by simpa using hoff
      have c0 : w1.cell? ⟨p, 0, none⟩ = some (.slice (some ⟨g, 0, none⟩) s.L.length cap1) := b1.cell 0
      have c1 : w1.cell? ⟨p, 1, none⟩ = some (.int .i64 (cnt s.L)) := b1.cell 1
      have f1 := b1.frozen 1
      have cg : w1.cell? ⟨g, first s.L, none⟩ = some (.string s.L[first s.L]) := own_cell o1 (by simp [hfl])
      have fg := own_free o1 (first s.L)
      go_wp2_with fail
      refine (index_first _ _ _ _ o1 hfl).mono ?_
      rintro e w2 ⟨rfl, rfl⟩
      go_wp2
      go_ret2
      rw [H.out]
      have hF := g1.f
      refine ⟨rfl, ⟨some ⟨g, 0, none⟩, cap1, by simpa using hF, ?_, ?_, by simpa using g1.m, by simp, by simp, g1.r0⟩, ?_⟩
      · have hb := (b1.far (p := ⟨g, first s.L, none⟩) hpg (.string x)).set_ 1 (.int .i64 ((cnt s.L : Int) + 1))
        have e2 : (cnt (s.L.set (first s.L) x) : Int) = (cnt s.L : Int) + 1 := by
          have := cnt_set hfl x
          rw [first_emp hfl, emp_size H1.out] at this
          simp at this
          omega
        simpa [e2] using hb
      · have ho := own_far (p := ⟨p, 1, none⟩) (own_set o1 (first s.L) (.string x)) hoff (.int .i64 ((cnt s.L : Int) + 1))
        simpa [map_set] using ho
      · rw [hF] at hk1 ⊢
        exact (((Keeps.refl _ w).drewN _).trans hk1 (by intro g hg; exact .inl hg)).setCell (.inl (by simp)) _ |>.setCell (.inl (by simp)) _
    · have H1 := Lib.hid h1
      have e : s.put x = (-1, false, s) := by unfold Sw.put; rw [if_neg (fun h => h2 h.2)]
      have H := Lib.hid e; clear e
      have t2 : ((cnt s.L : Int) == (s.L.length : Int)) = true := by simp; omega
      clear h1
      go_enter Try.func12, Try.ntmps12
      go_wp2_with fail
      go_quiet (fail)
      go_wp2
      go_ret2
      rw [H.out]
      exact ⟨rfl, hrep.drewN _, (Keeps.refl _ _).drewN _⟩
  · have e : s.put x = (-1, false, s) := by unfold Sw.put; rw [if_neg (fun h => h1 h.1)]
    have H := Lib.hid e; clear e
    have t1 : ((x.size : Int) != 64) = true := by simp; omega
    go_enter Try.func12, Try.ntmps12
    go_wp2_with fail
    go_quiet (fail)
    go_wp2
    go_ret2
    rw [H.out]
    exact ⟨rfl, hrep.drewN _, (Keeps.refl _ _).drewN _⟩
end Go.Proofs.Ytfhnlkbmkfjpnaa
