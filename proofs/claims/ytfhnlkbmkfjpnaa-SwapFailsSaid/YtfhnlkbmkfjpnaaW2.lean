/- The walks of the swap device's methods. -/
import Derived.Test.YtfhnlkbmkfjpnaaW1
namespace Go.Proofs.Ytfhnlkbmkfjpnaa
open Go.RowKit

/-- The device s lies at block p; F are all its blocks. -/
structure SwAt (w : World) (F : List Nat) (p : Nat) (s : Sw) (A : Option Addr) (cap : Nat) : Prop where
  f : F = p :: fp (.slice A s.L.length cap)
  b : Blk w p 54 #[.slice A s.L.length cap, .int .i64 (cnt s.L), .int .i64 s.due, .int .i64 s.ret]
  o : w.ownsRow 0 9 1 (.slice A s.L.length cap) s.L.length (s.L.map .string)
  m : s.L.length ≤ 4096
  d0 : 0 ≤ s.due
  d1 : s.due ≤ 1000
  r0 : 0 ≤ s.ret
def SwRep (w : World) (F : List Nat) (p : Nat) (s : Sw) : Prop := ∃ A cap, SwAt w F p s A cap

theorem SwAt.off {w : World} {F : List Nat} {p : Nat} {s : Sw} {A : Option Addr} {cap : Nat} (h : SwAt w F p s A cap) : p ∉ fp (.slice A s.L.length cap) :=
  own_blk_off h.o h.b (by decide)
theorem SwRep.lt {w : World} {F : List Nat} {p : Nat} {s : Sw} (h : SwRep w F p s) : ∀ g ∈ F, g < w.heap.size := by
  obtain ⟨A, cap, h⟩ := h
  intro g hg
  rw [h.f] at hg
  rcases List.mem_cons.1 hg with rfl | hg
  · exact h.b.lt
  · exact own_lt h.o hg
theorem SwRep.keep {w w' : World} {F G : List Nat} {p : Nat} {s : Sw} (h : SwRep w F p s) (hk : Keeps G w w') (hd : ∀ g ∈ F, g ∉ G) : SwRep w' F p s := by
  obtain ⟨A, cap, h⟩ := h
  have hf := h.f
  exact ⟨A, cap, hf, h.b.keep hk (hd p (by rw [hf]; simp)), own_keep h.o hk (fun g hg => hd g (by rw [hf]; simp [hg])), h.m, h.d0, h.d1, h.r0⟩

theorem use_any (w : World) (F : List Nat) (p : Nat) (s : Sw) (h : SwRep w F p s) (hr : s.ret ≤ 1000000000) :
    Calls Try.prog 26 #[.pointer (some ⟨p, 0, none⟩)] w fun e w' => e = .returned (.tuple #[]) ∧ SwRep w' F p ⟨s.L, 0, s.ret + s.due⟩ ∧ Keeps F w w' := by
  obtain ⟨A, cap, h⟩ := h
  have c2 : w.cell? ⟨p, 2, none⟩ = some (.int .i64 s.due) := h.b.cell 2
  have c3 : w.cell? ⟨p, 3, none⟩ = some (.int .i64 s.ret) := h.b.cell 3
  have f2 := h.b.frozen 2
  have f3 := h.b.frozen 3
  have d0 := h.d0
  have d1 := h.d1
  have r0 := h.r0
  go_enter Try.func26, Try.ntmps26
  go_wp2
  go_region
  go_wp2
  go_end0
  refine ⟨rfl, ⟨A, cap, h.f, (((h.b.drew).set_ 3 _).set_ 2 _), ?_, h.m, by simp, by simp, by simp; omega⟩, ?_⟩
  · have ho := h.off
    exact own_far (own_far (own_drew h.o) ho _) ho _
  · have hf := h.f
    exact ((((Keeps.refl F w).drew).setCell (.inl (by rw [hf]; simp)) _).setCell (.inl (by rw [hf]; simp)) _)

theorem has_any (w : World) (F : List Nat) (p : Nat) (s : Sw) (i : Int) (h : SwRep w F p s) :
    Calls Try.prog 28 #[.pointer (some ⟨p, 0, none⟩), .int .i64 i] w fun e w' => e = .returned (.bool (hasB s.L i)) ∧ w = w' := by
  obtain ⟨A, cap, h⟩ := h
  have c0 : w.cell? ⟨p, 0, none⟩ = some (.slice A s.L.length cap) := h.b.cell 0
  have hm := h.m
  obtain ⟨_, _, hv, hcap, hmax, hA⟩ := own_shape h.o
  obtain ⟨rfl, -, rfl⟩ : A = _ ∧ s.L.length = _ ∧ cap = _ := by injection hv with h1 h2 h3; exact ⟨h1, rfl, h3⟩
  clear hv
  by_cases h1 : 0 ≤ i
  · obtain ⟨k, rfl⟩ := Int.eq_ofNat_of_zero_le h1
    by_cases h2 : k < s.L.length
    · obtain ⟨g, rfl⟩ := hA (by omega)
      have c3 : w.cell? ⟨g, k, none⟩ = some (.string (s.L.getD k E0)) := own_cell h.o (by simp [List.getD, h2])
      have e : hasB s.L (k : Int) = !emp (s.L.getD k E0) := by unfold hasB; simp [h2]
      generalize hx : s.L.getD k E0 = x at *
      have H := Lib.hid e; clear e hx
      cases hx : x.toList.isEmpty
      · go_enter Try.func28, Try.ntmps28
        go_wp2
        go_ret
        exact ⟨ret_bool (by rw [H.out, show emp x = x.toList.isEmpty from rfl, hx]; rfl), rfl⟩
      · go_enter Try.func28, Try.ntmps28
        go_wp2
        go_ret
        exact ⟨ret_bool (by rw [H.out, show emp x = x.toList.isEmpty from rfl, hx]; rfl), rfl⟩
    · have e : hasB s.L (k : Int) = false := by unfold hasB; simp [h2]
      have H := Lib.hid e; clear e
      go_enter Try.func28, Try.ntmps28
      go_wp2
      go_ret
      exact ⟨ret_bool H.out.symm, rfl⟩
  · have e : hasB s.L i = false := by unfold hasB; simp [h1]
    have H := Lib.hid e; clear e
    go_enter Try.func28, Try.ntmps28
    go_wp2
    go_ret
    exact ⟨ret_bool H.out.symm, rfl⟩
end Go.Proofs.Ytfhnlkbmkfjpnaa
