/- The reference's device: the walks. -/
import Derived.Test.YtfhnlkbmkfjpnaaP2
import Derived.Deep.RegionLaw
namespace Go.Proofs.Ytfhnlkbmkfjpnaa
open Go.RowKit

/-- The reference's device s lies at block p; F are all its blocks. -/
structure RfAt (w : World) (F : List Nat) (p : Nat) (s : Sw) (A : Option Addr) (cap : Nat) : Prop where
  f : F = p :: fp (.slice A s.L.length cap)
  b : Blk w p 50 #[.slice A s.L.length cap, .int .i64 s.due, .int .i64 s.ret]
  o : w.ownsRow 0 9 1 (.slice A s.L.length cap) s.L.length (s.L.map .string)
  m : s.L.length ≤ 4096
  d0 : 0 ≤ s.due
  d1 : s.due ≤ 1000
  r0 : 0 ≤ s.ret
def RfRep (w : World) (F : List Nat) (p : Nat) (s : Sw) : Prop := ∃ A cap, RfAt w F p s A cap

theorem RfAt.off {w : World} {F : List Nat} {p : Nat} {s : Sw} {A : Option Addr} {cap : Nat} (h : RfAt w F p s A cap) : p ∉ fp (.slice A s.L.length cap) :=
  own_blk_off h.o h.b (by decide)
theorem RfRep.lt {w : World} {F : List Nat} {p : Nat} {s : Sw} (h : RfRep w F p s) : ∀ g ∈ F, g < w.heap.size := by
  obtain ⟨A, cap, h⟩ := h
  intro g hg
  rw [h.f] at hg
  rcases List.mem_cons.1 hg with rfl | hg
  · exact h.b.lt
  · exact own_lt h.o hg
theorem RfRep.keep {w w' : World} {F G : List Nat} {p : Nat} {s : Sw} (h : RfRep w F p s) (hk : Keeps G w w') (hd : ∀ g ∈ F, g ∉ G) : RfRep w' F p s := by
  obtain ⟨A, cap, h⟩ := h
  have hf := h.f
  exact ⟨A, cap, hf, h.b.keep hk (hd p (by rw [hf]; simp)), own_keep h.o hk (fun g hg => hd g (by rw [hf]; simp [hg])), h.m, h.d0, h.d1, h.r0⟩

theorem ruse_any (w : World) (F : List Nat) (p : Nat) (s : Sw) (h : RfRep w F p s) (hr : s.ret ≤ 1000000000) :
    Calls Try.prog 35 #[.pointer (some ⟨p, 0, none⟩)] w fun e w' => e = .returned (.tuple #[]) ∧ RfRep w' F p ⟨s.L, 0, s.ret + s.due⟩ ∧ Keeps F w w' := by
  obtain ⟨A, cap, h⟩ := h
  have c2 : w.cell? ⟨p, 1, none⟩ = some (.int .i64 s.due) := h.b.cell 1
  have c3 : w.cell? ⟨p, 2, none⟩ = some (.int .i64 s.ret) := h.b.cell 2
  have f2 := h.b.frozen 1
  have f3 := h.b.frozen 2
  have d0 := h.d0
  have d1 := h.d1
  have r0 := h.r0
  go_enter Try.func35, Try.ntmps35
  go_wp2
  go_region
  go_wp2
  go_end0
  refine ⟨rfl, ⟨A, cap, h.f, (((h.b.drew).set_ 2 _).set_ 1 _), ?_, h.m, by simp, by simp, by simp; omega⟩, ?_⟩
  · have ho := h.off
    exact own_far (own_far (own_drew h.o) ho _) ho _
  · have hf := h.f
    exact ((((Keeps.refl F w).drew).setCell (.inl (by rw [hf]; simp)) _).setCell (.inl (by rw [hf]; simp)) _)

theorem rhas_any (w : World) (F : List Nat) (p : Nat) (s : Sw) (i : Int) (h : RfRep w F p s) :
    Calls Try.prog 34 #[.pointer (some ⟨p, 0, none⟩), .int .i64 i] w fun e w' => e = .returned (.bool (hasB s.L i)) ∧ w = w' := by
  obtain ⟨A, cap, h⟩ := h
  have c0 : w.cell? ⟨p, 0, none⟩ = some (.slice A s.L.length cap) := h.b.cell 0
  have hm := h.m
  obtain ⟨_, _, hv, hcap, hmax, hA⟩ := own_shape h.o
  obtain ⟨rfl, -, rfl⟩ : A = _ ∧ s.L.length = _ ∧ cap = _ := by injection hv with h1 h2 h3; exact ⟨h1, rfl, h3⟩
  clear hv
  by_cases h1 : 0 ≤ i
  · obtain ⟨k, rfl⟩ := Int.eq_ofNat_of_zero_le h1
    by_cases h2 : k < s.L.length
    · obtain ⟨g, rfl⟩ := hA (by omega)
      have c3 : w.cell? ⟨g, k, none⟩ = some (.string (s.L.getD k E0)) := own_cell h.o (by simp [List.getD, h2])
      have e : hasB s.L (k : Int) = !emp (s.L.getD k E0) := by unfold hasB; simp [h2]
      generalize hx : s.L.getD k E0 = x at *
      have H := Lib.hid e; clear e hx
      by_cases hk0 : k = 0
      · subst hk0
        cases hx : x.toList.isEmpty
        all_goals
          go_enter Try.func34, Try.ntmps34
          go_wp2
          go_ret
          exact ⟨ret_bool (by rw [H.out, show emp x = x.toList.isEmpty from rfl, hx]; rfl), rfl⟩
      · cases hx : x.toList.isEmpty
        all_goals
          go_enter Try.func34, Try.ntmps34
          go_wp2
          go_ret
          exact ⟨ret_bool (by rw [H.out, show emp x = x.toList.isEmpty from rfl, hx]; rfl), rfl⟩
    · have e : hasB s.L (k : Int) = false := by unfold hasB; simp [h2]
      have H := Lib.hid e; clear e
      go_enter Try.func34, Try.ntmps34
      go_wp2
      go_ret
      exact ⟨ret_bool H.out.symm, rfl⟩
  · have e : hasB s.L i = false := by unfold hasB; simp [h1]
    have H := Lib.hid e; clear e
    go_enter Try.func34, Try.ntmps34
    go_wp2
    go_ret
    exact ⟨ret_bool H.out.symm, rfl⟩

theorem rget_any (w : World) (F : List Nat) (p : Nat) (s : Sw) (i : Int) (h : RfRep w F p s) (hr : s.ret ≤ 1000000000) :
    Calls Try.prog 30 #[.pointer (some ⟨p, 0, none⟩), .int .i64 i] w fun e w' => e = .returned (.tuple #[.string (s.get i).1, .int .i64 (s.get i).2.1]) ∧ RfRep w' F p (s.get i).2.2 ∧ Keeps F w w' := by
  have hh := rhas_any w F p s i h
  cases hb : hasB s.L i
  · have e : s.get i = (E0, 4, s) := by unfold Sw.get; rw [hb]; rfl
    have H := Lib.hid e; clear e
    go_enter Try.func30, Try.ntmps30
    go_wp2_with fail
    refine hh.mono ?_
    rintro e w1 ⟨rfl, rfl⟩
    go_wp2
    go_ret2
    rw [H.out]
    exact ⟨rfl, h, Keeps.refl _ _⟩
  · have e : s.get i = (s.L.getD i.toNat E0, 0, ⟨s.L, 0, s.ret + s.due⟩) := by unfold Sw.get; rw [hb]; rfl
    have H := Lib.hid e; clear e
    obtain ⟨hi0, hil⟩ := hasB_lt hb
    obtain ⟨k, rfl⟩ := Int.eq_ofNat_of_zero_le hi0
    simp only [Int.toNat_natCast] at hil
    go_enter Try.func30, Try.ntmps30
    go_wp2_with fail
    refine hh.mono ?_
    rintro e w1 ⟨rfl, rfl⟩
    go_wp2_with fail
    refine (ruse_any _ F p s h hr).mono ?_
    rintro e w1 ⟨rfl, ⟨A1, cap1, g1⟩, hk1⟩
    have b1 : Blk w1 p 50 #[.slice A1 s.L.length cap1, .int .i64 0, .int .i64 (s.ret + s.due)] := g1.b
    have o1 : w1.ownsRow 0 9 1 (.slice A1 s.L.length cap1) s.L.length (s.L.map .string) := g1.o
    obtain ⟨_, _, hv, hcap, hmax, hA⟩ := own_shape o1
    obtain ⟨rfl, -, rfl⟩ : A1 = _ ∧ s.L.length = _ ∧ cap1 = _ := by injection hv with h1 h2 h3; exact ⟨h1, rfl, h3⟩
    clear hv
    obtain ⟨g, rfl⟩ := hA (by omega)
    have c0 : w1.cell? ⟨p, 0, none⟩ = some (.slice (some ⟨g, 0, none⟩) s.L.length cap1) := b1.cell 0
    have cg : w1.cell? ⟨g, k, none⟩ = some (.string s.L[k]) := own_cell o1 (by simp [hil])
    have hm := g1.m
    simp only [] at hm
    go_wp2
    go_ret2
    rw [H.out]
    refine ⟨?_, ⟨_, _, g1⟩, hk1⟩
    simp [List.getD, hil]

theorem rfree_any (w : World) (F : List Nat) (p : Nat) (s : Sw) (i : Int) (h : RfRep w F p s) :
    Calls Try.prog 31 #[.pointer (some ⟨p, 0, none⟩), .int .i64 i] w fun e w' => e = .returned (.tuple #[]) ∧ RfRep w' F p (s.free i) ∧ Keeps F w w' := by
  have hh := rhas_any w F p s i h
  cases hb : hasB s.L i
  · have e : s.free i = s := by unfold Sw.free; rw [hb]; rfl
    have H := Lib.hid e; clear e
    go_enter Try.func31, Try.ntmps31
    go_wp2_with fail
    refine hh.mono ?_
    rintro e w1 ⟨rfl, rfl⟩
    go_wp2
    go_end0
    rw [H.out]
    exact ⟨rfl, h, Keeps.refl _ _⟩
  · have e : s.free i = ⟨s.L.set i.toNat E0, s.due, s.ret⟩ := by unfold Sw.free; rw [hb]; rfl
    have H := Lib.hid e; clear e
    obtain ⟨hi0, hil⟩ := hasB_lt hb
    obtain ⟨k, rfl⟩ := Int.eq_ofNat_of_zero_le hi0
    simp only [Int.toNat_natCast] at hil H
    obtain ⟨A1, cap1, g1⟩ := h
    have b1 := g1.b
    have o1 := g1.o
    obtain ⟨_, _, hv, hcap, hmax, hA⟩ := own_shape o1
    obtain ⟨rfl, -, rfl⟩ : A1 = _ ∧ s.L.length = _ ∧ cap1 = _ := by injection hv with h1 h2 h3; exact ⟨h1, rfl, h3⟩
    clear hv
    obtain ⟨g, rfl⟩ := hA (by omega)
    have hoff : p ∉ fp (.slice (some ⟨g, 0, none⟩) s.L.length cap1) := g1.off
    have hpg : p ≠ g := by simpa using hoff
    have c0 : w.cell? ⟨p, 0, none⟩ = some (.slice (some ⟨g, 0, none⟩) s.L.length cap1) := b1.cell 0
    have cg : w.cell? ⟨g, k, none⟩ = some (.string s.L[k]) := own_cell o1 (by simp [hil])
    have fg := own_free o1 k
    have hm := g1.m
    go_enter Try.func31, Try.ntmps31
    go_wp2_with fail
    refine hh.mono ?_
    rintro e w1 ⟨rfl, rfl⟩
    go_wp2
    go_end0
    rw [H.out, show ({ data := #[] } : ByteArray) = E0 from rfl]
    have hF := g1.f
    refine ⟨rfl, ⟨some ⟨g, 0, none⟩, cap1, by simpa using hF, ?_, ?_, by simpa using g1.m, g1.d0, g1.d1, g1.r0⟩, ?_⟩
    · have hb := b1.far (p := ⟨g, k, none⟩) hpg (.string E0)
      simpa using hb
    · have ho := own_set o1 k (.string E0)
      simpa [map_set] using ho
    · rw [hF]
      exact (Keeps.refl _ w).setCell (.inl (by simp)) _

theorem rfail_any (w : World) (F : List Nat) (p : Nat) (s : Sw) (n : Int) (h : RfRep w F p s) :
    Calls Try.prog 32 #[.pointer (some ⟨p, 0, none⟩), .int .i64 n] w fun e w' => e = .returned (.tuple #[]) ∧ RfRep w' F p (s.fail n) ∧ Keeps F w w' := by
  obtain ⟨A, cap, h⟩ := h
  have c2 : w.cell? ⟨p, 1, none⟩ = some (.int .i64 s.due) := h.b.cell 1
  have f2 := h.b.frozen 1
  have hf := h.f
  have key : ∀ m : Int, clampF n = m → RfRep (w.setCell ⟨p, 1, none⟩ (.int .i64 m)) F p (s.fail n) ∧ Keeps F w (w.setCell ⟨p, 1, none⟩ (.int .i64 m)) := by
    intro m e
    have hr := clampF_range n
    refine ⟨⟨A, cap, hf, ?_, own_far h.o h.off _, h.m, hr.1, hr.2, h.r0⟩, (Keeps.refl F w).setCell (.inl (by rw [hf]; simp)) _⟩
    have := h.b.set_ 1 (.int .i64 m)
    rw [← e] at this ⊢
    exact this
  have K := Lib.hid key; clear key hf
  go_enter Try.func32, Try.ntmps32
  go_wp2
  all_goals
    go_end0
    exact ⟨rfl, K.out _ (by unfold clampF; omega)⟩
end Go.Proofs.Ytfhnlkbmkfjpnaa
