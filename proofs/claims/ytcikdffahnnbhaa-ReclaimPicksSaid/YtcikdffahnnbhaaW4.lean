/- The walks of Touch and Use. -/
import Derived.Test.YtcikdffahnnbhaaW3
namespace Go.Proofs.Ytcikdffahnnbhaa
open Go.RowKit

set_option maxRecDepth 100000 in
set_option maxHeartbeats 1600000 in
theorem touch_any (w : World) (F : List Nat) (p : Nat) (s : Ck) (f : Int) (h : CkRep w F p s) (hN : s.N ≤ 1000000) :
    Calls Try.prog 14 #[.pointer (some ⟨p, 0, none⟩), .int .i64 f] w fun e w' => e = .returned (.tuple #[]) ∧ CkRep w' F p (s.touch f) ∧ Keeps F w w' := by
  have hh := has_any w F p s f h
  cases hb : s.has f with
  | false =>
    rw [hb] at hh
    have HH := Lib.hid hh
    have HU := Lib.hid (show s.touch f = s by unfold Ck.touch; rw [s.used_no hb]; rfl)
    clear hh hb
    go_enter Try.func14, Try.ntmps14
    go_wp2_with fail
    refine HH.out.mono ?_
    rintro e w1 ⟨rfl, rfl⟩
    go_wp2
    refine bodyPost_ret (v := .tuple #[]) (by simp [results, Try.results14, go_sem]) rfl ?_
    rw [HU.out]
    exact ⟨rfl, h, Keeps.refl _ _⟩
  | true =>
    rw [hb] at hh
    have HH := Lib.hid hh
    obtain ⟨k, rfl, hk⟩ := s.has_lt hb
    have hrep := Lib.hid h
    obtain ⟨g, cap, bu, bn, bb, h⟩ := h
    have c0 := h.e0
    have c3 := h.e3
    have p0 := h.cellj hk (j := 0) (by omega) (v := .bool s.L[k].u) rfl
    have p1 := h.cellj hk (j := 1) (by omega) (v := .bool s.L[k].m) rfl
    have p2 := h.cellj hk (j := 2) (by omega) (v := .bool s.L[k].t) rfl
    have p3 := h.cellj hk (j := 3) (by omega) (v := .int .i64 s.L[k].o) rfl
    simp only [Nat.add_zero] at p0
    have hl := h.l1
    have hi0 : (0 : Int) ≤ (k : Int) := by omega
    have hi1 : (k : Int) < (s.L.length : Int) := by omega
    cases hu : s.L[k].u with
    | false =>
      have HU := Lib.hid (show s.touch (k : Int) = s by unfold Ck.touch; rw [Ck.used_nat hk, hu]; rfl)
      rw [hu] at p0
      clear hh hb h hu
      go_enter Try.func14, Try.ntmps14
      go_wp2_with fail
      refine HH.out.mono ?_
      rintro e w1 ⟨rfl, rfl⟩
      go_wp2
      refine bodyPost_ret (v := .tuple #[]) (by simp [results, Try.results14, go_sem]) rfl ?_
      rw [HU.out]
      exact ⟨rfl, hrep.out, Keeps.refl _ _⟩
    | true =>
      rw [hu] at p0
      obtain ⟨o1, o2⟩ := h.ro k hk
      have hgF : g ∈ F := by rw [h.f]; simp
      have hbF : bn ∈ F := by rw [h.f]; simp
      have f1 := own_free h.o (k * 4 + 1)
      have f2 := own_free h.o (k * 4 + 2)
      obtain ⟨ho1, ho2, ho3, ho4, ho5, ho6⟩ := h.off
      have hpg := h.pg
      have hgp := h.pg.symm
      cases ht : s.L[k].t with
      | true =>
        have HU := Lib.hid (show s.touch (k : Int) = { s with L := s.L.set k { s.L[k] with m := true } } by unfold Ck.touch; rw [Ck.used_nat hk, hu, Ck.get_nat hk]; simp [ht])
        rw [ht] at p2
        have H1 := Lib.hid (h.setL hk (j := 1) (by omega) (v := .bool true) (x := { s.L[k] with m := true }) rfl (h.ro k hk))
        have HK := Lib.hid ((Keeps.refl F w).setCell (p := ⟨g, k * 4 + 1, none⟩) (.inl hgF) (.bool true))
        clear hh hb h hu ht
        go_enter Try.func14, Try.ntmps14
        go_wp2_with fail
        refine HH.out.mono ?_
        rintro e w1 ⟨rfl, rfl⟩
        go_wp2
        go_end0
        rw [HU.out]
        exact ⟨rfl, ⟨_, _, _, _, _, H1.out⟩, HK.out⟩
      | false =>
        have HU := Lib.hid (show s.touch (k : Int) = { s with L := s.L.set k { s.L[k] with m := true, t := true }, nw := updI s.nw s.L[k].o (s.nw s.L[k].o + 1), N := s.N + 1 } by unfold Ck.touch; rw [Ck.used_nat hk, hu, Ck.get_nat hk]; simp [ht])
        rw [ht] at p2
        obtain ⟨r1, r2⟩ := h.rn s.L[k].o
        have g1 := h.setL hk (j := 1) (by omega) (v := .bool true) (x := { s.L[k] with m := true }) rfl (h.ro k hk)
        have g2 := g1.setL (k := k) (by simpa using hk) (j := 2) (by omega) (v := .bool true) (x := { s.L[k] with m := true, t := true }) (by simp [c4]) (h.ro k hk)
        have g3 := g2.drew
        have q1 := g3.mn.look o1 o2 Try.underlying43
        obtain ⟨w2, q2, m2, k2⟩ := g3.mn.upd o1 o2 (v := s.nw s.L[k].o + 1) (by omega) (by omega) (by simp only []; unfold maxLen; omega) Try.underlying43
        have g4 := (g3.more (N' := s.N + 1) (by simp only []; omega)).setN (u := updI s.nw s.L[k].o (s.nw s.L[k].o + 1)) k2 m2 (updI_range h.rn (by omega))
        have H1 : Hid (CkAt w2 F p { s with L := s.L.set k { s.L[k] with m := true, t := true }, nw := updI s.nw s.L[k].o (s.nw s.L[k].o + 1), N := s.N + 1 } g cap bu bn bb) := Lib.hid (by simpa [List.set_set] using g4)
        have HK := Lib.hid (((((Keeps.refl F w).setCell (p := ⟨g, k * 4 + 1, none⟩) (.inl hgF) (.bool true)).setCell (p := ⟨g, k * 4 + 2, none⟩) (.inl hgF) (.bool true)).drew).trans k2 (fun x hx => .inl (by rw [List.mem_singleton.1 hx]; exact hbF)))
        clear hh hb h hu ht g1 g2 g3 g4 m2 k2
        go_enter Try.func14, Try.ntmps14
        go_wp2_with fail
        refine HH.out.mono ?_
        rintro e w1 ⟨rfl, rfl⟩
        go_wp2_with fail
        go_region
        go_wp2
        go_end0
        rw [HU.out]
        exact ⟨rfl, ⟨_, _, _, _, _, H1.out⟩, HK.out⟩
end Go.Proofs.Ytcikdffahnnbhaa
