/- The walks of Gone, Touch and Use. -/
import Derived.Test.YtcikdffahnnbhaaW2
namespace Go.Proofs.Ytcikdffahnnbhaa
open Go.RowKit

section
variable {w w2 : World} {F : List Nat} {p : Nat} {s : Ck} {g cap bu bn bb : Nat}
theorem CkAt.off (h : CkAt w F p s g cap bu bn bb) : p ≠ bu ∧ p ≠ bn ∧ p ≠ bb ∧ g ≠ bu ∧ g ≠ bn ∧ g ≠ bb := by
  obtain ⟨cur, hc⟩ := h.ob
  exact ⟨(h.mu.ne_blk h.b).symm, (h.mn.ne_blk h.b).symm, (h.mb.ne_blk h.b).symm, (h.mu.ne_blk hc).symm, (h.mn.ne_blk hc).symm, (h.mb.ne_blk hc).symm⟩
theorem CkAt.more (h : CkAt w F p s g cap bu bn bb) {N' : Nat} (hN : s.N ≤ N') : CkAt w F p { s with N := N' } g cap bu bn bb :=
  ⟨h.f, h.b, h.o, h.l0, h.l1, h.hh, h.mu.mono hN, h.mn.mono hN, h.mb.mono hN, h.n1, h.n2, h.n3, fun x => by have := h.ru x; simp only []; omega, fun x => by have := h.rn x; simp only []; omega, fun x => by have := h.rb x; simp only []; omega, h.ro⟩
theorem CkAt.setU (h : CkAt w F p s g cap bu bn bb) (k : Keeps [bu] w w2) {u : Int → Int} (m : MapAt w2 bu s.N u) (r : ∀ x, -s.N ≤ u x ∧ u x ≤ s.N) : CkAt w2 F p { s with us := u } g cap bu bn bb := by
  obtain ⟨o1, o2, o3, o4, o5, o6⟩ := h.off
  exact ⟨h.f, h.b.keep k (by simpa using o1), own_keep h.o k (by simpa using o4), h.l0, h.l1, h.hh, m, h.mn.keep k (by simpa using h.n1.symm), h.mb.keep k (by simpa using h.n2.symm), h.n1, h.n2, h.n3, r, h.rn, h.rb, h.ro⟩
theorem CkAt.setN (h : CkAt w F p s g cap bu bn bb) (k : Keeps [bn] w w2) {u : Int → Int} (m : MapAt w2 bn s.N u) (r : ∀ x, -s.N ≤ u x ∧ u x ≤ s.N) : CkAt w2 F p { s with nw := u } g cap bu bn bb := by
  obtain ⟨o1, o2, o3, o4, o5, o6⟩ := h.off
  exact ⟨h.f, h.b.keep k (by simpa using o2), own_keep h.o k (by simpa using o5), h.l0, h.l1, h.hh, h.mu.keep k (by simpa using h.n1), m, h.mb.keep k (by simpa using h.n3.symm), h.n1, h.n2, h.n3, h.ru, r, h.rb, h.ro⟩
theorem CkAt.setL (h : CkAt w F p s g cap bu bn bb) {k j : Nat} (hk : k < s.L.length) (hj : j < 4) {v : Value} {x : Fr} (hc : c4 x = (c4 s.L[k]).set j v) (hx : -9223372036854775808 ≤ x.o ∧ x.o ≤ 9223372036854775807) :
    CkAt (w.setCell ⟨g, k * 4 + j, none⟩ v) F p { s with L := s.L.set k x } g cap bu bn bb := by
  obtain ⟨o1, o2, o3, o4, o5, o6⟩ := h.off
  have hl : (s.L.set k x).length = s.L.length := List.length_set
  have kk : Keeps [g] w (w.setCell ⟨g, k * 4 + j, none⟩ v) := (Keeps.refl _ _).setCell (.inl (by simp)) _
  refine ⟨h.f, by rw [hl]; exact h.b.far h.pg _, ?_, by rw [hl]; exact h.l0, by rw [hl]; exact h.l1, by rw [hl]; exact h.hh, h.mu.keep kk (by simpa using o4.symm), h.mn.keep kk (by simpa using o5.symm), h.mb.keep kk (by simpa using o6.symm), h.n1, h.n2, h.n3, h.ru, h.rn, h.rb, fun i hi => ?_⟩
  · rw [hl]
    show (w.setCell _ v).ownsRow 0 48 4 (.slice (some ⟨g, 0, none⟩) s.L.length cap) s.L.length (cells4 (s.L.set k x))
    rw [← cells4_set _ _ j hk hj v x hc]
    exact own_set h.o _ _
  · simp only [List.getElem_set]
    split
    · exact hx
    · exact h.ro i (by rw [hl] at hi; exact hi)
theorem CkAt.setX (h : CkAt w F p s g cap bu bn bb) {k : Nat} (hk : k < s.L.length) (x : Fr) (hx : -9223372036854775808 ≤ x.o ∧ x.o ≤ 9223372036854775807) :
    CkAt ((((w.setCell ⟨g, k * 4, none⟩ (.bool x.u)).setCell ⟨g, k * 4 + 1, none⟩ (.bool x.m)).setCell ⟨g, k * 4 + 2, none⟩ (.bool x.t)).setCell ⟨g, k * 4 + 3, none⟩ (.int .i64 x.o)) F p { s with L := s.L.set k x } g cap bu bn bb := by
  have hr := h.ro k hk
  have h1 := h.setL hk (j := 0) (by omega) (v := .bool x.u) (x := ⟨x.u, s.L[k].m, s.L[k].t, s.L[k].o⟩) rfl hr
  have h2 := h1.setL (k := k) (by simpa using hk) (j := 1) (by omega) (v := .bool x.m) (x := ⟨x.u, x.m, s.L[k].t, s.L[k].o⟩) (by simp [c4]) hr
  have h3 := h2.setL (k := k) (by simpa using hk) (j := 2) (by omega) (v := .bool x.t) (x := ⟨x.u, x.m, x.t, s.L[k].o⟩) (by simp [c4]) hr
  have h4 := h3.setL (k := k) (by simpa using hk) (j := 3) (by omega) (v := .int .i64 x.o) (x := x) (by simp [c4]) hx
  simpa [List.set_set] using h4
theorem CkAt.drew (h : CkAt w F p s g cap bu bn bb) : CkAt w.drew F p s g cap bu bn bb := h.keep ((Keeps.refl [] w).drew) (by simp)
end
theorem set_set_get {L : List Fr} {k : Nat} (hk : k < L.length) (x : Fr) : (L.set k x)[k]'(by simpa using hk) = x := by simp
theorem updI_range {f : Int → Int} {N : Nat} {x v : Int} (h : ∀ y, -(N : Int) ≤ f y ∧ f y ≤ N) (hv : -((N + 1 : Nat) : Int) ≤ v ∧ v ≤ ((N + 1 : Nat) : Int)) : ∀ y, -((N + 1 : Nat) : Int) ≤ updI f x v y ∧ updI f x v y ≤ ((N + 1 : Nat) : Int) := by
  intro y
  unfold updI
  split
  · exact hv
  · have := h y; omega

set_option maxRecDepth 100000 in
set_option maxHeartbeats 1600000 in
theorem gone_any (w : World) (F : List Nat) (p : Nat) (s : Ck) (f : Int) (h : CkRep w F p s) (hN : s.N ≤ 1000000) :
    Calls Try.prog 11 #[.pointer (some ⟨p, 0, none⟩), .int .i64 f] w fun e w' => e = .returned (.tuple #[]) ∧ CkRep w' F p (s.gone f) ∧ Keeps F w w' := by
  have hh := has_any w F p s f h
  cases hb : s.has f with
  | false =>
    rw [hb] at hh
    have HH := Lib.hid hh
    have HU := Lib.hid (show s.gone f = s by unfold Ck.gone; rw [s.used_no hb]; rfl)
    clear hh hb
    go_enter Try.func11, Try.ntmps11
    go_wp2_with fail
    refine HH.out.mono ?_
    rintro e w1 ⟨rfl, rfl⟩
    go_wp2
    refine bodyPost_ret (v := .tuple #[]) (by simp [results, Try.results11, go_sem]) rfl ?_
    rw [HU.out]
    exact ⟨rfl, h, Keeps.refl _ _⟩
  | true =>
    rw [hb] at hh
    have HH := Lib.hid hh
    obtain ⟨k, rfl, hk⟩ := s.has_lt hb
    have hrep := Lib.hid h
    obtain ⟨g, cap, bu, bn, bb, h⟩ := h
    have c0 := h.e0
    have c2 := h.e2
    have p0 := h.cellj hk (j := 0) (by omega) (v := .bool s.L[k].u) rfl
    have p3 := h.cellj hk (j := 3) (by omega) (v := .int .i64 s.L[k].o) rfl
    simp only [Nat.add_zero] at p0
    have hl := h.l1
    have hi0 : (0 : Int) ≤ (k : Int) := by omega
    have hi1 : (k : Int) < (s.L.length : Int) := by omega
    cases hu : s.L[k].u with
    | false =>
      have HU := Lib.hid (show s.gone (k : Int) = s by unfold Ck.gone; rw [Ck.used_nat hk, hu]; rfl)
      rw [hu] at p0
      clear hh hb h hu
      go_enter Try.func11, Try.ntmps11
      go_wp2_with fail
      refine HH.out.mono ?_
      rintro e w1 ⟨rfl, rfl⟩
      go_wp2
      refine bodyPost_ret (v := .tuple #[]) (by simp [results, Try.results11, go_sem]) rfl ?_
      rw [HU.out]
      exact ⟨rfl, hrep.out, Keeps.refl _ _⟩
    | true =>
      have HU := Lib.hid (show s.gone (k : Int) = { s with L := s.L.set k fr0, us := updI s.us s.L[k].o (s.us s.L[k].o - 1), N := s.N + 1 } by unfold Ck.gone; rw [Ck.used_nat hk, hu, Ck.get_nat hk]; rfl)
      rw [hu] at p0
      obtain ⟨o1, o2⟩ := h.ro k hk
      obtain ⟨r1, r2⟩ := h.ru s.L[k].o
      have q1 := h.mu.drew.look o1 o2 Try.underlying43
      obtain ⟨w2, q2, m2, k2⟩ := h.mu.drew.upd o1 o2 (v := s.us s.L[k].o - 1) (by omega) (by omega) (by unfold maxLen; omega) Try.underlying43
      have H1 := h.drew
      have H2 := (H1.more (N' := s.N + 1) (by omega)).setU (u := updI s.us s.L[k].o (s.us s.L[k].o - 1)) k2 m2 (updI_range h.ru (by omega))
      have pp := fun j (v : Value) (hj : j < 4) (hc : (c4 s.L[k])[j]? = some v) => H2.cellj hk hj hc
      have a0 := pp 0 _ (by omega) rfl
      have a1 := pp 1 _ (by omega) rfl
      have a2 := pp 2 _ (by omega) rfl
      have a3 := pp 3 _ (by omega) rfl
      simp only [Nat.add_zero] at a0
      have f0 := own_free H2.o (k * 4)
      have f1 := own_free H2.o (k * 4 + 1)
      have f2 := own_free H2.o (k * 4 + 2)
      have f3 := own_free H2.o (k * 4 + 3)
      have d0 : w2.cell? ⟨p, 0, none⟩ = some (.slice (some ⟨g, 0, none⟩) s.L.length cap) := H2.e0
      have hgF : g ∈ F := by rw [h.f]; simp
      have hbF : bu ∈ F := by rw [h.f]; simp
      have H6 := Lib.hid (H2.setX hk fr0 (by simp [fr0]))
      have HK := Lib.hid (((((((Keeps.refl F w).drew).trans k2 (fun x hx => .inl (by rw [List.mem_singleton.1 hx]; exact hbF))).setCell (p := ⟨g, k * 4, none⟩) (.inl hgF) (.bool false)).setCell (p := ⟨g, k * 4 + 1, none⟩) (.inl hgF) (.bool false)).setCell (p := ⟨g, k * 4 + 2, none⟩) (.inl hgF) (.bool false)).setCell (p := ⟨g, k * 4 + 3, none⟩) (.inl hgF) (.int .i64 0))
      clear hh hb h hu H1 H2 pp m2 k2
      go_enter Try.func11, Try.ntmps11
      go_wp2_with fail
      refine HH.out.mono ?_
      rintro e w1 ⟨rfl, rfl⟩
      go_wp2_with fail
      go_region
      go_wp2
      go_end0
      rw [HU.out]
      exact ⟨rfl, ⟨_, _, _, _, _, H6.out⟩, HK.out⟩
end Go.Proofs.Ytcikdffahnnbhaa
