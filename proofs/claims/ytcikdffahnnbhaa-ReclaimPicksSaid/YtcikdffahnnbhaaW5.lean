/- The walk of Use. -/
import Derived.Test.YtcikdffahnnbhaaW4
namespace Go.Proofs.Ytcikdffahnnbhaa
open Go.RowKit

theorem gone_len (s : Ck) (f : Int) : (s.gone f).L.length = s.L.length := by unfold Ck.gone; split <;> simp
theorem gone_N (s : Ck) (f : Int) : (s.gone f).N ≤ s.N + 1 := by unfold Ck.gone; split <;> simp

set_option maxRecDepth 100000 in
set_option maxHeartbeats 1600000 in
theorem use_any (w : World) (F : List Nat) (p : Nat) (s : Ck) (f o : Int) (h : CkRep w F p s) (hN : s.N ≤ 900000) (h1 : -9223372036854775808 ≤ o) (h2 : o ≤ 9223372036854775807) :
    Calls Try.prog 13 #[.pointer (some ⟨p, 0, none⟩), .int .i64 f, .int .i64 o] w fun e w' => e = .returned (.tuple #[]) ∧ CkRep w' F p (s.use f o) ∧ Keeps F w w' := by
  have hh := has_any w F p s f h
  cases hb : s.has f with
  | false =>
    rw [hb] at hh
    have HH := Lib.hid hh
    have HU := Lib.hid (show s.use f o = s by unfold Ck.use; rw [hb]; rfl)
    clear hh hb
    go_enter Try.func13, Try.ntmps13
    go_wp2_with fail
    refine HH.out.mono ?_
    rintro e w1 ⟨rfl, rfl⟩
    go_wp2
    refine bodyPost_ret (v := .tuple #[]) (by simp [results, Try.results13, go_sem]) rfl ?_
    rw [HU.out]
    exact ⟨rfl, h, Keeps.refl _ _⟩
  | true =>
    rw [hb] at hh
    have HH := Lib.hid hh
    obtain ⟨k, rfl, hk⟩ := s.has_lt hb
    have hrep := h
    obtain ⟨g, cap, bu, bn, bb, h⟩ := h
    have c0 := h.e0
    have p0 := h.cellj hk (j := 0) (by omega) (v := .bool s.L[k].u) rfl
    have p1 := h.cellj hk (j := 1) (by omega) (v := .bool s.L[k].m) rfl
    have p2 := h.cellj hk (j := 2) (by omega) (v := .bool s.L[k].t) rfl
    have p3 := h.cellj hk (j := 3) (by omega) (v := .int .i64 s.L[k].o) rfl
    simp only [Nat.add_zero] at p0
    have hl := h.l1
    have hi0 : (0 : Int) ≤ (k : Int) := by omega
    have hi1 : (k : Int) < (s.L.length : Int) := by omega
    have ka : Keeps [] w (w.alloc (.cells #[.bool s.L[k].u, .bool s.L[k].m, .bool s.L[k].t, .int .i64 s.L[k].o] 48)) := (Keeps.refl _ _).alloc _
    have ha := hrep.keep ka (by simp)
    have HKA := Lib.hid (ka.mono (G := F) (by simp))
    by_cases hc : s.L[k].u = true ∧ s.L[k].o = o
    · have HU := Lib.hid (show s.use (k : Int) o = s.touch (k : Int) by unfold Ck.use; rw [hb, Ck.get_nat hk]; simp [hc.1, hc.2])
      have ht := Lib.hid (touch_any _ F p s k ha (by omega))
      have te : (s.L[k].o != o) = false := by simp [hc.2]
      have tu : (!s.L[k].u) = false := by simp [hc.1]
      have tv : s.L[k].u = true := hc.1
      rw [tv] at p0
      have HX : Hid (∀ W : World, True) := Lib.hid (fun _ => trivial)
      have HU0 := Lib.hid tv
      rw [tv] at ht
      rw [tv] at HKA
      clear hh hb h hc ka ha hrep tv HX tu
      generalize s.L[k].m = xm at *
      generalize s.L[k].t = xt at *
      generalize s.L[k].o = xo at *
      go_enter Try.func13, Try.ntmps13
      go_wp2_with fail
      refine HH.out.mono ?_
      rintro e w1 ⟨rfl, rfl⟩
      go_wp2_with fail
      refine ht.out.mono ?_
      rintro e w1 ⟨rfl, r1, k1⟩
      go_wp2
      go_end0
      rw [HU.out]
      exact ⟨rfl, r1, HKA.out.trans k1 (fun x hx => .inl hx)⟩
    · have HU := Lib.hid (show s.use (k : Int) o = (s.give (k : Int) o).touch (k : Int) by
        unfold Ck.use
        rw [hb, Ck.get_nat hk]
        have : (!s.L[k].u || s.L[k].o != o) = true := by
          cases hu : s.L[k].u with
          | false => rfl
          | true => simp; exact fun e => hc ⟨hu, e⟩
        rw [this]
        rfl)
      have hg := Lib.hid (gone_any _ F p s k ha (by omega))
      have hgl := gone_len s (k : Int)
      have hgN := gone_N s (k : Int)
      have HV := Lib.hid (show s.give (k : Int) o = { s.gone (k : Int) with L := (s.gone (k : Int)).L.set k ⟨true, false, false, o⟩, us := updI (s.gone (k : Int)).us o ((s.gone (k : Int)).us o + 1), N := (s.gone (k : Int)).N + 1 } from rfl)
      generalize s.gone (k : Int) = s1 at *
      have HGV := Lib.hid hgl
      have hi2 : (k : Int) < (s1.L.length : Int) := by omega
      have hk2 : k < s1.L.length := by omega
      have key : (s.L[k].u = false) ∨ (s.L[k].u = true ∧ (s.L[k].o != o) = true) := by
        cases hu : s.L[k].u with
        | false => exact .inl rfl
        | true => exact .inr ⟨rfl, by simp; exact fun e => hc ⟨hu, e⟩⟩
      clear hh hb h hc ka ha hrep hgl
      generalize s.L[k].m = xm at *
      generalize s.L[k].t = xt at *
      generalize s.L[k].o = xo at *
      generalize s.L[k].u = xu at *
      rcases key with rfl | ⟨rfl, te⟩
      all_goals
        go_enter Try.func13, Try.ntmps13
        go_wp2_with fail
        refine HH.out.mono ?_
        rintro e w1 ⟨rfl, rfl⟩
        go_wp2_with fail
        refine hg.out.mono ?_
        rintro e w1 ⟨rfl, r1, k1⟩
        obtain ⟨g2, cap2, bu2, bn2, bb2, G⟩ := r1
        have K1 := HKA.out.trans k1 (fun x hx => .inl hx)
        have d0 := G.e0
        have hgF : g2 ∈ F := by rw [G.f]; simp
        have hbF : bu2 ∈ F := by rw [G.f]; simp
        have hpg := G.pg
        have hgp := G.pg.symm
        have pp := fun j (v : Value) (hj : j < 4) (hc : (c4 s1.L[k])[j]? = some v) => G.cellj hk2 hj hc
        have a0 := pp 0 _ (by omega) rfl
        have a1 := pp 1 _ (by omega) rfl
        have a2 := pp 2 _ (by omega) rfl
        have a3 := pp 3 _ (by omega) rfl
        simp only [Nat.add_zero] at a0
        have f0 := own_free G.o (k * 4)
        have f1 := own_free G.o (k * 4 + 1)
        have f2 := own_free G.o (k * 4 + 2)
        have f3 := own_free G.o (k * 4 + 3)
        have G2 := G.setX hk2 ⟨true, false, false, o⟩ ⟨h1, h2⟩
        have d2 := G2.e2
        obtain ⟨r1, r2⟩ := G2.ru o
        have q1 := G2.mu.look h1 h2 Try.underlying43
        obtain ⟨w2, q2, m2, k2⟩ := G2.mu.upd h1 h2 (v := s1.us o + 1) (by simp only [] at r1 r2; omega) (by simp only [] at r1 r2; omega) (by simp only []; unfold maxLen; omega) Try.underlying43
        have G3 := (G2.more (N' := s1.N + 1) (by simp only []; omega)).setU (u := updI s1.us o (s1.us o + 1)) k2 m2 (updI_range G.ru (by simp only [] at r1 r2; omega))
        have hw2 : CkRep w2 F p (s.give (k : Int) o) := by rw [HV.out]; exact ⟨_, _, _, _, _, G3⟩
        have HT := Lib.hid (touch_any _ F p (s.give (k : Int) o) k hw2 (by rw [HV.out]; simp only []; omega))
        have HK2 := Lib.hid (((((K1.setCell (p := ⟨g2, k * 4, none⟩) (.inl hgF) (.bool true)).setCell (p := ⟨g2, k * 4 + 1, none⟩) (.inl hgF) (.bool false)).setCell (p := ⟨g2, k * 4 + 2, none⟩) (.inl hgF) (.bool false)).setCell (p := ⟨g2, k * 4 + 3, none⟩) (.inl hgF) (.int .i64 o)).trans k2 (fun x hx => .inl (by rw [List.mem_singleton.1 hx]; exact hbF)))
        clear pp G G2 G3 m2 k2 hw2 K1 k1
        simp only [] at q1 q2 r1 r2
        go_wp2_with fail
        refine HT.out.mono ?_
        rintro e w5 ⟨rfl, r5, k5⟩
        go_wp2
        go_end0
        rw [HU.out]
        exact ⟨rfl, r5, HK2.out.trans k5 (fun x hx => .inl hx)⟩
end Go.Proofs.Ytcikdffahnnbhaa
