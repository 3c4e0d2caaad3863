/- The walks of Owner, Used, Work, over, Hand. -/
import Derived.Test.YtcikdffahnnbhaaW1
namespace Go.Proofs.Ytcikdffahnnbhaa
open Go.RowKit

theorem Ck.has_nat {s : Ck} {k : Nat} (h : k < s.L.length) : s.has (k : Int) = true := by simp [Ck.has, h]
theorem Ck.has_lt {s : Ck} {f : Int} (h : s.has f = true) : ∃ k : Nat, f = k ∧ k < s.L.length := by
  unfold Ck.has at h
  simp at h
  exact ⟨f.toNat, by omega, by omega⟩
theorem Ck.get_nat {s : Ck} {k : Nat} (h : k < s.L.length) : s.L.getD ((k : Int)).toNat fr0 = s.L[k] := by simp [List.getD, h]
theorem Ck.used_nat {s : Ck} {k : Nat} (h : k < s.L.length) : s.used (k : Int) = s.L[k].u := by unfold Ck.used; rw [s.has_nat h, Ck.get_nat h]; simp
theorem Ck.used_no {s : Ck} {f : Int} (h : s.has f = false) : s.used f = false := by unfold Ck.used; rw [h]; rfl
def Ck.own (s : Ck) (f : Int) : Int := if s.used f then (s.L.getD f.toNat fr0).o else 0

set_option maxRecDepth 100000 in
set_option maxHeartbeats 800000 in
theorem owner_any (w : World) (F : List Nat) (p : Nat) (s : Ck) (f : Int) (h : CkRep w F p s) :
    Calls Try.prog 9 #[.pointer (some ⟨p, 0, none⟩), .int .i64 f] w fun e w' => e = .returned (.tuple #[.int .i64 (s.own f), .bool (s.used f)]) ∧ w = w' := by
  have hh := has_any w F p s f h
  cases hb : s.has f with
  | false =>
    rw [hb] at hh
    have HH := Lib.hid hh
    have HU := Lib.hid (s.used_no hb)
    clear hh hb
    go_enter Try.func9, Try.ntmps9
    go_wp2_with fail
    refine HH.out.mono ?_
    rintro e w1 ⟨rfl, rfl⟩
    go_wp2
    go_ret2
    unfold Ck.own
    rw [HU.out]
    exact ⟨rfl, rfl⟩
  | true =>
    rw [hb] at hh
    have HH := Lib.hid hh
    obtain ⟨k, rfl, hk⟩ := s.has_lt hb
    obtain ⟨g, cap, bu, bn, bb, h⟩ := h
    have c0 := h.e0
    have p0 := h.cellj hk (j := 0) (by omega) (v := .bool s.L[k].u) rfl
    have p3 := h.cellj hk (j := 3) (by omega) (v := .int .i64 s.L[k].o) rfl
    simp only [Nat.add_zero] at p0
    have HU := Lib.hid (s.used_nat hk)
    have HG := Lib.hid (Ck.get_nat hk)
    have hl := h.l1
    have hi0 : (0 : Int) ≤ (k : Int) := by omega
    have hi1 : (k : Int) < (s.L.length : Int) := by omega
    clear hh hb h
    generalize hx : s.L[k] = x at *
    obtain ⟨x1, x2, x3, x4⟩ := x
    clear hx
    cases x1
    · go_enter Try.func9, Try.ntmps9
      go_wp2_with fail
      refine HH.out.mono ?_
      rintro e w1 ⟨rfl, rfl⟩
      go_wp2
      go_ret2
      unfold Ck.own
      rw [HU.out]
      exact ⟨rfl, rfl⟩
    · go_enter Try.func9, Try.ntmps9
      go_wp2_with fail
      refine HH.out.mono ?_
      rintro e w1 ⟨rfl, rfl⟩
      go_wp2
      go_ret2
      unfold Ck.own
      rw [HU.out, HG.out]
      exact ⟨rfl, rfl⟩

theorem used_any (w : World) (F : List Nat) (p : Nat) (s : Ck) (o : Int) (h : CkRep w F p s) (h1 : -9223372036854775808 ≤ o) (h2 : o ≤ 9223372036854775807) :
    Calls Try.prog 15 #[.pointer (some ⟨p, 0, none⟩), .int .i64 o] w fun e w' => e = .returned (.int .i64 (s.us o)) ∧ w = w' := by
  obtain ⟨g, cap, bu, bn, bb, h⟩ := h
  have c2 := h.e2
  have HM := Lib.hid h.mu
  clear h
  go_enter Try.func15, Try.ntmps15
  go_wp2_with (at_lookup; refine wpList_look rfl _ _ 43 rfl Try.underlying43 bu s.N s.us rfl HM.out o rfl h1 h2 ?_)
  go_ret
  exact ⟨rfl, rfl⟩

set_option maxHeartbeats 800000 in
theorem work_any (w : World) (F : List Nat) (p : Nat) (s : Ck) (o : Int) (h : CkRep w F p s) (h1 : -9223372036854775808 ≤ o) (h2 : o ≤ 9223372036854775807) :
    Calls Try.prog 16 #[.pointer (some ⟨p, 0, none⟩), .int .i64 o] w fun e w' => e = .returned (.int .i64 (max (s.nw o) (s.bf o))) ∧ CkRep w' F p s ∧ Keeps [] w w' := by
  have hr := Lib.hid h
  obtain ⟨g, cap, bu, bn, bb, h⟩ := h
  have c3 := h.e3
  have c4 := h.e4
  have q1 := h.mn.drew.look h1 h2 Try.underlying43
  have q2 := h.mb.drew.look h1 h2 Try.underlying43
  clear h
  go_enter Try.func16, Try.ntmps16
  go_wp2_with fail
  go_region
  all_goals go_wp2
  all_goals
    go_ret
    exact ⟨ret_int (by omega), hr.out.keep ((Keeps.refl [] w).drew) (by simp), (Keeps.refl [] w).drew⟩

theorem hand_any (w : World) (F : List Nat) (p : Nat) (s : Ck) (h : CkRep w F p s) :
    Calls Try.prog 17 #[.pointer (some ⟨p, 0, none⟩)] w fun e w' => e = .returned (.int .i64 s.h) ∧ w = w' := by
  obtain ⟨g, cap, bu, bn, bb, h⟩ := h
  have c1 := h.e1
  clear h
  go_enter Try.func17, Try.ntmps17
  go_wp2
  go_ret
  exact ⟨rfl, rfl⟩

set_option maxHeartbeats 1600000 in
theorem over_any (w : World) (F : List Nat) (p : Nat) (s : Ck) (o : Int) (h : CkRep w F p s) (h1 : -9223372036854775808 ≤ o) (h2 : o ≤ 9223372036854775807) :
    Calls Try.prog 24 #[.pointer (some ⟨p, 0, none⟩), .int .i64 o] w fun e w' => e = .returned (.bool (s.over o)) ∧ CkRep w' F p s ∧ Keeps [] w w' := by
  have kd : Keeps [] w w.drew := (Keeps.refl [] w).drew
  have hw := fun W (hW : CkRep W F p s) => work_any W F p s o hW h1 h2
  have j1 := h.keep kd (by simp)
  have HW := Lib.hid hw
  obtain ⟨g, cap, bu, bn, bb, h⟩ := h
  have HL : Hid (∀ W, Keeps [] w W → (W.cell? ⟨p, 2, none⟩ = some (.map (some bu)) ∧ (Instr.lookup 43 (.map (some bu)) (.int .i64 o) false).run Try.prog W = .ok (.int .i64 (s.us o)) W)) := Lib.hid (fun W hk => ⟨(h.keep hk (by simp)).e2, (h.keep hk (by simp)).mu.look h1 h2 Try.underlying43⟩)
  obtain ⟨c2, q2⟩ := HL.out _ kd
  clear h hw
  go_enter Try.func24, Try.ntmps24
  go_wp2_with fail
  go_region_held3 (fun w' => CkRep w' F p s ∧ w'.cell? ⟨p, 2, none⟩ = some (.map (some bu)) ∧ (Instr.lookup 43 (.map (some bu)) (.int .i64 o) false).run Try.prog w' = .ok (.int .i64 (s.us o)) w' ∧ Keeps [] w w')
    (first
      | exact ⟨j1, c2, q2, kd⟩
      | (go_split_ands; exact ⟨by assumption, by assumption, by assumption, by assumption⟩))
    ((go_split_ands; go_at_call 16; refine (HW.out _ (by assumption)).mono ?_; rintro e w8 ⟨rfl, m1, k8⟩; have m6 := Keeps.trans (F := []) (a := w) (by assumption) k8 (by simp); obtain ⟨m2, m3⟩ := HL.out _ m6))
  all_goals
    go_wp2
    go_ret
    go_split_ands
    exact ⟨rfl, by assumption, by assumption⟩
end Go.Proofs.Ytcikdffahnnbhaa
