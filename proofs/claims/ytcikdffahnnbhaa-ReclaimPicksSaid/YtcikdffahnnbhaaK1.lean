/- What the walk of ReclaimWorks leans on: a clock whose frames are used by two owners, with no Pick between. -/
import Derived.Test.YtcikdffahnnbhaaD1
namespace Go.Proofs.Ytcikdffahnnbhaa
open Go.RowKit

theorem g_get {s : Ck} {f : Nat} : s.L.getD (f : Int).toNat fr0 = s.g f := by unfold Ck.g; simp
theorem used_g {s : Ck} {f : Nat} (h : f < s.L.length) : s.used (f : Int) = (s.g f).u := by rw [Ck.used_nat h]; unfold Ck.g; simp [List.getD, h]
/-- Use of a free frame. -/
theorem use_new {s : Ck} {f : Nat} (h : f < s.L.length) (hu : (s.g f).u = false) (o : Int) :
    s.use f o = { s with L := s.L.set f ⟨true, true, true, o⟩, us := updI s.us o (s.us o + 1), nw := updI s.nw o (s.nw o + 1), N := s.N + 2 } := by
  have hg : s.gone f = s := by unfold Ck.gone; rw [used_g h, hu]; rfl
  have hl : ((s.give f o).L)[f]? = some ⟨true, false, false, o⟩ := by unfold Ck.give; rw [hg]; simp [h]
  have hu2 : (s.give f o).used f = true := by
    rw [Ck.used_nat (by rw [give_len]; exact h)]
    have := List.getElem?_eq_some_iff.1 hl
    obtain ⟨h1, h2⟩ := this
    rw [h2]
  have hgd : (s.give f o).L.getD (f : Int).toNat fr0 = ⟨true, false, false, o⟩ := by rw [List.getD, Int.toNat_natCast, hl]; rfl
  unfold Ck.use
  rw [Ck.has_nat h, g_get, hu]
  simp only [if_true, Bool.not_false, Bool.true_or]
  unfold Ck.touch
  rw [hu2, hgd]
  simp only [if_true, Bool.false_eq_true, if_false]
  unfold Ck.give
  rw [hg]
  simp
/-- Use of a frame that is its owner's and touched, or a further touch: nothing turns. -/
theorem touch_old {s : Ck} {f : Nat} (h : f < s.L.length) (hu : (s.g f).u = true) (hm : (s.g f).m = true) (ht : (s.g f).t = true) : s.touch f = s := by
  unfold Ck.touch
  rw [used_g h, hu, g_get, ht]
  simp only [if_true]
  have : s.L.set f { s.g f with m := true } = s.L := by
    apply List.ext_getElem?
    intro i
    rw [List.getElem?_set]
    split
    · rename_i e; subst e
      first | rw [if_pos h] | skip
      unfold Ck.g at hm ⊢
      simp [List.getD, h] at hm ⊢
      cases hL : s.L[f] with
      | mk a b c d => rw [hL] at hm; simp at hm; rw [hm]
    · rfl
  rw [Int.toNat_natCast, this]
theorem use_old {s : Ck} {f : Nat} (h : f < s.L.length) (hu : (s.g f).u = true) (hm : (s.g f).m = true) (ht : (s.g f).t = true) : s.use f (s.g f).o = s := by
  unfold Ck.use
  rw [Ck.has_nat h, g_get, hu]
  simp [touch_old h hu hm ht]
/-- The clock's state: frames 2, 5, .. are the other's. -/
structure WI (s : Ck) (o1 o2 : Int) (mine : Nat → Bool) (n c : Nat) : Prop where
  len : s.L.length = n
  h0 : s.h = 0
  b0 : ∀ x, s.bf x = 0
  fr : ∀ f, f < n → (s.g f).u = true → (s.g f).m = true ∧ (s.g f).t = true ∧ (s.g f).o = if f % 3 = 2 then o2 else o1
  mi : ∀ f, f < n → mine f = ((s.g f).u && decide (f % 3 ≠ 2))
  cc : c = cnt mine n
  cu : s.us o1 = c
  cn : s.nw o1 = c
theorem WI.start (o1 o2 : Int) (n : Nat) : WI (ck0 n) o1 o2 (fun _ => false) n 0 := by
  have hg : ∀ f, (ck0 n).g f = fr0 := by
    intro f; unfold Ck.g ck0
    by_cases h : f < n <;> simp [List.getD, h]
  have hc : cnt (fun _ => false) n = 0 := by
    cases e : cnt (fun _ => false) n with
    | zero => rfl
    | succ k => obtain ⟨x, _, h⟩ := cnt_ex (f := fun _ => false) (n := n) (by omega); simp at h
  refine ⟨by simp [ck0], rfl, fun _ => rfl, fun f _ h => ?_, fun f _ => ?_, hc.symm, rfl, rfl⟩
  · rw [hg] at h; simp [fr0] at h
  · rw [hg]; simp [fr0]
theorem set_g {L : List Fr} {f x : Nat} {v : Fr} (h : f < L.length) : (L.set f v).getD x fr0 = if x = f then v else L.getD x fr0 := by
  simp only [List.getD, List.getElem?_set]
  by_cases e : f = x
  · subst e; simp [h]
  · have e2 : ¬ x = f := fun h => e h.symm
    simp [e, e2]
theorem WI.other {s : Ck} {o1 o2 : Int} {mine : Nat → Bool} {n c f : Nat} (h : WI s o1 o2 mine n c) (ho : o1 ≠ o2) (hf : f < n) (h3 : f % 3 = 2) :
    WI (s.use f o2) o1 o2 mine n c ∧ ((s.use f o2).g f).u = true := by
  have hl := h.len
  cases hu : (s.g f).u with
  | true =>
    obtain ⟨a, b, d⟩ := h.fr f hf hu
    rw [if_pos h3] at d
    have e := use_old (by omega) hu a b
    rw [d] at e
    rw [e]
    exact ⟨h, hu⟩
  | false =>
    rw [use_new (by omega) hu]
    have hg : ∀ x, Ck.g { s with L := s.L.set f ⟨true, true, true, o2⟩, us := updI s.us o2 (s.us o2 + 1), nw := updI s.nw o2 (s.nw o2 + 1), N := s.N + 2 } x = if x = f then ⟨true, true, true, o2⟩ else s.g x := fun x => set_g (by omega)
    refine ⟨⟨by simp [hl], h.h0, h.b0, fun x hx hxu => ?_, fun x hx => ?_, h.cc, ?_, ?_⟩, ?_⟩
    · rw [hg] at hxu ⊢
      by_cases e : x = f
      · subst e; rw [if_pos rfl] at hxu ⊢; simp [h3]
      · rw [if_neg e] at hxu ⊢; exact h.fr x hx hxu
    · rw [hg, h.mi x hx]
      by_cases e : x = f
      · subst e; simp [h3]
      · rw [if_neg e]
    · show updI s.us o2 _ o1 = _
      unfold updI; rw [if_neg ho]; exact h.cu
    · show updI s.nw o2 _ o1 = _
      unfold updI; rw [if_neg ho]; exact h.cn
    · rw [hg, if_pos rfl]
theorem WI.own {s : Ck} {o1 o2 : Int} {mine : Nat → Bool} {n c f : Nat} (h : WI s o1 o2 mine n c) (hf : f < n) (h3 : f % 3 ≠ 2) :
    WI ((s.use f o1).touch f) o1 o2 (upB mine f true) n (if mine f then c else c + 1) ∧ (((s.use f o1).touch f).g f).u = true ∧ ((s.use f o1).touch f).N ≤ s.N + 2 := by
  have hl := h.len
  have hmf := h.mi f hf
  cases hu : (s.g f).u with
  | true =>
    obtain ⟨a, b, d⟩ := h.fr f hf hu
    rw [if_neg h3] at d
    have e := use_old (by omega) hu a b
    rw [d] at e
    rw [e, touch_old (by omega) hu a b]
    rw [hu] at hmf
    simp [h3] at hmf
    rw [hmf]
    have hup : upB mine f true = mine := by funext x; unfold upB; by_cases e : x = f; · subst e; simp [hmf]
                                            · simp [e]
    rw [hup]
    exact ⟨by simpa using h, hu, by omega⟩
  | false =>
    rw [use_new (by omega) hu]
    rw [hu] at hmf
    simp at hmf
    rw [hmf]
    simp only [Bool.false_eq_true, if_false]
    have hg : ∀ x, Ck.g { s with L := s.L.set f ⟨true, true, true, o1⟩, us := updI s.us o1 (s.us o1 + 1), nw := updI s.nw o1 (s.nw o1 + 1), N := s.N + 2 } x = if x = f then ⟨true, true, true, o1⟩ else s.g x := fun x => set_g (by omega)
    have hgf := hg f
    rw [if_pos rfl] at hgf
    rw [touch_old (by simp; omega) (by rw [hgf]) (by rw [hgf]) (by rw [hgf])]
    refine ⟨⟨by simp [hl], h.h0, h.b0, fun x hx hxu => ?_, fun x hx => ?_, ?_, ?_, ?_⟩, ?_, ?_⟩
    · rw [hg] at hxu ⊢
      by_cases e : x = f
      · subst e; rw [if_pos rfl] at hxu ⊢; simp [h3]
      · rw [if_neg e] at hxu ⊢; exact h.fr x hx hxu
    · rw [hg]
      unfold upB
      by_cases e : x = f
      · subst e; simp [h3]
      · rw [if_neg e, if_neg e]; exact h.mi x hx
    · rw [cnt_on hf hmf, ← h.cc]
    · show updI s.us o1 _ o1 = _
      unfold updI; rw [if_pos rfl, h.cu]; rfl
    · show updI s.nw o1 _ o1 = _
      unfold updI; rw [if_pos rfl, h.cn]; rfl
    · rw [hg, if_pos rfl]
    · exact Nat.le_refl _
theorem pass_in {s : Ck} (h : s.h + 1 < s.L.length) : s.pass.nw = s.nw ∧ s.pass.bf = s.bf ∧ s.pass.us = s.us := by unfold Ck.pass; rw [if_pos h]; exact ⟨rfl, rfl, rfl⟩
theorem pass_end {s : Ck} (h : s.h + 1 = s.L.length) : (s.pass.nw = fun _ => 0) ∧ s.pass.bf = s.nw ∧ s.pass.us = s.us := by unfold Ck.pass; rw [if_neg (by omega)]; exact ⟨rfl, rfl, rfl⟩
theorem passN_in {s : Ck} (h : s.h = 0) (k : Nat) (hk : k < s.L.length) : (s.passN k).nw = s.nw ∧ (s.passN k).bf = s.bf ∧ (s.passN k).us = s.us ∧ (s.passN k).h = k := by
  have hh := passN_h (s := s) (by omega) k
  rw [h, Nat.zero_add, Nat.mod_eq_of_lt hk] at hh
  refine ⟨?_, ?_, ?_, hh⟩ <;> clear hh
  all_goals
    induction k with
    | zero => rfl
    | succ k ih =>
      have hh := passN_h (s := s) (by omega) k
      rw [h, Nat.zero_add, Nat.mod_eq_of_lt (by omega)] at hh
      have := pass_in (s := s.passN k) (by rw [hh, passN_len]; exact hk)
      first
        | exact this.1.trans (ih (by omega))
        | exact this.2.1.trans (ih (by omega))
        | exact this.2.2.trans (ih (by omega))
theorem passN_all {s : Ck} (h : s.h = 0) (hl : 0 < s.L.length) : ((s.passN s.L.length).nw = fun _ => 0) ∧ (s.passN s.L.length).bf = s.nw ∧ (s.passN s.L.length).us = s.us ∧ (s.passN s.L.length).h = 0 := by
  obtain ⟨k, hk⟩ : ∃ k, s.L.length = k + 1 := ⟨s.L.length - 1, by omega⟩
  obtain ⟨a, b, c, d⟩ := passN_in h k (by omega)
  have hh := passN_h (s := s) (by omega) s.L.length
  rw [h, Nat.zero_add, Nat.mod_self] at hh
  refine ⟨?_, ?_, ?_, hh⟩
  all_goals
    rw [hk]
    have := pass_end (s := s.passN k) (by rw [d, passN_len, hk])
  · exact this.1
  · exact this.2.1.trans a
  · exact this.2.2.trans c
/-- A Pick: the working set size stays, unless the victim is the last frame. -/
theorem WI.pick {s : Ck} {o1 o2 : Int} {mine : Nat → Bool} {n c x : Nat} (h : WI s o1 o2 mine n c) (hx : x < n) (hxu : (s.g x).u = true) :
    ∃ f : Nat, f < n ∧ s.victim.2 = true ∧ s.pickF = (f : Int) ∧ (max (s.picked.nw o1) (s.picked.bf o1) = if f + 1 = n then 0 else (c : Int)) ∧ s.picked.us o1 = c := by
  have hl := h.len
  have hh : s.h < s.L.length := by rw [h.h0]; omega
  have hc : 0 < cnt (fun x => (s.g x).u) s.L.length := cnt_pos (by omega) hxu
  obtain ⟨f, f1, f2, f3, f4, -⟩ := pick_gone hh hc
  rw [hl] at f1
  have hv1 : s.victim.1 = f := by unfold Ck.pickF at f3; rw [f2] at f3; exact f3
  refine ⟨f, f1, f2, f3, ?_⟩
  obtain ⟨fm, _, _⟩ := h.fr f f1 f4
  have e : s.picked = (((s.passN s.L.length).passN ((s.passN s.L.length).dist f)).pass) := by
    unfold Ck.picked Ck.take Ck.round
    rw [if_pos f2, if_pos (show (s.L.getD s.victim.1.toNat fr0).m = true by rw [hv1]; exact fm), hv1]
    rfl
  rw [e]
  obtain ⟨a1, a2, a3, a4⟩ := passN_all h.h0 (by omega)
  have l1 := passN_len s s.L.length
  generalize s.passN s.L.length = t at *
  have hd : t.dist f = f := by unfold Ck.dist; rw [a4, l1, hl, Nat.sub_zero, Nat.add_mod_right, Nat.mod_eq_of_lt f1]
  rw [hd]
  obtain ⟨b1, b2, b3, b4⟩ := passN_in a4 f (by omega)
  have l2 := passN_len t f
  generalize t.passN f = u at *
  by_cases he : f + 1 = n
  · obtain ⟨d1, d2, d3⟩ := pass_end (s := u) (by omega)
    rw [if_pos he, d1, d2, d3, b1, b3, a1, a3]
    exact ⟨by simp, h.cu⟩
  · obtain ⟨d1, d2, d3⟩ := pass_in (s := u) (by omega)
    rw [if_neg he, d1, d2, d3, b1, b2, b3, a1, a2, a3, h.cn]
    exact ⟨by simp, h.cu⟩
end Go.Proofs.Ytcikdffahnnbhaa
