/- The plain laws of the clock: what the victim is, and what Pick leaves. -/
import Derived.Test.YtcikdffahnnbhaaW9
namespace Go.Proofs.Ytcikdffahnnbhaa
open Go.RowKit

def Ck.g (s : Ck) (f : Nat) : Fr := s.L.getD f fr0
theorem Ck.vst_spec (s : Ck) (i : Nat) :
    (((s.vst i).1 < 0 ∧ ∀ j, j < i → (s.fr j).u = true → (s.fr j).m = true) ∨ ∃ j, j < i ∧ (s.vst i).1 = s.at j ∧ (s.fr j).u = true ∧ (s.fr j).m = false) ∧
    (((s.vst i).2 < 0 ∧ ∀ j, j < i → (s.fr j).u = false) ∨ ∃ j, j < i ∧ (s.vst i).2 = s.at j ∧ (s.fr j).u = true) := by
  induction i with
  | zero => exact ⟨.inl ⟨by simp [Ck.vst], fun j hj => by omega⟩, .inl ⟨by simp [Ck.vst], fun j hj => by omega⟩⟩
  | succ i ih =>
    obtain ⟨h1, h2⟩ := ih
    unfold Ck.vst
    cases hu : (s.fr i).u with
    | false =>
      simp only [Bool.false_eq_true, if_false]
      refine ⟨?_, ?_⟩
      · rcases h1 with ⟨a, b⟩ | ⟨j, hj, b⟩
        · refine .inl ⟨a, fun j hj hx => ?_⟩
          by_cases e : j = i
          · subst e; rw [hu] at hx; simp at hx
          · exact b j (by omega) hx
        · exact .inr ⟨j, by omega, b⟩
      · rcases h2 with ⟨a, b⟩ | ⟨j, hj, b⟩
        · refine .inl ⟨a, fun j hj => ?_⟩
          by_cases e : j = i
          · subst e; exact hu
          · exact b j (by omega)
        · exact .inr ⟨j, by omega, b⟩
    | true =>
      simp only [if_true]
      refine ⟨?_, ?_⟩
      · rcases h1 with ⟨a, b⟩ | ⟨j, hj, b1, b2⟩
        · cases hm : (s.fr i).m with
          | false =>
            right
            refine ⟨i, by omega, ?_, hu, hm⟩
            simp [a]
          | true =>
            left
            refine ⟨by simpa using a, fun j hj hx => ?_⟩
            by_cases e : j = i
            · subst e; exact hm
            · exact b j (by omega) hx
        · right
          have : ¬ (s.vst i).1 < 0 := by rw [b1]; omega
          refine ⟨j, by omega, ?_, b2⟩
          simp [b1]
          intro _ h; omega
      · rcases h2 with ⟨a, b⟩ | ⟨j, hj, b1, b2⟩
        · exact .inr ⟨i, by omega, by simp [a], hu⟩
        · have : ¬ (s.vst i).2 < 0 := by rw [b1]; omega
          exact .inr ⟨j, by omega, by simp [b1]; intro h; omega, b2⟩
theorem Ck.at_dist {s : Ck} (h : s.h < s.L.length) {f : Nat} (hf : f < s.L.length) : s.at (s.dist f) = f := dist_at h hf
theorem Ck.fr_dist {s : Ck} (h : s.h < s.L.length) {f : Nat} (hf : f < s.L.length) : s.fr (s.dist f) = s.g f := by unfold Ck.fr Ck.g; rw [Ck.at_dist h hf]
theorem Ck.fr_at (s : Ck) (i : Nat) : s.fr i = s.g (s.at i) := rfl
theorem Ck.victim_no {s : Ck} (h : s.h < s.L.length) (hv : s.victim.2 = false) {f : Nat} (hf : f < s.L.length) : (s.g f).u = false := by
  by_cases hs : ∀ i, i < s.L.length → s.stop i = false
  · rw [Ck.victim_none hs] at hv
    obtain ⟨h1, h2⟩ := Ck.vst_spec s s.L.length
    split at hv
    · simp at hv
    · simp only [decide_eq_false_iff_not] at hv
      rcases h2 with ⟨a, b⟩ | ⟨j, hj, b1, b2⟩
      · rw [← Ck.fr_dist h hf]; exact b _ (dist_lt h f)
      · rw [b1] at hv; omega
  · exfalso
    cases hc : (List.range s.L.length).find? s.stop with
    | none => exact hs (fun i hi => by have := List.find?_eq_none.1 hc i (List.mem_range.2 hi); simpa using this)
    | some i => unfold Ck.victim at hv; rw [hc] at hv; simp at hv
theorem Ck.victim_ok {s : Ck} (h : s.h < s.L.length) (hv : s.victim.2 = true) : ∃ f, f < s.L.length ∧ s.victim.1 = (f : Int) ∧ (s.g f).u = true ∧
    ((s.g f).m = true → ∀ x, x < s.L.length → (s.g x).u = true → (s.g x).m = true) ∧
    (∀ x, x < s.L.length → (s.g x).u = true → (s.g x).m = false → s.over (s.g x).o = true → s.over (s.g f).o = true ∧ (s.g f).m = false) := by
  cases hc : (List.range s.L.length).find? s.stop with
  | some i =>
    have hst : s.stop i = true := (List.find?_range_eq_some.1 hc).1
    have hi : i < s.L.length := by simpa using (List.find?_range_eq_some.1 hc).2.1
    unfold Ck.stop at hst
    simp only [Bool.and_eq_true, Bool.not_eq_true'] at hst
    refine ⟨s.at i, Ck.at_lt (by omega) i, ?_, hst.1.1, fun hm => ?_, fun x _ _ _ _ => ⟨hst.2, hst.1.2⟩⟩
    · unfold Ck.victim; rw [hc]
    · rw [Ck.fr_at] at hst; rw [hst.1.2] at hm; simp at hm
  | none =>
    have hs : ∀ i, i < s.L.length → s.stop i = false := fun i hi => by have := List.find?_eq_none.1 hc i (List.mem_range.2 hi); simpa using this
    have hns : ∀ x, x < s.L.length → (s.g x).u = true → (s.g x).m = false → s.over (s.g x).o = true → False := by
      intro x hx a b c
      have := hs _ (dist_lt h x)
      unfold Ck.stop at this
      rw [Ck.fr_dist h hx, a, b, c] at this
      simp at this
    obtain ⟨h1, h2⟩ := Ck.vst_spec s s.L.length
    rw [Ck.victim_none hs] at hv ⊢
    split at hv
    · rename_i h0
      rw [if_pos h0]
      rcases h1 with ⟨a, b⟩ | ⟨j, hj, b1, b2, b3⟩
      · omega
      · refine ⟨s.at j, Ck.at_lt (by omega) j, b1, b2, fun hm => ?_, fun x hx a b c => (hns x hx a b c).elim⟩
        rw [Ck.fr_at] at b3; rw [b3] at hm; simp at hm
    · rename_i h0
      rw [if_neg h0]
      simp only [decide_eq_true_eq] at hv
      rcases h2 with ⟨a, b⟩ | ⟨j, hj, b1, b2⟩
      · omega
      · refine ⟨s.at j, Ck.at_lt (by omega) j, ?_, b2, fun hm x hx hu => ?_, fun x hx a b c => (hns x hx a b c).elim⟩
        · show max (s.vst s.L.length).2 0 = _
          rw [b1]; omega
        · rcases h1 with ⟨_, b⟩ | ⟨j, hj, b1, _⟩
          · have := b _ (dist_lt h x)
            rw [Ck.fr_dist h hx] at this
            exact this hu
          · exfalso; rw [b1] at h0; omega
/-- Used, and by whom. -/
def uo (x : Fr) : Bool × Int := (x.u, x.o)
theorem set_map_same {α : Type} (k : Fr → α) (L : List Fr) (i : Nat) (x : Fr) (h : k x = k (L.getD i fr0)) : (L.set i x).map k = L.map k := by
  apply List.ext_getElem
  · simp
  · intro j h1 h2
    simp only [List.getElem_map, List.getElem_set]
    split
    · rename_i e; subst e
      have : i < L.length := by simpa using h2
      rw [h]; simp [List.getD, this]
    · rfl
theorem pass_uo (s : Ck) : s.pass.L.map uo = s.L.map uo := by
  have h1 : s.L1.map uo = s.L.map uo := set_map_same uo _ _ _ rfl
  unfold Ck.pass
  split
  · exact h1
  · show (s.L1.map untouch).map uo = _
    rw [List.map_map, ← h1]
    rfl
theorem passN_uo (s : Ck) (k : Nat) : (s.passN k).L.map uo = s.L.map uo := by
  induction k with
  | zero => rfl
  | succ k ih => show (s.passN k).pass.L.map uo = _; rw [pass_uo, ih]
theorem picked_uo (s : Ck) : s.picked.L.map uo = s.L.map uo := by
  unfold Ck.picked Ck.take Ck.round
  split
  · rw [pass_uo, passN_uo]; split
    · rw [passN_uo]
    · rfl
  · rfl
theorem g_uo {s t : Ck} (h : s.L.map uo = t.L.map uo) (f : Nat) : uo (s.g f) = uo (t.g f) := by
  have hl : s.L.length = t.L.length := by simpa using congrArg List.length h
  unfold Ck.g
  by_cases hf : f < s.L.length
  · have := List.getElem_of_eq h (i := f) (by simpa using hf)
    simp only [List.getElem_map] at this
    simpa [List.getD, hf, hl ▸ hf] using this
  · simp [List.getD, hf, show ¬ f < t.L.length by omega]
theorem picked_u (s : Ck) (f : Nat) : (s.picked.g f).u = (s.g f).u := congrArg Prod.fst (g_uo (picked_uo s) f)
theorem gone_g (s : Ck) {f : Nat} (hf : f < s.L.length) (x : Nat) : ((s.gone (f : Int)).g x).u = if x = f then false else (s.g x).u := by
  unfold Ck.gone
  rw [Ck.used_nat hf]
  unfold Ck.g
  split
  · simp only [List.getD, Int.toNat_natCast, List.getElem?_set]
    by_cases e : f = x
    · subst e; simp [hf, fr0]
    · have e2 : ¬ x = f := fun h => e h.symm
      simp [e, e2]
  · rename_i hu
    split
    · rename_i e; subst e; simp [List.getD, hf]; simpa using hu
    · rfl
theorem ck_hlt {w : World} {F : List Nat} {p : Nat} {s : Ck} (h : CkRep w F p s) : s.h < s.L.length := by obtain ⟨_, _, _, _, _, h⟩ := h; exact h.hh
end Go.Proofs.Ytcikdffahnnbhaa
