/- TlbTrue: the plain law. -/
import Derived.Test.YtkfcoemdpcjhfaaW10
namespace Go.Proofs.Ytkfcoemdpcjhfaa
open Go.RowKit

/-- The last Fill of a page that still counts, as the law reckons it: one operation more. -/
def lstep (en : Nat → En) (s p : Int) (k : Nat) (d : Int) (last : Int) : Int :=
  if d % 8 = 3 ∨ d % 8 = 4 then (if (en k).is s p then (k : Int) else last)
  else if d % 8 = 5 then (if (en k).is s p then -1 else last)
  else if d % 8 = 6 then (if decide (0 ≤ last) && (en last.toNat).f == (en k).f then -1 else last)
  else if d % 8 = 7 then (if (en k).s == s then -1 else last)
  else last
def lastK (d : Nat → Int) (en : Nat → En) (s p : Int) : Nat → Int
  | 0 => -1
  | k + 1 => lstep en s p k (d k) (lastK d en s p k)
theorem lstep_range {en : Nat → En} {s p : Int} {k : Nat} {d last : Int} (h : -1 ≤ last ∧ last < k) : -1 ≤ lstep en s p k d last ∧ lstep en s p k d last < (k + 1 : Nat) := by
  unfold lstep
  repeat' split
  all_goals omega
theorem lastK_range (d : Nat → Int) (en : Nat → En) (s p : Int) (k : Nat) : -1 ≤ lastK d en s p k ∧ lastK d en s p k < k := by
  induction k with
  | zero => simp [lastK]
  | succ k ih => exact lstep_range ih
/-- What the cache holds was filled in last. -/
def TrueI (d : Nat → Int) (en : Nat → En) (t : Tl) (i : Nat) : Prop :=
  ∀ e ∈ t.L, ∃ k : Nat, lastK d en e.s e.p i = k ∧ (en k).f = e.f ∧ (en k).w = e.w
theorem look_mem {t : Tl} {s p : Int} {b : Bool} {e : En} (h : e ∈ (t.look s p b).L) : e ∈ t.L := by
  unfold Tl.look Tl.hit at h
  cases hf : t.L.findIdx? (fun e => e.is s p) with
  | none => rw [hf] at h; exact h
  | some i =>
    have hi : i < t.L.length := by rw [List.findIdx?_eq_some_iff_getElem] at hf; exact hf.1
    rw [hf] at h
    simp only at h
    split at h
    · exact h
    · rename_i j hj
      split at hj
      · cases hj
      · injection hj with hj
        subst hj
        simp only [List.mem_cons] at h
        rcases h with rfl | h
        · simp [List.getD, hi]
        · exact List.mem_of_mem_eraseIdx h
theorem TrueI.step {d : Nat → Int} {en : Nat → En} {t : Tl} {i : Nat} (h : TrueI d en t i) : TrueI d en (t.op (d i) (en i)) (i + 1) := by
  intro e he
  show ∃ k : Nat, lstep en e.s e.p i (d i) (lastK d en e.s e.p i) = k ∧ _
  unfold Tl.op at he
  unfold lstep
  by_cases c1 : d i % 8 = 3 ∨ d i % 8 = 4
  · rw [if_pos c1] at he ⊢
    have key : e = en i ∨ (e ∈ t.L ∧ e.is (en i).s (en i).p = false) := by
      unfold Tl.fill at he
      simp only at he
      split at he
      · exact .inr (by simpa using he)
      · simp only [List.mem_cons] at he
        rcases he with rfl | he
        · exact .inl rfl
        · exact .inr (by simpa using List.mem_of_mem_take he)
    rcases key with rfl | ⟨hm, hk⟩
    · exact ⟨i, by simp [En.is], rfl, rfl⟩
    · obtain ⟨k, h1, h2, h3⟩ := h e hm
      refine ⟨k, ?_, h2, h3⟩
      rw [if_neg, h1]
      unfold En.is at hk ⊢
      intro hc
      simp only [Bool.and_eq_true, beq_iff_eq] at hc
      rw [hc.1, hc.2] at hk
      simp at hk
  rw [if_neg c1] at he ⊢
  by_cases c2 : d i % 8 = 5
  · rw [if_pos c2] at he ⊢
    simp only [Tl.drop, List.mem_filter, Bool.not_eq_true'] at he
    obtain ⟨k, h1, h2, h3⟩ := h e he.1
    refine ⟨k, ?_, h2, h3⟩
    rw [if_neg, h1]
    unfold En.is at he ⊢
    intro hc
    simp only [Bool.and_eq_true, beq_iff_eq] at hc
    rw [hc.1, hc.2] at he
    simp at he
  rw [if_neg c2] at he ⊢
  by_cases c3 : d i % 8 = 6
  · rw [if_pos c3] at he ⊢
    simp only [Tl.drop, List.mem_filter, Bool.not_eq_true', beq_eq_false_iff_ne] at he
    obtain ⟨k, h1, h2, h3⟩ := h e he.1
    refine ⟨k, ?_, h2, h3⟩
    rw [h1, if_neg]
    intro hc
    simp only [Bool.and_eq_true, beq_iff_eq, Int.toNat_natCast] at hc
    exact he.2 (by rw [← h2]; exact hc.2)
  rw [if_neg c3] at he ⊢
  by_cases c4 : d i % 8 = 7
  · rw [if_pos c4] at he ⊢
    simp only [Tl.drop, List.mem_filter, Bool.not_eq_true', beq_eq_false_iff_ne] at he
    obtain ⟨k, h1, h2, h3⟩ := h e he.1
    refine ⟨k, ?_, h2, h3⟩
    rw [if_neg, h1]
    intro hc
    simp only [beq_iff_eq] at hc
    exact he.2 hc.symm
  rw [if_neg c4] at he ⊢
  obtain ⟨k, h1, h2, h3⟩ := h e (look_mem he)
  exact ⟨k, h1, h2, h3⟩
/-- What Look finds. -/
theorem TrueI.found {d : Nat → Int} {en : Nat → En} {t : Tl} {i : Nat} (h : TrueI d en t i) {s p : Int} {b : Bool} (hr : (t.lookR s p b).2 = true) :
    ∃ k : Nat, lastK d en s p i = k ∧ (en k).f = (t.lookR s p b).1 ∧ (b = true → (en k).w = true) := by
  unfold Tl.lookR Tl.hit at hr ⊢
  cases hf : t.L.findIdx? (fun e => e.is s p) with
  | none => rw [hf] at hr; simp at hr
  | some j =>
    rw [hf] at hr
    have hj := hf
    rw [List.findIdx?_eq_some_iff_getElem] at hj
    obtain ⟨hi, hq, -⟩ := hj
    have hg : t.L.getD j en0 = t.L[j] := by simp [List.getD, hi]
    simp only [hg] at hr ⊢
    obtain ⟨k, h1, h2, h3⟩ := h _ (List.getElem_mem hi)
    unfold En.is at hq
    simp only [Bool.and_eq_true, beq_iff_eq] at hq
    rw [hq.1, hq.2] at h1
    cases hb : (b && !t.L[j].w) with
    | true => rw [hb] at hr; simp at hr
    | false =>
      simp only [Bool.false_eq_true, if_false]
      refine ⟨k, h1, by rw [h2, hg], fun hbt => ?_⟩
      rw [hbt] at hb
      rw [h3]
      simpa using hb
theorem lookR_no {t : Tl} {s p : Int} {b : Bool} (h : (t.lookR s p b).2 = false) : (t.lookR s p b).1 = 0 := by
  unfold Tl.lookR at h ⊢
  split at h <;> simp_all
end Go.Proofs.Ytkfcoemdpcjhfaa
