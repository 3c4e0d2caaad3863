/- TlbBounds: the plain law. -/
import Derived.Test.YtkfcoemdpcjhfaaT1
namespace Go.Proofs.Ytkfcoemdpcjhfaa
open Go.RowKit

/-- Whether an entry is one that the operation is about. -/
def hitQ (d : Int) (x e : En) : Bool := (d % 8 == 5 && e.is x.s x.p) || (d % 8 == 6 && e.f == x.f) || (d % 8 == 7 && e.s == x.s)
theorem look_mem' {t : Tl} {s p : Int} {b : Bool} {e : En} : e ∈ (t.look s p b).L ↔ e ∈ t.L := by
  refine ⟨look_mem, fun h => ?_⟩
  unfold Tl.look
  cases hh : t.hit s p b with
  | none => exact h
  | some i =>
    simp only
    by_cases hi : i < t.L.length
    · rw [List.getD_eq_getElem?_getD, List.getElem?_eq_getElem hi]
      simp only [Option.getD_some, List.mem_cons]
      obtain ⟨j, hj, rfl⟩ := List.getElem_of_mem h
      by_cases e : j = i
      · subst e; exact .inl rfl
      · right
        rw [List.mem_eraseIdx_iff_getElem]
        exact ⟨j, hj, e, rfl⟩
    · rw [List.eraseIdx_of_length_le (by omega)]
      exact List.mem_cons_of_mem _ h
theorem op_low {t : Tl} {d : Int} {x : En} (h : d % 8 ≤ 2) : t.op d x = t.look x.s x.p x.w := by
  unfold Tl.op; rw [if_neg (by omega), if_neg (by omega), if_neg (by omega), if_neg (by omega)]
theorem op_mem {t : Tl} {d : Int} {x e : En} (h3 : d % 8 ≠ 3) (h4 : d % 8 ≠ 4) (he : e ∈ t.L) : decide (e ∈ (t.op d x).L) = !hitQ d x e := by
  have h0 := Int.emod_nonneg d (by omega : (8 : Int) ≠ 0)
  have h1 := Int.emod_lt_of_pos d (by omega : (0 : Int) < 8)
  have : d % 8 ≤ 2 ∨ d % 8 = 5 ∨ d % 8 = 6 ∨ d % 8 = 7 := by omega
  rcases this with h | h | h | h
  · rw [op_low h]
    have e5 : (d % 8 == 5) = false := by simp; omega
    have e6 : (d % 8 == 6) = false := by simp; omega
    have e7 : (d % 8 == 7) = false := by simp; omega
    unfold hitQ
    rw [e5, e6, e7, decide_eq_true (look_mem'.2 he)]
    rfl
  all_goals
    unfold Tl.op hitQ
    rw [h]
    simp [Tl.drop, he]
    try rfl
theorem countP_not (L : List En) (q : En → Bool) : (L.filter (fun e => !q e)).length + L.countP q = L.length := by
  induction L with
  | nil => rfl
  | cons x r ih =>
    cases h : q x <;> simp [h] <;> omega
theorem look_len {t : Tl} {s p : Int} {b : Bool} : (t.look s p b).L.length = t.L.length := by
  unfold Tl.look
  cases hh : t.hit s p b with
  | none => rfl
  | some i =>
    have hi : i < t.L.length := by
      unfold Tl.hit at hh
      cases hf : t.L.findIdx? (fun e => e.is s p) with
      | none => rw [hf] at hh; cases hh
      | some j =>
        rw [hf] at hh
        simp only at hh
        split at hh
        · cases hh
        · injection hh with hh
          subst hh
          rw [List.findIdx?_eq_some_iff_getElem] at hf
          exact hf.1
    simp only [List.length_cons, List.length_eraseIdx_of_lt hi]
    omega
/-- How many entries the operation is about. -/
def goneN (d : Int) (x : En) (L : List En) : Nat := L.countP (hitQ d x)
theorem op_len {t : Tl} {d : Int} {x : En} (h3 : d % 8 ≠ 3) (h4 : d % 8 ≠ 4) : (t.op d x).L.length + goneN d x t.L = t.L.length := by
  have h0 := Int.emod_nonneg d (by omega : (8 : Int) ≠ 0)
  have h1 := Int.emod_lt_of_pos d (by omega : (0 : Int) < 8)
  have : d % 8 ≤ 2 ∨ d % 8 = 5 ∨ d % 8 = 6 ∨ d % 8 = 7 := by omega
  unfold goneN
  rcases this with h | h | h | h
  · have e5 : (d % 8 == 5) = false := by simp; omega
    have e6 : (d % 8 == 6) = false := by simp; omega
    have e7 : (d % 8 == 7) = false := by simp; omega
    have e : hitQ d x = fun _ => false := by funext y; unfold hitQ; rw [e5, e6, e7]; rfl
    rw [op_low h, look_len, e]
    simp
  · have e : hitQ d x = fun y => y.is x.s x.p := by funext y; unfold hitQ; rw [h]; simp
    rw [e, ← countP_not t.L (fun y => y.is x.s x.p)]
    unfold Tl.op; rw [h]; rfl
  · have e : hitQ d x = fun y => y.f == x.f := by funext y; unfold hitQ; rw [h]; simp
    rw [e, ← countP_not t.L (fun y => y.f == x.f)]
    unfold Tl.op; rw [h]; rfl
  · have e : hitQ d x = fun y => y.s == x.s := by funext y; unfold hitQ; rw [h]; simp
    rw [e, ← countP_not t.L (fun y => y.s == x.s)]
    unfold Tl.op; rw [h]; rfl
/-- No two entries of one page of a space. -/
def Nd (L : List En) : Prop := L.Pairwise (fun a b => ¬ (a.s = b.s ∧ a.p = b.p))
theorem Nd.filter {L : List En} (h : Nd L) (q : En → Bool) : Nd (L.filter q) := List.Pairwise.filter q h
theorem Nd.look {t : Tl} (h : Nd t.L) {s p : Int} {b : Bool} : Nd (t.look s p b).L := by
  unfold Tl.look
  cases hh : t.hit s p b with
  | none => exact h
  | some i =>
    simp only
    have hi : i < t.L.length := by
      unfold Tl.hit at hh
      cases hf : t.L.findIdx? (fun e => e.is s p) with
      | none => rw [hf] at hh; cases hh
      | some j =>
        rw [hf] at hh
        simp only at hh
        split at hh
        · cases hh
        · injection hh with hh
          subst hh
          rw [List.findIdx?_eq_some_iff_getElem] at hf
          exact hf.1
    rw [List.getD_eq_getElem?_getD, List.getElem?_eq_getElem hi, Option.getD_some]
    have hp : (t.L[i] :: t.L.eraseIdx i).Perm t.L := by
      rw [List.eraseIdx_eq_take_drop_succ]
      have e : t.L = t.L.take i ++ t.L[i] :: t.L.drop (i + 1) := by rw [← List.drop_eq_getElem_cons hi, List.take_append_drop]
      refine (List.perm_middle.symm).trans ?_
      rw [← e]
    exact (hp.pairwise_iff (fun hab hba => hab ⟨hba.1.symm, hba.2.symm⟩)).2 h
theorem Nd.fill {t : Tl} (h : Nd t.L) (x : En) : Nd (t.fill x).L := by
  unfold Tl.fill
  simp only
  split
  · exact h.filter _
  · refine List.Pairwise.cons (fun e he => ?_) ((h.filter _).sublist (List.take_sublist _ _))
    have := List.mem_of_mem_take he
    rw [List.mem_filter] at this
    intro hc
    have h2 := this.2
    unfold En.is at h2
    rw [hc.1, hc.2] at h2
    simp at h2
theorem Nd.op {t : Tl} (h : Nd t.L) (d : Int) (x : En) : Nd (t.op d x).L := by
  unfold Tl.op
  repeat' split
  · exact h.fill x
  · exact h.filter _
  · exact h.filter _
  · exact h.filter _
  · exact h.look
theorem Nd.at_ {L : List En} (h : Nd L) {a b : Nat} (ha : a < L.length) (hb : b < a) : ((L[a].s == (L[b]'(by omega)).s) && (L[a].p == (L[b]'(by omega)).p)) = false := by
  have := (List.pairwise_iff_getElem.1 h) b a (by omega) ha hb
  cases h1 : L[a].s == (L[b]'(by omega)).s with
  | false => rfl
  | true =>
    cases h2 : L[a].p == (L[b]'(by omega)).p with
    | false => rfl
    | true =>
      simp only [beq_iff_eq] at h1 h2
      exact (this ⟨h1.symm, h2.symm⟩).elim
end Go.Proofs.Ytkfcoemdpcjhfaa
