/- CompressRuns: the plain law. No program in sight. -/
import Derived.Test.YtcoecpglnabbpaaP2
namespace Go.Proofs.Ytcoecpglnabbpaa

abbrev Rn := Nat × UInt8
def pageOf (ps : List Rn) : Bs := ps.flatMap (fun x => List.replicate x.1 x.2)
def formOf (ps : List Rn) : Bs := ps.flatMap (fun x => [UInt8.ofNat (128 + x.1), x.2])
def lastOf (ps : List Rn) : Int := match ps.getLast? with
  | none => -1
  | some x => (x.2.toNat : Int)
/-- Neighbours differ. -/
def Alt : List Rn → Prop
  | [] => True
  | x :: r => (∀ y, r.head? = some y → x.2 ≠ y.2) ∧ Alt r
theorem Alt.snoc {ps : List Rn} {k : Nat} {a : UInt8} (h : Alt ps) (hl : (a.toNat : Int) ≠ lastOf ps) : Alt (ps ++ [(k, a)]) := by
  induction ps with
  | nil => exact ⟨by simp, trivial⟩
  | cons x r ih =>
    cases r with
    | nil =>
      refine ⟨fun y hy => ?_, by simp, trivial⟩
      obtain rfl : (k, a) = y := by injection hy
      intro e
      exact hl (by show (a.toNat : Int) = (x.2.toNat : Int); rw [e])
    | cons y t =>
      refine ⟨h.1, ih h.2 ?_⟩
      intro e
      apply hl
      rw [e]
      simp [lastOf]
theorem pageOf_snoc (ps : List Rn) (k : Nat) (a : UInt8) : pageOf (ps ++ [(k, a)]) = pageOf ps ++ List.replicate k a := by simp [pageOf]
theorem formOf_snoc (ps : List Rn) (k : Nat) (a : UInt8) : formOf (ps ++ [(k, a)]) = formOf ps ++ [UInt8.ofNat (128 + k), a] := by simp [formOf]
theorem lastOf_snoc (ps : List Rn) (k : Nat) (a : UInt8) : lastOf (ps ++ [(k, a)]) = (a.toNat : Int) := by simp [lastOf]
theorem formOf_len (ps : List Rn) : (formOf ps).length = 2 * ps.length := by
  induction ps with
  | nil => rfl
  | cons x r ih => simp only [formOf, List.flatMap_cons, List.length_append, List.length_cons, List.length_nil] at ih ⊢; omega
theorem form_page {ps : List Rn} (h : Alt ps) (hg : ∀ x ∈ ps, 3 ≤ x.1) : form (pageOf ps) = formOf ps := by
  induction ps with
  | nil => exact form_nil
  | cons x r ih =>
    have e : pageOf (x :: r) = List.replicate x.1 x.2 ++ pageOf r := rfl
    rw [e, form_run (hg x (by simp)) ?_, ih h.2 (fun y hy => hg y (by simp [hy]))]
    · rfl
    · cases r with
      | nil => simp [pageOf]
      | cons y t =>
        have h3 := hg y (by simp)
        obtain ⟨j, hj⟩ : ∃ j, y.1 = j + 1 := ⟨y.1 - 1, by omega⟩
        have e2 : pageOf (y :: t) = List.replicate y.1 y.2 ++ pageOf t := rfl
        rw [e2, hj, List.replicate_succ]
        simp only [List.cons_append, List.head?_cons, ne_eq, Option.some.injEq]
        exact fun e => h.1 y rfl e.symm
/-- The whole page. -/
theorem pack_runs {ps : List Rn} {k : Nat} {a : UInt8} (h : Alt ps) (hg : ∀ x ∈ ps, 3 ≤ x.1) (hl : (a.toNat : Int) ≠ lastOf ps) (hk : 3 ≤ k) (hp : (pageOf ps).length + k = 64) :
    packP (pageOf ps ++ List.replicate k a) = if ps.length + 1 ≤ 23 then some (formOf ps ++ [UInt8.ofNat (128 + k), a]) else none := by
  have hf := form_page (h.snoc (k := k) hl) (fun x hx => by
    rcases List.mem_append.1 hx with h1 | h1
    · exact hg x h1
    · simp at h1; subst h1; exact hk)
  rw [pageOf_snoc, formOf_snoc] at hf
  unfold packP
  rw [hf]
  have hlen : (formOf ps ++ [UInt8.ofNat (128 + k), a]).length = 2 * ps.length + 2 := by simp [formOf_len]
  by_cases hc : ps.length + 1 ≤ 23
  · rw [if_pos hc, if_pos ⟨by simp; omega, by rw [hlen]; omega⟩]
  · rw [if_neg hc, if_neg (fun hh => by rw [hlen] at hh; omega)]
end Go.Proofs.Ytcoecpglnabbpaa
