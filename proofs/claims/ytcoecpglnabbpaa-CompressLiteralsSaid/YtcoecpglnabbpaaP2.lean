/- Packing: runs and literals. No program in sight. -/
import Derived.Test.YtcoecpglnabbpaaP1
namespace Go.Proofs.Ytcoecpglnabbpaa

theorem eqN_rep {a : UInt8} {k : Nat} {r : Bs} (hk : 1 ≤ k) (hr : r.head? ≠ some a) : eqN (List.replicate k a ++ r) = k := by
  obtain ⟨k, rfl⟩ : ∃ j, k = j + 1 := ⟨k - 1, by omega⟩
  rw [List.replicate_succ, List.cons_append, eqN_cons, List.takeWhile_append_of_pos (fun x hx => by simp [List.eq_of_mem_replicate hx])]
  have h3 : r.takeWhile (· == a) = [] := by
    cases r with
    | nil => rfl
    | cons b t =>
      rw [List.takeWhile_cons, if_neg]
      intro h
      apply hr
      simpa using h
  rw [h3]
  simp
  omega
/-- A run at the head is a piece. -/
theorem pieces_run {a : UInt8} {k : Nat} {r : Bs} (hk : 3 ≤ k) (hr : r.head? ≠ some a) : pieces (List.replicate k a ++ r) = (List.replicate k a, true) :: pieces r := by
  have he := eqN_rep (r := r) (by omega : 1 ≤ k) hr
  obtain ⟨j, rfl⟩ : ∃ j, k = j + 1 := ⟨k - 1, by omega⟩
  rw [List.replicate_succ, List.cons_append] at he ⊢
  have h3 : 3 ≤ eqN (a :: (List.replicate j a ++ r)) := by rw [he]; exact hk
  rw [pieces_cons, hd_run h3, he, decide_eq_true hk]
  have e : a :: (List.replicate j a ++ r) = List.replicate (j + 1) a ++ r := by rw [List.replicate_succ, List.cons_append]
  rw [e, List.take_left' (by simp), List.drop_left' (by simp), List.replicate_succ]
/-- Bytes in front of a run, or of the end. -/
theorem lit_of {p r : Bs} (hp : ∀ i, i < p.length → eqN ((p ++ r).drop i) < 3) (hr : r = [] ∨ 3 ≤ eqN r) : lit (p ++ r) = p.length := by
  induction p with
  | nil =>
    rw [List.nil_append]
    rcases hr with rfl | h
    · rfl
    · cases r with
      | nil => rfl
      | cons b t => unfold lit; rw [if_pos h]; rfl
  | cons a t ih =>
    rw [List.cons_append]
    have h0 := hp 0 (by simp)
    rw [List.drop_zero, List.cons_append] at h0
    unfold lit
    rw [if_neg (by omega), ih (fun i hi => by have := hp (i + 1) (by simp only [List.length_cons]; omega); rwa [List.cons_append, List.drop_succ_cons] at this)]
    simp only [List.length_cons]
    omega
theorem pieces_lit {p r : Bs} (h0 : p ≠ []) (hp : ∀ i, i < p.length → eqN ((p ++ r).drop i) < 3) (hr : r = [] ∨ 3 ≤ eqN r) : pieces (p ++ r) = (p, false) :: pieces r := by
  have hl := lit_of hp hr
  cases p with
  | nil => exact absurd rfl h0
  | cons a t =>
    rw [List.cons_append] at hl ⊢
    have h3 : ¬ 3 ≤ eqN (a :: (t ++ r)) := by have := hp 0 (by simp); rw [List.drop_zero, List.cons_append] at this; omega
    rw [pieces_cons, hd_lit h3, hl, decide_eq_false h3]
    have e : a :: (t ++ r) = (a :: t) ++ r := rfl
    rw [e, List.take_left' rfl, List.drop_left' rfl]
theorem form_run {a : UInt8} {k : Nat} {r : Bs} (hk : 3 ≤ k) (hr : r.head? ≠ some a) : form (List.replicate k a ++ r) = UInt8.ofNat (128 + k) :: a :: form r := by
  unfold form
  rw [pieces_run hk hr, List.flatMap_cons]
  obtain ⟨j, rfl⟩ : ∃ j, k = j + 1 := ⟨k - 1, by omega⟩
  simp [enc, List.replicate_succ]
theorem form_lit {p r : Bs} (h0 : p ≠ []) (hp : ∀ i, i < p.length → eqN ((p ++ r).drop i) < 3) (hr : r = [] ∨ 3 ≤ eqN r) : form (p ++ r) = UInt8.ofNat p.length :: (p ++ form r) := by
  unfold form
  rw [pieces_lit h0 hp hr, List.flatMap_cons]
  simp [enc]
/-- The examples. -/
def zeros : Bs := List.replicate 64 0
def abc : Bs := 97 :: 98 :: List.replicate 62 99
def pairs : Nat → Bs
  | 0 => []
  | n + 1 => pairs n ++ [97, 97, 98, 98]
theorem pack_zeros : packP zeros = some [192, 0] := by
  have h : form zeros = [192, 0] := by
    have := form_run (a := 0) (k := 64) (r := []) (by omega) (by simp)
    rw [List.append_nil, form_nil] at this
    exact this
  unfold packP
  rw [h, if_pos (by simp [zeros])]
theorem pack_abc : packP abc = some [2, 97, 98, 190, 99] := by
  have h2 := form_run (a := 99) (k := 62) (r := []) (by omega) (by simp)
  rw [List.append_nil, form_nil] at h2
  have h : form abc = [2, 97, 98, 190, 99] := by
    have := form_lit (p := [97, 98]) (r := List.replicate 62 99) (by simp) (by decide +kernel) (.inr (by decide +kernel))
    rw [h2] at this
    exact this
  unfold packP
  rw [h, if_pos (by simp [abc])]
theorem pack_pairs : packP (pairs 16) = none := by
  have h : form (pairs 16) = UInt8.ofNat 64 :: pairs 16 := by
    have := form_lit (p := pairs 16) (r := []) (by decide +kernel) (by decide +kernel) (.inl rfl)
    rw [List.append_nil, form_nil, List.append_nil] at this
    rw [this]
    rfl
  unfold packP
  rw [h, if_neg (by decide +kernel)]
end Go.Proofs.Ytcoecpglnabbpaa
