/- The reference: Form, the plain side. -/
import Derived.Test.YtcoecpglnabbpaaE3
namespace Go.Proofs.Ytcoecpglnabbpaa
open Go.RowKit

/-- A piece's packed form, as the reference reckons it: a piece that begins with three equal bytes is a run. -/
def renc (p : Bs) : Bs := enc (p, decide (3 ≤ eqN p))
theorem eqN_take {a : UInt8} {r : Bs} : eqN ((a :: r).take (eqN (a :: r))) = eqN (a :: r) := by
  rw [take_eqN]
  have := eqN_rep (a := a) (k := eqN (a :: r)) (r := []) eqN_pos (by simp)
  rwa [List.append_nil] at this
theorem takeWhile_take (q : UInt8 → Bool) (l : Bs) (k : Nat) : ((l.take k).takeWhile q).length ≤ (l.takeWhile q).length := by
  induction l generalizing k with
  | nil => simp
  | cons a r ih =>
    cases k with
    | zero => simp
    | succ k =>
      rw [List.take_succ_cons, List.takeWhile_cons, List.takeWhile_cons]
      split
      · simp only [List.length_cons]; have := ih k; omega
      · simp
theorem eqN_take_le (l : Bs) (k : Nat) : eqN (l.take k) ≤ eqN l := by
  cases l with
  | nil => simp [eqN]
  | cons a r =>
    cases k with
    | zero => simp [eqN]
    | succ k =>
      rw [List.take_succ_cons, eqN_cons, eqN_cons]
      have := takeWhile_take (· == a) r k
      omega
theorem form_renc : ∀ (n : Nat) (l : Bs), l.length ≤ n → form l = (ps1 l).flatMap renc := by
  intro n
  induction n with
  | zero => intro l h; obtain rfl : l = [] := List.eq_nil_of_length_eq_zero (by omega); rw [form_nil, ps1_nil]; rfl
  | succ n ih =>
    intro l h
    cases l with
    | nil => rw [form_nil, ps1_nil]; rfl
    | cons a r =>
      have h1 := hd_pos (a := a) (r := r)
      have hr := ih ((a :: r).drop (hd (a :: r))) (by simp only [List.length_drop]; omega)
      have e : ps1 (a :: r) = (a :: r).take (hd (a :: r)) :: ps1 ((a :: r).drop (hd (a :: r))) := by unfold ps1; rw [pieces_cons]; rfl
      rw [form_cons, e, List.flatMap_cons, hr]
      congr 1
      unfold renc
      congr 2
      by_cases h3 : 3 ≤ eqN (a :: r)
      · rw [decide_eq_true h3, hd_run h3, eqN_take, decide_eq_true h3]
      · rw [decide_eq_false h3, decide_eq_false (by have := eqN_take_le (a :: r) (hd (a :: r)); omega)]
end Go.Proofs.Ytcoecpglnabbpaa
