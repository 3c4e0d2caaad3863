/- A row of structs, each of k cells, as plain lists. No program in sight. -/
import Derived.Test.YtbllmpcpfmlemaaGreatOwn
namespace Go.Proofs.YtbllmpcpfmlemaaGreat
open Go.RowKit

section
variable {α : Type} {c : α → List Value} {k : Nat}
def rw (c : α → List Value) (L : List α) : List Value := L.flatMap c
theorem rw_nil : rw c [] = [] := rfl
theorem rw_cons (x : α) (L : List α) : rw c (x :: L) = c x ++ rw c L := by simp [rw]
theorem rw_append (L M : List α) : rw c (L ++ M) = rw c L ++ rw c M := by simp [rw]
theorem rw_len (hc : ∀ x, (c x).length = k) (L : List α) : (rw c L).length = L.length * k := by
  induction L with
  | nil => simp [rw]
  | cons x r ih => rw [rw_cons, List.length_append, hc, ih, List.length_cons, Nat.succ_mul, Nat.add_comm]
theorem rw_take (hc : ∀ x, (c x).length = k) (L : List α) (i : Nat) : (rw c L).take (i * k) = rw c (L.take i) := by
  induction L generalizing i with
  | nil => simp [rw]
  | cons x r ih =>
    cases i with
    | zero => simp [rw]
    | succ i =>
      rw [List.take_succ_cons, rw_cons, rw_cons, ← ih i, Nat.succ_mul, Nat.add_comm, ← hc x, List.take_length_add_append]
theorem rw_drop (hc : ∀ x, (c x).length = k) (L : List α) (i : Nat) : (rw c L).drop (i * k) = rw c (L.drop i) := by
  induction L generalizing i with
  | nil => simp [rw]
  | cons x r ih =>
    cases i with
    | zero => simp
    | succ i => rw [List.drop_succ_cons, rw_cons, ← ih i, Nat.succ_mul, Nat.add_comm, ← hc x, List.drop_length_add_append]
theorem rw_at (hc : ∀ x, (c x).length = k) {L : List α} {i j : Nat} (hi : i < L.length) (hj : j < k) : (rw c L)[i * k + j]? = (c L[i])[j]? := by
  rw [← List.getElem?_drop, rw_drop hc, List.drop_eq_getElem_cons hi, rw_cons, List.getElem?_append_left (by rw [hc]; exact hj)]
theorem rw_one (h1 : ∀ x, ∀ u ∈ c x, u.oneCell' = true) (L : List α) : ∀ u ∈ rw c L, u.oneCell' = true := by
  intro u hu
  obtain ⟨x, _, hx⟩ := List.mem_flatMap.1 hu
  exact h1 x u hx
theorem rw_splice (hc : ∀ x, (c x).length = k) {L : List α} {i : Nat} (hi : i < L.length) (x : α) : splice (rw c L) (i * k) (c x) = rw c (L.set i x) := by
  unfold splice
  rw [hc, rw_take hc, show i * k + k = (i + 1) * k by rw [Nat.succ_mul], rw_drop hc, List.set_eq_take_append_cons_drop, if_pos hi, rw_append, rw_cons, List.append_assoc]
end
end Go.Proofs.YtbllmpcpfmlemaaGreat
