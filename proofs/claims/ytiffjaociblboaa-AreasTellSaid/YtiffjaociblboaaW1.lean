/- valid, part; the reference's valid and Has. -/
import Derived.Test.YtiffjaociblboaaProg
import Derived.Test.YtiffjaociblboaaOwn
import Derived.Test.YtiffjaociblboaaRw
import Derived.Test.YtiffjaociblboaaHeld
import Derived.Test.YtiffjaociblboaaP1
import Derived.Deep.QuietTactic
import Derived.BigQuiet
namespace Go.Proofs.Ytiffjaociblboaa
open Go.RowKit

def Ar.cs (x : Ar) : Array Value := #[.int .i64 x.a, .int .i64 x.n, .string x.o, .int .i64 x.f, .bool x.s, .bool x.w]
def Ar.v (x : Ar) : Value := .agg #[.int .i64 x.a, .int .i64 x.n, .string x.o, .int .i64 x.f, .bool x.s, .bool x.w]
theorem vld_no {x : Ar} (h : ¬ (0 ≤ x.a ∧ 1 ≤ x.n ∧ x.n ≤ 256 ∧ x.a ≤ 256 - x.n ∧ 0 ≤ x.f ∧ x.f ≤ 256 - x.n)) : vld x = false := by unfold vld; rw [decide_eq_false h]; rfl
theorem vld_yes {x : Ar} (h : 0 ≤ x.a ∧ 1 ≤ x.n ∧ x.n ≤ 256 ∧ x.a ≤ 256 - x.n ∧ 0 ≤ x.f ∧ x.f ≤ 256 - x.n) : vld x = !x.o.toList.isEmpty := by unfold vld; rw [decide_eq_true h]; rfl
set_option maxHeartbeats 1600000 in
theorem valid_any (w : World) (x : Ar) : Calls Try.prog 27 #[x.v] w fun e w' => e = .returned (.bool (vld x)) ∧ Keeps [] w w' := by
  obtain ⟨a, n, o, f, s, wr⟩ := x
  unfold Ar.v
  dsimp only
  obtain ⟨V, hV⟩ : ∃ V, vld ⟨a, n, o, f, s, wr⟩ = V := ⟨_, rfl⟩
  rw [hV]
  have HV := Lib.hid hV
  clear hV
  go_enter Try.func27, Try.ntmps27
  go_wp2_with fail
  all_goals
    go_ret
    refine ⟨ret_bool ?_, (Keeps.refl _ _).alloc _⟩
    rw [← HV.out]
    first
      | (rw [vld_no (by dsimp only; omega)])
      | (rw [vld_yes (by dsimp only; omega)]; try simp)
theorem vld_empty {x : Ar} (h : x.o.toList.isEmpty = true) : vld x = false := by unfold vld; rw [h]; simp
set_option maxHeartbeats 1600000 in
theorem rvalid_any (w : World) (x : Ar) : Calls Try.prog 31 #[x.v] w fun e w' => e = .returned (.bool (vld x)) ∧ Keeps [] w w' := by
  obtain ⟨a, n, o, f, s, wr⟩ := x
  unfold Ar.v
  dsimp only
  obtain ⟨V, hV⟩ : ∃ V, vld ⟨a, n, o, f, s, wr⟩ = V := ⟨_, rfl⟩
  rw [hV]
  have HV := Lib.hid hV
  clear hV
  cases hE : o.toList.isEmpty
  all_goals
    go_enter Try.func31, Try.ntmps31
    go_wp2_with fail
    all_goals
      go_ret
      refine ⟨ret_bool ?_, (Keeps.refl _ _).alloc _⟩
      rw [← HV.out]
      first
        | (rw [vld_empty (by dsimp only; exact hE)])
        | (rw [vld_no (by dsimp only; omega)])
        | (rw [vld_yes (by dsimp only; omega)]; dsimp only; rw [hE]; first | rfl | simp | (simp; omega))
        | (by_cases hf : f ≤ 256 - n
           · rw [vld_yes (by dsimp only; omega)]; dsimp only; rw [hE]; simp; omega
           · rw [vld_no (by dsimp only; omega)]; simp; omega)
theorem has_any (w : World) (x : Ar) (p : Int) (h : -4611686018427387904 ≤ x.a + x.n ∧ x.a + x.n ≤ 4611686018427387904) : Calls Try.prog 32 #[x.v, .int .i64 p] w fun e w' => e = .returned (.bool (inA p x)) ∧ Keeps [] w w' := by
  obtain ⟨a, n, o, f, s, wr⟩ := x
  unfold Ar.v
  dsimp only at *
  obtain ⟨V, hV⟩ : ∃ V, inA p ⟨a, n, o, f, s, wr⟩ = V := ⟨_, rfl⟩
  rw [hV]
  have HV := Lib.hid hV
  have h1 := h.1
  have h2 := h.2
  clear hV h
  go_enter Try.func32, Try.ntmps32
  go_wp2_with fail
  all_goals
    go_ret
    refine ⟨ret_bool ?_, (Keeps.refl _ _).alloc _⟩
    rw [← HV.out]
    unfold inA
    dsimp only
    simp
    try omega
/-- The part of an area from page f up to page t. -/
def partA (x : Ar) (f t : Int) : Ar := { x with a := max f x.a, n := min t (x.a + x.n) - max f x.a, f := x.f + (max f x.a - x.a) }
set_option maxHeartbeats 1600000 in
theorem part_any (w : World) (x : Ar) (f t : Int) (hx : Vd x) (h1 : 0 ≤ f) (h2 : f ≤ 1000) (h3 : 0 ≤ t) (h4 : t ≤ 1000) : Calls Try.prog 30 #[x.v, .int .i64 f, .int .i64 t] w fun e w' => e = .returned (.tuple #[(partA x f t).v, .bool (decide (max f x.a < min t (x.a + x.n)))]) ∧ Keeps [] w w' := by
  obtain ⟨a, n, o, fi, s, wr⟩ := x
  obtain ⟨a0, n1, n2, an, f0, fn, o0⟩ := hx
  unfold Ar.v partA
  dsimp only at *
  have HO := Lib.hid o0
  clear o0
  rcases (show (max f a = f ∧ a ≤ f) ∨ (max f a = a ∧ f < a) by omega) with ⟨eM, hM⟩ | ⟨eM, hM⟩ <;> rcases (show (min t (a + n) = t ∧ t ≤ a + n) ∨ (min t (a + n) = a + n ∧ a + n < t) by omega) with ⟨eT, hT⟩ | ⟨eT, hT⟩ <;> rw [eM, eT] <;> clear eM eT
  all_goals
    go_enter Try.func30, Try.ntmps30
    go_wp2_with fail
    go_quiet (fail)
    go_wp2_with fail
  · exact bodyPost_ret (v := .tuple #[.agg #[.int .i64 f, .int .i64 (t - f), .string o, .int .i64 (fi + (f - a)), .bool s, .bool wr], .bool (decide (f < t))]) (by simp [results, Try.results30, go_sem]) rfl ⟨rfl, ((((((((((((Keeps.refl _ _).alloc _).alloc _).drewN _).setCell (.inr (by simp)) _).setCell (.inr (by simp)) _).setCell (.inr (by simp)) _).setCell (.inr (by simp)) _).setCell (.inr (by simp)) _).setCell (.inr (by simp)) _).setCell (.inr (by simp)) _).setCell (.inr (by simp)) _).setCell (.inr (by simp)) _⟩
  · exact bodyPost_ret (v := .tuple #[.agg #[.int .i64 f, .int .i64 (a + n - f), .string o, .int .i64 (fi + (f - a)), .bool s, .bool wr], .bool (decide (f < a + n))]) (by simp [results, Try.results30, go_sem]) rfl ⟨rfl, ((((((((((((Keeps.refl _ _).alloc _).alloc _).drewN _).setCell (.inr (by simp)) _).setCell (.inr (by simp)) _).setCell (.inr (by simp)) _).setCell (.inr (by simp)) _).setCell (.inr (by simp)) _).setCell (.inr (by simp)) _).setCell (.inr (by simp)) _).setCell (.inr (by simp)) _).setCell (.inr (by simp)) _⟩
  · exact bodyPost_ret (v := .tuple #[.agg #[.int .i64 a, .int .i64 (t - a), .string o, .int .i64 (fi + (a - a)), .bool s, .bool wr], .bool (decide (a < t))]) (by simp [results, Try.results30, go_sem]) rfl ⟨rfl, ((((((((((((Keeps.refl _ _).alloc _).alloc _).drewN _).setCell (.inr (by simp)) _).setCell (.inr (by simp)) _).setCell (.inr (by simp)) _).setCell (.inr (by simp)) _).setCell (.inr (by simp)) _).setCell (.inr (by simp)) _).setCell (.inr (by simp)) _).setCell (.inr (by simp)) _).setCell (.inr (by simp)) _⟩
  · exact bodyPost_ret (v := .tuple #[.agg #[.int .i64 a, .int .i64 (a + n - a), .string o, .int .i64 (fi + (a - a)), .bool s, .bool wr], .bool (decide (a < a + n))]) (by simp [results, Try.results30, go_sem]) rfl ⟨rfl, ((((((((((((Keeps.refl _ _).alloc _).alloc _).drewN _).setCell (.inr (by simp)) _).setCell (.inr (by simp)) _).setCell (.inr (by simp)) _).setCell (.inr (by simp)) _).setCell (.inr (by simp)) _).setCell (.inr (by simp)) _).setCell (.inr (by simp)) _).setCell (.inr (by simp)) _).setCell (.inr (by simp)) _⟩
end Go.Proofs.Ytiffjaociblboaa
