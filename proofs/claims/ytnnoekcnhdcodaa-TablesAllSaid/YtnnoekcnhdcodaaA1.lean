/- TablesAll: the plain side. -/
import Derived.Test.YtnnoekcnhdcodaaW9
import Derived.Test.YtnnoekcnhdcodaaBits
namespace Go.Proofs.Ytnnoekcnhdcodaa
open Go.RowKit

def evn (k : Nat) : Bool := bits .and .i64 (k : Int) 1 == 0
/-- The first n pages are mapped. -/
def allM (fr : Int) (n : Nat) : Nat → Option E := fun pg => if pg < n then some ⟨fr + pg, evn pg, false, false⟩ else none
theorem allM_zero (fr : Int) : allM fr 0 = fun _ => none := by funext pg; unfold allM; rw [if_neg (by omega)]
theorem allM_succ {fr : Int} {n : Nat} (h0 : 0 ≤ fr) (h : n < 256) : mapM (allM fr n) (n : Int) (fr + n) (evn n) = allM fr (n + 1) := by
  unfold mapM
  rw [if_pos ⟨by omega, by omega, by omega⟩, Int.toNat_natCast]
  funext pg
  unfold upd allM
  by_cases e : pg = n
  · subst e
    rw [if_pos rfl, if_pos (by omega)]
  · rw [if_neg e]
    by_cases h1 : pg < n
    · rw [if_pos h1, if_pos (by omega)]
    · rw [if_neg h1, if_neg (by omega)]
theorem mapN_ok {fr : Int} {n : Nat} (h0 : 0 ≤ fr) (h : n < 256) : mapN (n : Int) (fr + n) = 0 := by unfold mapN; rw [if_pos ⟨by omega, by omega, by omega⟩]
theorem levs_full {m : Nat → Option E} {n : Nat} (h : ∀ pg, pg < 16 * n → (m pg).isSome = true) : levs m n = n := by
  induction n with
  | zero => rfl
  | succ n ih =>
    rw [levs_succ, ih (fun pg hp => h pg (by omega))]
    intro h0
    have := (used_zero _ _ _).1 h0 0 (by omega)
    have h2 := h (16 * n + 0) (by omega)
    rw [this] at h2
    cases h2
theorem ents_full {m : Nat → Option E} {n : Nat} (h : ∀ pg, pg < n → (m pg).isSome = true) : (ents m n).length = n := by
  induction n with
  | zero => rfl
  | succ n ih =>
    have h2 := h n (by omega)
    cases hm : m n with
    | none => rw [hm] at h2; cases h2
    | some e => rw [ents_some hm, List.length_append, ih (fun pg hp => h pg (by omega))]; rfl
theorem levs_no {m : Nat → Option E} {n : Nat} (h : ∀ pg, m pg = none) : levs m n = 0 := by
  induction n with
  | zero => rfl
  | succ n ih => rw [levs_zero ((used_zero _ _ _).2 (fun i _ => h _)), ih]
theorem ents_no {m : Nat → Option E} {n : Nat} (h : ∀ pg, m pg = none) : ents m n = [] := by
  induction n with
  | zero => rfl
  | succ n ih => rw [ents_none (h n), ih]
theorem allM_levs (fr : Int) : levs (allM fr 256) 16 = 16 := levs_full (fun pg h => by unfold allM; rw [if_pos (by omega)]; rfl)
theorem allM_ents (fr : Int) : (ents (allM fr 256) 256).length = 256 := ents_full (fun pg h => by unfold allM; rw [if_pos (by omega)]; rfl)

/-- The page that is removed in round i (from 1 on). -/
def atI (s : Int) (i : Nat) : Nat := ((i * s) % 256).toNat
theorem atI_lt (s : Int) (i : Nat) : atI s i < 256 := by unfold atI; omega
theorem atI_cast (s : Int) (i : Nat) : (atI s i : Int) = (i * s) % 256 := by unfold atI; omega
theorem atI_zero (s : Int) : atI s 0 = 0 := by simp [atI]
theorem atI_succ (s : Int) (i : Nat) : bits .and .i64 (wrap64 ((atI s i : Int) + s)) 255 = (atI s (i + 1) : Int) := by
  rw [and_255, atI_cast, atI_cast]
  unfold wrap64
  have : ((i + 1 : Nat) : Int) * s = i * s + s := by rw [Int.natCast_add, Int.add_mul]; simp
  rw [this]
  omega
theorem pow_one : ∀ r : Fin 256, r.val % 2 = 1 → r.val * (r.val ^ 63) % 256 = 1 := by decide +kernel
theorem inv_odd (s : Int) (h : s % 2 = 1) : ∃ t : Int, (s * t) % 256 = 1 := by
  have h0 : 0 ≤ s % 256 := by omega
  have h1 : s % 256 < 256 := by omega
  obtain ⟨r, hr⟩ : ∃ r : Nat, s % 256 = r := ⟨(s % 256).toNat, by omega⟩
  have hl : r < 256 := by omega
  have h2 := pow_one ⟨r, hl⟩ (by show r % 2 = 1; omega)
  refine ⟨((r ^ 63 : Nat) : Int), ?_⟩
  have h3 : ((r * r ^ 63 % 256 : Nat) : Int) = 1 := by rw [show r * r ^ 63 % 256 = 1 from h2]; rfl
  rw [Int.natCast_emod, Int.natCast_mul, ← hr] at h3
  have h4 : s % 256 * ((r ^ 63 : Nat) : Int) % 256 = 1 := h3
  have h5 : s * ((r ^ 63 : Nat) : Int) % 256 = s % 256 * ((r ^ 63 : Nat) : Int) % 256 := by
    generalize ((r ^ 63 : Nat) : Int) = x
    rw [Int.mul_emod s x, Int.mul_emod (s % 256) x, Int.emod_emod]
  exact h5.trans h4
theorem atI_inj {s : Int} (h : s % 2 = 1) {i j : Nat} (hi : i < j) (hj : j < i + 256) : atI s i ≠ atI s j := by
  intro e
  obtain ⟨t, ht⟩ := inv_odd s h
  have e2 : ((i : Int) * s) % 256 = (j * s) % 256 := by rw [← atI_cast, ← atI_cast, e]
  have key : ∀ k : Nat, ((k : Int) * s * t) % 256 = k % 256 := by
    intro k
    rw [Int.mul_assoc, Int.mul_emod, ht]
    simp
  have e3 : ((i : Int) * s * t) % 256 = ((j : Int) * s * t) % 256 := by rw [Int.mul_emod, e2, ← Int.mul_emod]
  rw [key, key] at e3
  omega
theorem atI_onto {s : Int} (h : s % 2 = 1) {pg : Nat} (hp : pg < 256) : ∃ i : Nat, 1 ≤ i ∧ i ≤ 256 ∧ atI s i = pg := by
  obtain ⟨t, ht⟩ := inv_odd s h
  have h0 : 0 ≤ ((pg : Int) * t - 1) % 256 := by omega
  refine ⟨(((pg : Int) * t - 1) % 256).toNat + 1, by omega, by omega, ?_⟩
  have : (((((pg : Int) * t - 1) % 256).toNat + 1 : Nat) : Int) = ((pg : Int) * t - 1) % 256 + 1 := by omega
  unfold atI
  rw [this]
  have e : ((((pg : Int) * t - 1) % 256 + 1) * s) % 256 = pg := by
    have e1 : (((pg : Int) * t - 1) % 256 + 1) % 256 = ((pg : Int) * t) % 256 := by omega
    rw [Int.mul_emod, e1, ← Int.mul_emod, Int.mul_assoc, Int.mul_comm t s, Int.mul_emod, ht]
    simp
    omega
  rw [e]
  omega
/-- The pages of the rounds 1 to i are removed. -/
def remM (fr s : Int) (i : Nat) : Nat → Option E := fun pg => if pg < 256 ∧ ∀ j, j < i → pg ≠ atI s (j + 1) then some ⟨fr + pg, evn pg, false, false⟩ else none
theorem remM_zero (fr s : Int) : remM fr s 0 = allM fr 256 := by
  funext pg
  unfold remM allM
  by_cases h : pg < 256
  · rw [if_pos ⟨h, by omega⟩, if_pos h]
  · rw [if_neg (fun x => h x.1), if_neg h]
theorem remM_at {fr s : Int} (h : s % 2 = 1) {i : Nat} (hi : i < 256) : remM fr s i (atI s (i + 1)) = some ⟨fr + atI s (i + 1), evn (atI s (i + 1)), false, false⟩ := by
  unfold remM
  rw [if_pos ⟨atI_lt _ _, fun j hj e => atI_inj h (i := j + 1) (j := i + 1) (by omega) (by omega) e.symm⟩]
theorem remM_succ {fr s : Int} (h : s % 2 = 1) {i : Nat} (hi : i < 256) : unmM (wlkM (remM fr s i) (atI s (i + 1) : Int) true) (atI s (i + 1) : Int) = remM fr s (i + 1) := by
  have h1 := remM_at (fr := fr) h hi
  have hx : ent (wlkM (remM fr s i) (atI s (i + 1) : Int) true) (atI s (i + 1) : Int) ≠ none := by
    rw [ent_nat]
    unfold wlkM
    rw [ent_nat, h1]
    simp only []
    split
    · rw [h1]; simp
    · rw [Int.toNat_natCast, upd_same]; simp
  have hy : ∀ pg, pg ≠ atI s (i + 1) → wlkM (remM fr s i) (atI s (i + 1) : Int) true pg = remM fr s i pg := by
    intro pg hp
    unfold wlkM
    rw [ent_nat, h1]
    simp only []
    split
    · rfl
    · rw [Int.toNat_natCast, upd_ne hp]
  funext pg
  unfold unmM
  cases he : ent (wlkM (remM fr s i) (atI s (i + 1) : Int) true) (atI s (i + 1) : Int) with
  | none => exact absurd he hx
  | some e =>
    simp only [Int.toNat_natCast]
    by_cases hp : pg = atI s (i + 1)
    · subst hp
      rw [upd_same]
      unfold remM
      rw [if_neg (fun x => x.2 i (by omega) rfl)]
    · rw [upd_ne hp, hy pg hp]
      unfold remM
      by_cases h2 : pg < 256 ∧ ∀ j, j < i → pg ≠ atI s (j + 1)
      · rw [if_pos h2, if_pos ⟨h2.1, fun j hj => by
          by_cases e : j = i
          · rw [e]; exact hp
          · exact h2.2 j (by omega)⟩]
      · rw [if_neg h2, if_neg (fun x => h2 ⟨x.1, fun j hj => x.2 j (by omega)⟩)]
theorem remM_end {fr s : Int} (h : s % 2 = 1) (pg : Nat) : remM fr s 256 pg = none := by
  unfold remM
  rw [if_neg]
  rintro ⟨h1, h2⟩
  obtain ⟨i, a, b, e⟩ := atI_onto h h1
  exact h2 (i - 1) (by omega) (by rw [show i - 1 + 1 = i by omega, e])
theorem remM_n {fr s : Int} (h : s % 2 = 1) {i : Nat} (hi : i < 256) : wlkN (remM fr s i) (atI s (i + 1) : Int) true = if evn (atI s (i + 1)) then fr + atI s (i + 1) else 0 := by
  unfold wlkN
  rw [ent_nat, remM_at h hi]
  cases evn (atI s (i + 1)) <;> simp
theorem remM_b {fr s : Int} (h : s % 2 = 1) {i : Nat} (hi : i < 256) : wlkB (remM fr s i) (atI s (i + 1) : Int) true = evn (atI s (i + 1)) := by
  unfold wlkB
  rw [ent_nat, remM_at h hi]
  simp
theorem remM_u {fr s : Int} (h : s % 2 = 1) {i : Nat} (hi : i < 256) : (ent (wlkM (remM fr s i) (atI s (i + 1) : Int) true) (atI s (i + 1) : Int)).isSome = true := by
  rw [ent_nat]
  unfold wlkM
  rw [ent_nat, remM_at h hi]
  simp only []
  split
  · rw [remM_at h hi]; rfl
  · rw [Int.toNat_natCast, upd_same]; rfl
end Go.Proofs.Ytnnoekcnhdcodaa
