/- Texts of elder seats, turned to this one. -/
import Derived.Test.YteognipfnbocpaaGreatW8
namespace Go.Proofs.YteognipfnbocpaaGreat
open Go.RowKit
open T12 (E TbRep ent unmM ents upd)

def loseT (fr : Int) (m : Pg) : Pg := fun k => match m k with
  | none => none
  | some e => if e.fr = fr then none else some e
/-- The entries of l are done. -/
def loseJ (fr : Int) (m : Pg) (l : List (Nat × E)) : Pg := fun k => if l.any (fun a => a.1 == k) then loseT fr m k else m k
theorem ents_mem {m : Pg} {n : Nat} {a : Nat × E} : a ∈ ents m n ↔ a.1 < n ∧ m a.1 = some a.2 := by
  induction n with
  | zero => simp [ents]
  | succ n ih =>
    cases hm : m n with
    | none =>
      rw [T12.ents_none hm, ih]
      constructor
      · rintro ⟨h1, h2⟩; exact ⟨by omega, h2⟩
      · rintro ⟨h1, h2⟩
        refine ⟨?_, h2⟩
        by_cases e : a.1 = n
        · rw [e, hm] at h2; cases h2
        · omega
    | some e =>
      rw [T12.ents_some hm, List.mem_append, ih, List.mem_singleton]
      constructor
      · rintro (⟨h1, h2⟩ | rfl)
        · exact ⟨by omega, h2⟩
        · exact ⟨by simp, hm⟩
      · rintro ⟨h1, h2⟩
        by_cases e1 : a.1 = n
        · right
          rw [e1, hm] at h2
          injection h2 with h2
          exact Prod.ext e1 h2.symm
        · left; exact ⟨by omega, h2⟩
theorem ents_asc (m : Pg) (n : Nat) : (ents m n).Pairwise (fun a b => a.1 < b.1) := by
  induction n with
  | zero => exact List.Pairwise.nil
  | succ n ih =>
    cases hm : m n with
    | none => rw [T12.ents_none hm]; exact ih
    | some e =>
      rw [T12.ents_some hm, List.pairwise_append]
      refine ⟨ih, by simp, fun a ha b hb => ?_⟩
      rw [List.mem_singleton.1 hb]
      exact (ents_mem.1 ha).1
theorem ents_fresh {m : Pg} {n j : Nat} (hj : j < (ents m n).length) : ∀ a ∈ (ents m n).take j, a.1 ≠ ((ents m n)[j]).1 := by
  intro a ha
  obtain ⟨i, hi, rfl⟩ := List.getElem_of_mem ha
  rw [List.length_take] at hi
  rw [List.getElem_take]
  have := List.pairwise_iff_getElem.1 (ents_asc m n) i j (by omega) hj (by omega)
  omega
theorem loseJ_nil (fr : Int) (m : Pg) : loseJ fr m [] = m := by funext k; simp [loseJ]
theorem loseJ_all {fr : Int} {m : Pg} (h : ∀ k, 256 ≤ k → m k = none) : loseJ fr m (ents m 256) = loseT fr m := by
  funext k
  unfold loseJ
  split
  · rfl
  · rename_i hn
    unfold loseT
    cases hm : m k with
    | none => rfl
    | some e =>
      exfalso
      apply hn
      rw [List.any_eq_true]
      refine ⟨(k, e), ents_mem.2 ⟨?_, hm⟩, by simp⟩
      rcases Nat.lt_or_ge k 256 with h1 | h1
      · exact h1
      · rw [h k h1] at hm; cases hm
theorem loseJ_at {fr : Int} {m : Pg} {l : List (Nat × E)} {a : Nat × E} (hf : ∀ b ∈ l, b.1 ≠ a.1) : loseJ fr m l a.1 = m a.1 := by
  unfold loseJ
  rw [if_neg]
  rw [List.any_eq_true]
  rintro ⟨b, hb, e⟩
  exact hf b hb (by simpa using e)
theorem loseJ_snoc_ne {fr : Int} {m : Pg} {l : List (Nat × E)} {a : Nat × E} (hm : m a.1 = some a.2) (hf : ∀ b ∈ l, b.1 ≠ a.1) (hn : a.2.fr ≠ fr) : loseJ fr m (l ++ [a]) = loseJ fr m l := by
  funext k
  unfold loseJ
  rw [List.any_append]
  by_cases e : a.1 = k
  · subst e
    have h1 : l.any (fun b => b.1 == a.1) = false := by
      rw [List.any_eq_false]
      intro b hb
      simpa using hf b hb
    rw [h1]
    simp only [List.any_cons, List.any_nil, BEq.rfl, Bool.or_false, Bool.or_true, if_true, loseT, hm, if_neg hn]
    rfl
  · have h1 : (a.1 == k) = false := by simpa using e
    simp only [List.any_cons, List.any_nil, h1, Bool.or_false]
theorem loseJ_snoc_eq {fr : Int} {m : Pg} {l : List (Nat × E)} {a : Nat × E} (hm : m a.1 = some a.2) (hf : ∀ b ∈ l, b.1 ≠ a.1) (hn : a.2.fr = fr) : loseJ fr m (l ++ [a]) = unmM (loseJ fr m l) (a.1 : Nat) := by
  have h0 : ent (loseJ fr m l) (a.1 : Nat) = some a.2 := by rw [T12.ent_nat, loseJ_at hf, hm]
  unfold unmM
  rw [h0]
  simp only [Int.toNat_natCast]
  funext k
  by_cases e : k = a.1
  · subst e
    rw [T12.upd_same]
    unfold loseJ
    rw [if_pos (by simp)]
    unfold loseT
    rw [hm]
    simp only [if_pos hn]
  · rw [T12.upd_ne e]
    unfold loseJ
    have h1 : (a.1 == k) = false := by simpa using fun h => e h.symm
    rw [List.any_append]
    simp only [List.any_cons, List.any_nil, h1, Bool.or_false]
/-- How many entries have the frame. -/
def hits (fr : Int) (l : List (Nat × E)) : Nat := (l.filter (fun a => decide (a.2.fr = fr))).length
theorem hits_snoc (fr : Int) (l : List (Nat × E)) (a : Nat × E) : hits fr (l ++ [a]) = hits fr l + if a.2.fr = fr then 1 else 0 := by
  unfold hits
  rw [List.filter_append, List.length_append]
  congr 1
  by_cases h : a.2.fr = fr <;> simp [h]
theorem hits_le (fr : Int) (l : List (Nat × E)) : hits fr l ≤ l.length := List.length_filter_le _ _
def hitT (fr : Int) (o : Option Pg) : Nat := match o with
  | none => 0
  | some m => hits fr (ents m 256)
theorem hitT_le (fr : Int) (o : Option Pg) : hitT fr o ≤ 256 := by
  unfold hitT
  split
  · omega
  · exact Nat.le_trans (hits_le _ _) (ents_bd _)
/-- The sum over the spaces that are done. -/
def sumD (fr : Int) (t : Int → Option Pg) (left : Int → Bool) : List Int → Nat
  | [] => 0
  | x :: r => (if left x then 0 else hitT fr (t x)) + sumD fr t left r
theorem sumD_le (fr : Int) (t : Int → Option Pg) (left : Int → Bool) (ks : List Int) : sumD fr t left ks ≤ 256 * ks.length := by
  induction ks with
  | nil => simp [sumD]
  | cons x r ih =>
    have := hitT_le fr (t x)
    simp only [sumD, List.length_cons]
    split <;> omega
theorem sumD_same {fr : Int} {t : Int → Option Pg} {left left' : Int → Bool} {ks : List Int} (h : ∀ x ∈ ks, left' x = left x) : sumD fr t left' ks = sumD fr t left ks := by
  induction ks with
  | nil => rfl
  | cons x r ih => simp only [sumD, h x (by simp), ih (fun y hy => h y (by simp [hy]))]
theorem sumD_step {fr : Int} {t : Int → Option Pg} {left : Int → Bool} {ks : List Int} (hn : ks.Nodup) {x : Int} (hx : x ∈ ks) (hl : left x = true) : sumD fr t (fun y => left y && !decide (y = x)) ks = sumD fr t left ks + hitT fr (t x) := by
  induction ks with
  | nil => simp at hx
  | cons y r ih =>
    obtain ⟨h1, h2⟩ := List.nodup_cons.1 hn
    by_cases e : y = x
    · subst e
      have hs : sumD fr t (fun z => left z && !decide (z = y)) r = sumD fr t left r := sumD_same (fun z hz => by
        have : z ≠ y := fun e => h1 (e ▸ hz)
        simp [this])
      simp only [sumD, hs, hl]
      simp
      omega
    · have hx' : x ∈ r := by
        rcases List.mem_cons.1 hx with e1 | e1
        · exact absurd e1.symm e
        · exact e1
      have := ih h2 hx'
      simp only [sumD, this, decide_eq_false e]
      simp
      omega
/-- Some spaces are done. -/
def loseS (fr : Int) (t : Int → Option Pg) (left : Int → Bool) : Int → Option Pg := fun x => if left x then t x else (t x).map (loseT fr)
theorem loseS_start (fr : Int) (t : Int → Option Pg) : loseS fr t (fun x => (t x).isSome) = t := by
  funext x
  unfold loseS
  show (if (t x).isSome = true then t x else _) = _
  cases h : t x <;> simp
theorem loseS_all {fr : Int} {t : Int → Option Pg} {left : Int → Bool} (h : ∀ x, left x = false) : loseS fr t left = fun x => (t x).map (loseT fr) := by
  funext x
  unfold loseS
  rw [h x]
  rfl
theorem loseS_step {fr : Int} {t : Int → Option Pg} {left : Int → Bool} {x : Int} {m : Pg} (hm : t x = some m) : updT (loseS fr t left) x (some (loseT fr m)) = loseS fr t (fun y => left y && !decide (y = x)) := by
  funext y
  unfold updT loseS
  by_cases e : y = x
  · subst e; simp [hm]
  · simp [e]
end Go.Proofs.YteognipfnbocpaaGreat
