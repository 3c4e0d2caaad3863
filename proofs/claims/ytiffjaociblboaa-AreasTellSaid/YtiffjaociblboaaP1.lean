/- Areas as plain data; the plain laws of Map, Unmap, Find, Free, Can. -/
import Derived.Lib.Hide
namespace Go.Proofs.Ytiffjaociblboaa

/-- An area. -/
structure Ar where
  a : Int
  n : Int
  o : ByteArray
  f : Int
  s : Bool
  w : Bool
def vld (x : Ar) : Bool := decide (0 ≤ x.a ∧ 1 ≤ x.n ∧ x.n ≤ 256 ∧ x.a ≤ 256 - x.n ∧ 0 ≤ x.f ∧ x.f ≤ 256 - x.n) && !x.o.toList.isEmpty
structure Vd (x : Ar) : Prop where
  a0 : 0 ≤ x.a
  n1 : 1 ≤ x.n
  n2 : x.n ≤ 256
  an : x.a ≤ 256 - x.n
  f0 : 0 ≤ x.f
  fn : x.f ≤ 256 - x.n
  o0 : x.o.toList.isEmpty = false
theorem vld_iff {x : Ar} : vld x = true ↔ Vd x := by
  unfold vld
  rw [Bool.and_eq_true, decide_eq_true_eq]
  refine ⟨fun ⟨⟨h1, h2, h3, h4, h5, h6⟩, h7⟩ => ⟨h1, h2, h3, h4, h5, h6, by simpa using h7⟩, fun h => ⟨⟨h.a0, h.n1, h.n2, h.an, h.f0, h.fn⟩, by simpa using h.o0⟩⟩
/-- The areas lie one behind the other, from e on. -/
def chn : Int → List Ar → Bool
  | _, [] => true
  | e, x :: r => vld x && decide (e ≤ x.a) && chn (x.a + x.n) r
def Vl (l : List Ar) : Bool := chn 0 l && decide (l.length ≤ 16)
theorem chn_cons {e : Int} {x : Ar} {r : List Ar} : chn e (x :: r) = true ↔ Vd x ∧ e ≤ x.a ∧ chn (x.a + x.n) r = true := by
  simp only [chn, Bool.and_eq_true, decide_eq_true_eq, vld_iff, and_assoc]
/-- The area that holds a page. -/
def inA (p : Int) (x : Ar) : Bool := decide (x.a ≤ p) && decide (p < x.a + x.n)
def fnd (l : List Ar) (p : Int) : Option Ar := l.find? (inA p)
theorem inA_iff {p : Int} {x : Ar} : inA p x = true ↔ x.a ≤ p ∧ p < x.a + x.n := by unfold inA; simp
theorem fnd_nil (p : Int) : fnd [] p = none := rfl
theorem fnd_cons (x : Ar) (r : List Ar) (p : Int) : fnd (x :: r) p = if inA p x then some x else fnd r p := by
  unfold fnd; rw [List.find?_cons]; split <;> simp_all
theorem fnd_low {e : Int} {l : List Ar} (h : chn e l = true) {p : Int} (hp : p < e) : fnd l p = none := by
  induction l generalizing e with
  | nil => rfl
  | cons x r ih =>
    obtain ⟨h1, h2, h3⟩ := chn_cons.1 h
    have := h1.n1
    rw [fnd_cons, if_neg (by rw [inA_iff]; omega), ih h3 (by omega)]
theorem chn_mono {e e' : Int} {l : List Ar} (h : chn e l = true) (he : e' ≤ e) : chn e' l = true := by
  cases l with
  | nil => rfl
  | cons x r =>
    obtain ⟨h1, h2, h3⟩ := chn_cons.1 h
    exact chn_cons.2 ⟨h1, by omega, h3⟩
theorem chn_mem {e : Int} {l : List Ar} (h : chn e l = true) : ∀ x ∈ l, Vd x ∧ e ≤ x.a := by
  induction l generalizing e with
  | nil => simp
  | cons x r ih =>
    obtain ⟨h1, h2, h3⟩ := chn_cons.1 h
    intro y hy
    rcases List.mem_cons.1 hy with rfl | hy
    · exact ⟨h1, h2⟩
    · obtain ⟨h4, h5⟩ := ih h3 y hy
      have := h1.n1
      exact ⟨h4, by omega⟩

/-! Map -/
/-- The place of a new area. -/
def posA (a : Int) : List Ar → Nat
  | [] => 0
  | x :: r => if x.a < a then posA a r + 1 else 0
theorem posA_le (a : Int) (l : List Ar) : posA a l ≤ l.length := by
  induction l with
  | nil => simp [posA]
  | cons x r ih => simp only [posA, List.length_cons]; split <;> omega
theorem posA_lt {a : Int} {l : List Ar} {k : Nat} (hk : k < l.length) (h : k < posA a l) : l[k].a < a := by
  induction l generalizing k with
  | nil => simp at hk
  | cons x r ih =>
    simp only [posA] at h
    split at h
    · cases k with
      | zero => simpa
      | succ k => exact ih (by simpa using hk) (by omega)
    · omega
theorem posA_ge {a : Int} {l : List Ar} (hk : posA a l < l.length) : a ≤ l[posA a l].a := by
  induction l with
  | nil => simp at hk
  | cons x r ih =>
    by_cases h : x.a < a
    · have e : posA a (x :: r) = posA a r + 1 := by simp [posA, h]
      simp only [e, List.getElem_cons_succ]
      exact ih (by rw [e] at hk; simpa using hk)
    · have e : posA a (x :: r) = 0 := by simp [posA, h]
      simp only [e, List.getElem_cons_zero]
      omega
theorem posA_at {a : Int} {l : List Ar} {k : Nat} (hk : k ≤ l.length) (h1 : ∀ j (hj : j < l.length), j < k → l[j].a < a) (h2 : ∀ hk : k < l.length, a ≤ l[k].a) : posA a l = k := by
  rcases Nat.lt_trichotomy (posA a l) k with h | h | h
  · have := posA_ge (a := a) (l := l) (by omega)
    have := h1 _ (by omega) h
    omega
  · exact h
  · have := posA_le a l
    have := posA_lt (a := a) (l := l) (k := k) (by omega) h
    have := h2 (by omega)
    omega
def insA (x : Ar) (l : List Ar) : List Ar := l.take (posA x.a l) ++ x :: l.drop (posA x.a l)
/-- The area ahead of place k reaches behind the new one's first page. -/
def prevC (x : Ar) (l : List Ar) : Nat → Bool
  | 0 => false
  | k + 1 => (l[k]?).any (fun y => decide (x.a < y.a + y.n))
def nextC (x : Ar) (l : List Ar) (k : Nat) : Bool := (l[k]?).any (fun y => decide (y.a < x.a + x.n))
/-- The new area clashes. -/
def clash (x : Ar) (l : List Ar) : Bool := prevC x l (posA x.a l) || nextC x l (posA x.a l)
def mapE (x : Ar) (l : List Ar) : Int := if vld x then (if clash x l then 5 else if 16 ≤ l.length then 6 else 0) else 3
theorem insA_nil (x : Ar) : insA x [] = [x] := rfl
theorem insA_cons (x y : Ar) (r : List Ar) : insA x (y :: r) = if y.a < x.a then y :: insA x r else x :: y :: r := by
  unfold insA
  simp only [posA]
  split <;> simp
theorem clash_cons {x y : Ar} {r : List Ar} {e : Int} (hc : chn e (y :: r) = true) (hx : Vd x) : clash x (y :: r) = if y.a < x.a then (decide (x.a < y.a + y.n) || clash x r) else decide (y.a < x.a + x.n) := by
  obtain ⟨h1, h2, h3⟩ := chn_cons.1 hc
  have hn := h1.n1
  have hxn := hx.n1
  unfold clash
  by_cases h : y.a < x.a
  · have e0 : posA x.a (y :: r) = posA x.a r + 1 := by simp [posA, h]
    rw [if_pos h, e0]
    have e1 : nextC x (y :: r) (posA x.a r + 1) = nextC x r (posA x.a r) := rfl
    rw [e1]
    cases hp : posA x.a r with
    | zero => rfl
    | succ k =>
      have e2 : prevC x (y :: r) (k + 1 + 1) = prevC x r (k + 1) := rfl
      rw [e2]
      have hk : k < r.length := by have := posA_le x.a r; omega
      have h4 := posA_lt (a := x.a) (l := r) (k := k) hk (by omega)
      have h5 := (chn_mem h3 _ (List.getElem_mem hk)).2
      have h6 : decide (x.a < y.a + y.n) = false := decide_eq_false (by omega)
      rw [h6, Bool.false_or]
  · have e0 : posA x.a (y :: r) = 0 := by simp [posA, h]
    rw [if_neg h, e0]
    rfl
/-- No page of the new area is held by another one, exactly if it does not clash. -/
theorem clash_iff {x : Ar} (hx : Vd x) : ∀ {e : Int} {l : List Ar}, chn e l = true → (clash x l = true ↔ ∃ p, x.a ≤ p ∧ p < x.a + x.n ∧ (fnd l p).isSome)
  | e, [], _ => by simp [clash, posA, fnd_nil, prevC, nextC]
  | e, y :: r, hc => by
    obtain ⟨h1, h2, h3⟩ := chn_cons.1 hc
    have ih := clash_iff hx h3
    have hn := h1.n1
    have hxn := hx.n1
    rw [clash_cons hc hx]
    by_cases h : y.a < x.a
    · rw [if_pos h, Bool.or_eq_true, decide_eq_true_eq, ih]
      constructor
      · rintro (h4 | ⟨p, h4, h5, h6⟩)
        · exact ⟨x.a, by omega, by omega, by rw [fnd_cons, if_pos (by rw [inA_iff]; omega)]; rfl⟩
        · refine ⟨p, h4, h5, ?_⟩
          rw [fnd_cons]
          split
          · rfl
          · exact h6
      · rintro ⟨p, h4, h5, h6⟩
        rw [fnd_cons] at h6
        by_cases h7 : inA p y = true
        · rw [inA_iff] at h7; left; omega
        · rw [if_neg h7] at h6; exact .inr ⟨p, h4, h5, h6⟩
    · rw [if_neg h, decide_eq_true_eq]
      constructor
      · intro h4
        exact ⟨y.a, by omega, by omega, by rw [fnd_cons, if_pos (by rw [inA_iff]; omega)]; rfl⟩
      · rintro ⟨p, h4, h5, h6⟩
        rw [fnd_cons] at h6
        by_cases h7 : inA p y = true
        · rw [inA_iff] at h7; omega
        · rw [if_neg h7] at h6
          have : ¬ p < y.a + y.n := fun h8 => by rw [fnd_low h3 h8] at h6; cases h6
          omega
theorem chn_ins {x : Ar} (hx : Vd x) : ∀ {e : Int} {l : List Ar}, chn e l = true → e ≤ x.a → clash x l = false → chn e (insA x l) = true
  | e, [], _, he, _ => by rw [insA_nil, chn_cons]; exact ⟨hx, he, rfl⟩
  | e, y :: r, hc, he, hk => by
    obtain ⟨h1, h2, h3⟩ := chn_cons.1 hc
    rw [clash_cons hc hx] at hk
    rw [insA_cons]
    by_cases h : y.a < x.a
    · rw [if_pos h] at hk ⊢
      rw [Bool.or_eq_false_iff, decide_eq_false_iff_not] at hk
      exact chn_cons.2 ⟨h1, h2, chn_ins hx h3 (by omega) hk.2⟩
    · rw [if_neg h, decide_eq_false_iff_not] at hk
      rw [if_neg h]
      exact chn_cons.2 ⟨hx, he, chn_cons.2 ⟨h1, by omega, h3⟩⟩
theorem insA_len (x : Ar) (l : List Ar) : (insA x l).length = l.length + 1 := by
  unfold insA; have := posA_le x.a l; simp; omega
theorem fnd_ins {x : Ar} (hx : Vd x) : ∀ {e : Int} {l : List Ar}, chn e l = true → clash x l = false → ∀ p, fnd (insA x l) p = if inA p x then some x else fnd l p
  | e, [], _, _, p => by rw [insA_nil, fnd_cons]
  | e, y :: r, hc, hk, p => by
    obtain ⟨h1, h2, h3⟩ := chn_cons.1 hc
    have hk0 := hk
    rw [clash_cons hc hx] at hk
    rw [insA_cons]
    by_cases h : y.a < x.a
    · rw [if_pos h] at hk ⊢
      rw [Bool.or_eq_false_iff, decide_eq_false_iff_not] at hk
      rw [fnd_cons, fnd_ins hx h3 hk.2 p, fnd_cons]
      by_cases h4 : inA p y = true
      · have h5 : ¬ inA p x = true := by rw [inA_iff] at h4 ⊢; omega
        rw [if_pos h4, if_neg h5, if_pos h4]
      · rw [if_neg h4, if_neg h4]
    · rw [if_neg h, fnd_cons]

/-! Unmap -/
def lowA (x : Ar) (p : Int) : Ar := { x with n := min (p - x.a) x.n }
def higA (x : Ar) (q : Int) : Ar := { x with a := max q x.a, n := x.a + x.n - max q x.a, f := x.f + (max q x.a - x.a) }
def cutA (p q : Int) (x : Ar) : List Ar := (if 0 < (lowA x p).n then [lowA x p] else []) ++ (if 0 < (higA x q).n then [higA x q] else [])
def unmA (l : List Ar) (p n : Int) : List Ar := l.flatMap (cutA p (p + n))
def unmR (p n : Int) : Bool := decide (0 ≤ p ∧ 1 ≤ n ∧ n ≤ 256 ∧ p ≤ 256 - n)
def unmE (l : List Ar) (p n : Int) : Int := if unmR p n then (if 16 < (unmA l p n).length then 6 else 0) else 3
theorem cut_fnd {p q : Int} (x : Ar) (r : List Ar) (t : Int) : fnd (cutA p q x ++ r) t = if inA t x && !(decide (p ≤ t) && decide (t < q)) then (if t < p then some (lowA x p) else some (higA x q)) else fnd r t := by
  have e1 : inA t (lowA x p) = true ↔ x.a ≤ t ∧ t < p ∧ t < x.a + x.n := by rw [inA_iff]; unfold lowA; simp only; omega
  have e2 : inA t (higA x q) = true ↔ x.a ≤ t ∧ q ≤ t ∧ t < x.a + x.n := by rw [inA_iff]; unfold higA; simp only; omega
  have e3 : 0 < (lowA x p).n ↔ x.a < p ∧ 0 < x.n := by unfold lowA; simp only; omega
  have e4 : 0 < (higA x q).n ↔ q < x.a + x.n ∧ 0 < x.n := by unfold higA; simp only; omega
  have e5 : (inA t x && !(decide (p ≤ t) && decide (t < q))) = true ↔ x.a ≤ t ∧ t < x.a + x.n ∧ (t < p ∨ q ≤ t) := by
    rw [Bool.and_eq_true, inA_iff]
    simp only [Bool.not_eq_true', Bool.and_eq_false_iff, decide_eq_false_iff_not]
    omega
  unfold cutA
  have nilf : ∀ (c : Prop) [Decidable c] (y : Ar) (k : List Ar), fnd ((if c then [y] else []) ++ k) t = if c ∧ inA t y = true then some y else fnd k t := by
    intro c _ y k
    by_cases hc : c
    · rw [if_pos hc]
      show fnd (y :: k) t = _
      rw [fnd_cons]
      simp [hc]
    · rw [if_neg hc]; simp [hc]
  rw [List.append_assoc, nilf, nilf]
  by_cases h : (inA t x && !(decide (p ≤ t) && decide (t < q))) = true
  · rw [if_pos h]
    rw [e5] at h
    by_cases h6 : t < p
    · rw [if_pos h6, if_pos ⟨by rw [e3]; omega, by rw [e1]; omega⟩]
    · rw [if_neg h6, if_neg (by rw [e1]; omega), if_pos ⟨by rw [e4]; omega, by rw [e2]; omega⟩]
  · rw [if_neg h]
    rw [e5] at h
    rw [if_neg (by rw [e1]; omega), if_neg (by rw [e2]; omega)]
theorem unm_cons (x : Ar) (r : List Ar) (p n : Int) : unmA (x :: r) p n = cutA p (p + n) x ++ unmA r p n := by simp [unmA]
/-- What a page shows. -/
def shw (o : Option Ar) : Option (ByteArray × Int × Bool × Bool) := o.map (fun x => (x.o, x.f - x.a, x.s, x.w))
theorem shw_low (x : Ar) (p : Int) : shw (some (lowA x p)) = shw (some x) := rfl
theorem shw_hig (x : Ar) (q : Int) : shw (some (higA x q)) = shw (some x) := by unfold shw higA; simp; omega
theorem unm_fnd {l : List Ar} {p n : Int} {e : Int} (h : chn e l = true) (t : Int) : (p ≤ t ∧ t < p + n → fnd (unmA l p n) t = none) ∧ (¬ (p ≤ t ∧ t < p + n) → shw (fnd (unmA l p n) t) = shw (fnd l t)) := by
  induction l generalizing e with
  | nil => simp [unmA, fnd_nil]
  | cons x r ih =>
    obtain ⟨h1, h2, h3⟩ := chn_cons.1 h
    obtain ⟨i1, i2⟩ := ih h3
    rw [unm_cons, cut_fnd, fnd_cons]
    constructor
    · intro ht
      rw [if_neg (by simp only [Bool.and_eq_true, Bool.not_eq_true', Bool.and_eq_false_iff, decide_eq_false_iff_not]; omega)]
      exact i1 ht
    · intro ht
      have e1 : (!(decide (p ≤ t) && decide (t < p + n))) = true := by simp only [Bool.not_eq_true', Bool.and_eq_false_iff, decide_eq_false_iff_not]; omega
      rw [e1, Bool.and_true]
      by_cases h4 : inA t x = true
      · rw [if_pos h4, if_pos h4]
        split
        · exact shw_low x p
        · exact shw_hig x _
      · rw [if_neg h4, if_neg h4]
        exact i2 ht
theorem chn_append {x : Ar} {r : List Ar} {e e' : Int} (c : Bool) (hx : c = true → Vd x ∧ e ≤ x.a ∧ x.a + x.n ≤ e') (hr : chn e' r = true) (he : e ≤ e') : chn e ((if c = true then [x] else []) ++ r) = true := by
  by_cases h : c = true
  · rw [if_pos h]
    obtain ⟨h1, h2, h3⟩ := hx h
    exact chn_cons.2 ⟨h1, h2, chn_mono hr h3⟩
  · rw [if_neg h]
    exact chn_mono hr he
theorem unm_chn {l : List Ar} {p n : Int} (hn : 0 ≤ n) {e : Int} (h : chn e l = true) : chn e (unmA l p n) = true := by
  induction l generalizing e with
  | nil => rfl
  | cons x r ih =>
    obtain ⟨h1, h2, h3⟩ := chn_cons.1 h
    have i1 := ih h3
    obtain ⟨a0, n1, n2, an, f0, fn, o0⟩ := h1
    rw [unm_cons]
    unfold cutA
    rw [List.append_assoc]
    have k1 : chn (max (p + n) x.a) ((if 0 < (higA x (p + n)).n then [higA x (p + n)] else []) ++ unmA r p n) = true ∨ True := .inr trivial
    clear k1
    have k2 : chn e ((if 0 < (higA x (p + n)).n then [higA x (p + n)] else []) ++ unmA r p n) = true := by
      have := chn_append (x := higA x (p + n)) (r := unmA r p n) (e := e) (e' := x.a + x.n) (decide (0 < (higA x (p + n)).n)) (fun hc => by
        rw [decide_eq_true_eq] at hc
        unfold higA at hc ⊢
        simp only at hc
        exact ⟨⟨by simp only; omega, by simp only; omega, by simp only; omega, by simp only; omega, by simp only; omega, by simp only; omega, o0⟩, by simp only; omega, by simp only; omega⟩) i1 (by omega)
      simpa using this
    have k3 : 0 < (lowA x p).n → chn (x.a + (lowA x p).n) ((if 0 < (higA x (p + n)).n then [higA x (p + n)] else []) ++ unmA r p n) = true := by
      intro hl
      have := chn_append (x := higA x (p + n)) (r := unmA r p n) (e := x.a + (lowA x p).n) (e' := x.a + x.n) (decide (0 < (higA x (p + n)).n)) (fun hc => by
        rw [decide_eq_true_eq] at hc
        unfold higA at hc ⊢
        unfold lowA at hl ⊢
        simp only at hc hl
        exact ⟨⟨by simp only; omega, by simp only; omega, by simp only; omega, by simp only; omega, by simp only; omega, by simp only; omega, o0⟩, by simp only; omega, by simp only; omega⟩) i1 (by unfold lowA; simp only; omega)
      simpa using this
    by_cases hl : 0 < (lowA x p).n
    · rw [if_pos hl]
      refine chn_cons.2 ⟨?_, by unfold lowA; simp only; omega, k3 hl⟩
      unfold lowA at hl ⊢
      simp only at hl
      exact ⟨a0, by simp only; omega, by simp only; omega, by simp only; omega, f0, by simp only; omega, o0⟩
    · rw [if_neg hl]
      exact k2
end Go.Proofs.Ytiffjaociblboaa
