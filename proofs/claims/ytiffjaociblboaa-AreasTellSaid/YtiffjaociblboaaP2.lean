/- The plain laws of Free and Can. -/
import Derived.Test.YtiffjaociblboaaP1
namespace Go.Proofs.Ytiffjaociblboaa

/-- The first page of a run, from p on. -/
def frP (n : Int) : Int → List Ar → Int
  | p, [] => p
  | p, x :: r => if x.a + x.n ≤ p then frP n p r else if n ≤ x.a - p then p else frP n (x.a + x.n) r
def freeV (L : List Ar) (n : Int) : Int × Bool := if n < 1 ∨ 256 < n then (0, false) else if 256 - n < frP n 64 L then (0, false) else (frP n 64 L, true)
def FreeAt (L : List Ar) (n s : Int) : Prop := ∀ i, s ≤ i → i < s + n → fnd L i = none
theorem frP_spec {n : Int} (hn : 1 ≤ n) : ∀ {l : List Ar} {e : Int} (p : Int), chn e l = true → p ≤ frP n p l ∧ FreeAt l n (frP n p l) ∧ ∀ s, p ≤ s → s < frP n p l → ¬ FreeAt l n s
  | [], e, p, _ => ⟨by simp [frP], fun i _ _ => rfl, fun s h1 h2 => by simp [frP] at h2; omega⟩
  | x :: r, e, p, hc => by
    obtain ⟨h1, h2, h3⟩ := chn_cons.1 hc
    have hxn := h1.n1
    have hf : ∀ i, x.a + x.n ≤ i → fnd (x :: r) i = fnd r i := fun i hi => by rw [fnd_cons, if_neg (by rw [inA_iff]; omega)]
    by_cases g1 : x.a + x.n ≤ p
    · have e1 : frP n p (x :: r) = frP n p r := by simp [frP, g1]
      rw [e1]
      obtain ⟨i1, i2, i3⟩ := frP_spec hn p h3
      exact ⟨i1, fun i a b => by rw [hf i (by omega)]; exact i2 i a b, fun s a b hs => i3 s a b (fun i c d => by rw [← hf i (by omega)]; exact hs i c d)⟩
    · by_cases g2 : n ≤ x.a - p
      · have e1 : frP n p (x :: r) = p := by simp [frP, g1, g2]
        rw [e1]
        exact ⟨by omega, fun i a b => by rw [fnd_cons, if_neg (by rw [inA_iff]; omega), fnd_low h3 (by omega)], fun s a b => by omega⟩
      · have e1 : frP n p (x :: r) = frP n (x.a + x.n) r := by simp [frP, g1, g2]
        rw [e1]
        obtain ⟨i1, i2, i3⟩ := frP_spec hn (x.a + x.n) h3
        refine ⟨by omega, fun i a b => by rw [hf i (by omega)]; exact i2 i a b, fun s a b hs => ?_⟩
        by_cases g3 : x.a + x.n ≤ s
        · exact i3 s g3 b (fun i c d => by rw [← hf i (by omega)]; exact hs i c d)
        · have := hs (max s x.a) (by omega) (by omega)
          rw [fnd_cons, if_pos (by rw [inA_iff]; omega)] at this
          cases this
theorem freeV_bad {L : List Ar} {n : Int} (h : n < 1 ∨ 256 < n) : freeV L n = (0, false) := by unfold freeV; rw [if_pos h]
theorem freeV_none {L : List Ar} {n e : Int} (hc : chn e L = true) (h1 : 1 ≤ n) (h2 : n ≤ 256) (h : ∀ s, 64 ≤ s → s + n ≤ 256 → ¬ FreeAt L n s) : freeV L n = (0, false) := by
  obtain ⟨i1, i2, i3⟩ := frP_spec h1 64 hc
  unfold freeV
  rw [if_neg (by omega)]
  split
  · rfl
  · exact absurd i2 (h _ i1 (by omega))
theorem freeV_some {L : List Ar} {n e s : Int} (hc : chn e L = true) (h1 : 1 ≤ n) (h2 : n ≤ 256) (h3 : 64 ≤ s) (h4 : s + n ≤ 256) (h5 : FreeAt L n s) (h6 : ∀ t, 64 ≤ t → t < s → ¬ FreeAt L n t) : freeV L n = (s, true) := by
  obtain ⟨i1, i2, i3⟩ := frP_spec h1 64 hc
  have e1 : frP n 64 L = s := by
    rcases Int.lt_trichotomy (frP n 64 L) s with h | h | h
    · exact absurd i2 (h6 _ i1 h)
    · exact h
    · exact absurd h5 (i3 s h3 h)
  unfold freeV
  rw [if_neg (by omega), e1, if_neg (by omega)]
/-- What Free tells, told by the runs. -/
theorem freeV_cases {L : List Ar} {n e : Int} (hc : chn e L = true) (h1 : 1 ≤ n) (h2 : n ≤ 256) :
    (∃ s, freeV L n = (s, true) ∧ 64 ≤ s ∧ s + n ≤ 256 ∧ FreeAt L n s ∧ ∀ t, 64 ≤ t → t < s → ¬ FreeAt L n t) ∨ (freeV L n = (0, false) ∧ ∀ s, 64 ≤ s → s + n ≤ 256 → ¬ FreeAt L n s) := by
  obtain ⟨i1, i2, i3⟩ := frP_spec h1 64 hc
  unfold freeV
  rw [if_neg (by omega)]
  by_cases h : 256 - n < frP n 64 L
  · rw [if_pos h]
    exact .inr ⟨rfl, fun s a b => i3 s a (by omega)⟩
  · rw [if_neg h]
    exact .inl ⟨_, rfl, i1, by omega, i2, i3⟩
/-- A page that can be loaded, or stored. -/
def canP (L : List Ar) (wr : Bool) (p : Int) : Bool := match fnd L p with
  | some x => !wr || x.w
  | none => false
def pgs (L : List Ar) (wr : Bool) (a b : Int) : Bool := (List.range (b - a + 1).toNat).all (fun i => canP L wr (a + (i : Nat)))
theorem pgs_true {L : List Ar} {wr : Bool} {a b : Int} (h : ∀ q, a ≤ q → q ≤ b → canP L wr q = true) : pgs L wr a b = true := by
  unfold pgs
  rw [List.all_eq_true]
  intro i hi
  have := List.mem_range.1 hi
  exact h _ (by omega) (by omega)
theorem pgs_false {L : List Ar} {wr : Bool} {a b q : Int} (h1 : a ≤ q) (h2 : q ≤ b) (h : canP L wr q = false) : pgs L wr a b = false := by
  unfold pgs
  rw [List.all_eq_false]
  refine ⟨(q - a).toNat, List.mem_range.2 (by omega), ?_⟩
  rw [show a + ((q - a).toNat : Int) = q by omega, h]
  simp
def canR (a n : Int) : Bool := decide (0 ≤ a ∧ n ≤ 16384 ∧ a ≤ 16384 - n)
def canB (L : List Ar) (a n : Int) (wr : Bool) : Bool := if n < 0 then false else if n = 0 then true else if canR a n then pgs L wr (a / 64) ((a + n - 1) / 64) else false
/-- The same, byte by byte. -/
theorem canB_true {L : List Ar} {a n : Int} {wr : Bool} (h0 : 0 < n) (hr : canR a n = true) (h : ∀ i, 0 ≤ i → i < n → canP L wr ((a + i) / 64) = true) : canB L a n wr = true := by
  have hr' : 0 ≤ a ∧ n ≤ 16384 ∧ a ≤ 16384 - n := by unfold canR at hr; simpa using hr
  unfold canB
  rw [if_neg (by omega), if_neg (by omega), if_pos hr]
  refine pgs_true (fun q h1 h2 => ?_)
  have := h (max 0 (q * 64 - a)) (by omega) (by omega)
  rwa [show (a + max 0 (q * 64 - a)) / 64 = q by omega] at this
theorem canB_false {L : List Ar} {a n i : Int} {wr : Bool} (h0 : 0 ≤ i) (h1 : i < n) (hr : canR a n = true) (h : canP L wr ((a + i) / 64) = false) : canB L a n wr = false := by
  have hr' : 0 ≤ a ∧ n ≤ 16384 ∧ a ≤ 16384 - n := by unfold canR at hr; simpa using hr
  unfold canB
  rw [if_neg (by omega), if_neg (by omega), if_pos hr]
  exact pgs_false (by omega) (by omega) h
end Go.Proofs.Ytiffjaociblboaa
