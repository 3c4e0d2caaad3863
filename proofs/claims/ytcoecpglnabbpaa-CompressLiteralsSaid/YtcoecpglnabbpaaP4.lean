/- CompressLiterals: the plain law. No program in sight. -/
import Derived.Test.YtcoecpglnabbpaaP3
namespace Go.Proofs.Ytcoecpglnabbpaa

/-- No byte comes after an equal one. -/
def Adj : Bs → Prop
  | [] => True
  | a :: r => r.head? ≠ some a ∧ Adj r
theorem Adj.snoc {l : Bs} {c : UInt8} (h : Adj l) (hc : l.getLast? ≠ some c) : Adj (l ++ [c]) := by
  induction l with
  | nil => exact ⟨by simp, trivial⟩
  | cons a r ih =>
    cases r with
    | nil =>
      refine ⟨?_, by simp, trivial⟩
      intro e
      apply hc
      have e2 : (some c : Option UInt8) = some a := e
      rw [e2]
      rfl
    | cons b t =>
      refine ⟨h.1, ih h.2 ?_⟩
      intro e
      apply hc
      rw [← e]
      simp
theorem Adj.take {l : Bs} (h : Adj l) (k : Nat) : Adj (l.take k) := by
  induction l generalizing k with
  | nil => rw [List.take_nil]; trivial
  | cons a r ih =>
    cases k with
    | zero => trivial
    | succ k =>
      rw [List.take_succ_cons]
      refine ⟨?_, ih h.2 k⟩
      cases r with
      | nil => simp
      | cons b t =>
        cases k with
        | zero => simp
        | succ k => rw [List.take_succ_cons]; exact h.1
theorem eqN_ne {a : UInt8} {r : Bs} (h : r.head? ≠ some a) : eqN (a :: r) = 1 := by
  rw [eqN_cons]
  cases r with
  | nil => rfl
  | cons b t =>
    rw [List.takeWhile_cons, if_neg]
    · rfl
    · simp only [beq_iff_eq]
      intro e
      apply h
      rw [e]
      rfl
theorem adj_eqN {l r : Bs} (h : Adj l) (hr : ∀ a, l.getLast? = some a → r.head? ≠ some a) : ∀ i, i < l.length → eqN ((l ++ r).drop i) < 3 := by
  induction l with
  | nil => intro i hi; simp at hi
  | cons a t ih =>
    intro i hi
    cases i with
    | zero =>
      have : (t ++ r).head? ≠ some a := by
        cases t with
        | nil => exact hr a rfl
        | cons b u => exact h.1
      show eqN (a :: (t ++ r)) < 3
      rw [eqN_ne this]
      omega
    | succ i =>
      refine ih h.2 ?_ i (by simpa using hi)
      intro b hb
      apply hr
      cases t with
      | nil => simp at hb
      | cons c u => rw [List.getLast?_cons_cons]; exact hb
theorem pack_adj {l : Bs} (h : Adj l) (hl : l.length = 64) : packP l = none := by
  have h0 : l ≠ [] := by rintro rfl; simp at hl
  have hf := form_lit (p := l) (r := []) h0 (adj_eqN h (by simp)) (.inl rfl)
  rw [List.append_nil, form_nil, List.append_nil] at hf
  unfold packP
  rw [hf, if_neg]
  intro hh
  have := hh.2
  simp only [List.length_cons] at this
  omega
theorem pack_tail {l : Bs} {a b : UInt8} {n : Nat} (h : Adj l) (hl : l.length = n) (h1 : 1 ≤ n) (h2 : n ≤ 32) (hb : l.getLast? = some b) (hab : a ≠ b) :
    packP (l ++ List.replicate (64 - n) a) = some (UInt8.ofNat n :: (l ++ [UInt8.ofNat (128 + (64 - n)), a])) := by
  have h0 : l ≠ [] := by rintro rfl; simp at hl; omega
  obtain ⟨k, hk⟩ : ∃ k, 64 - n = k + 1 := ⟨63 - n, by omega⟩
  have hrun : eqN (List.replicate (64 - n) a) = 64 - n := by
    have := eqN_rep (a := a) (k := 64 - n) (r := []) (by omega) (by simp)
    rwa [List.append_nil] at this
  have hf := form_lit (p := l) (r := List.replicate (64 - n) a) h0 (adj_eqN h (by
    intro c hc e
    rw [hb] at hc
    injection hc with hc
    rw [hk, List.replicate_succ, List.head?_cons] at e
    injection e with e
    exact hab (by rw [e, hc]))) (.inr (by rw [hrun]; omega))
  have hr := form_run (a := a) (k := 64 - n) (r := []) (by omega) (by simp)
  rw [List.append_nil, form_nil] at hr
  unfold packP
  rw [hf, hr, hl, if_pos]
  refine ⟨by simp; omega, ?_⟩
  simp only [List.length_cons, List.length_append, List.length_nil]
  omega
/-- What holds ahead of a round: i has come so far, of n bytes. -/
structure Way (n i : Nat) (out : Bs) : Prop where
  a : Adj out
  l : out.length ≤ 64
  i : i ≤ n ∨ (i ≤ n + 1 + out.length ∧ out.getLast? = some (UInt8.ofNat (i - 1)))
theorem ofNat_ne (k : Nat) : UInt8.ofNat (k + 1) ≠ UInt8.ofNat k := by
  intro h
  have := congrArg UInt8.toNat h
  simp [UInt8.toNat_ofNat'] at this
  omega
theorem Way.start (n : Nat) : Way n 0 [] := ⟨trivial, by simp, .inl (by omega)⟩
theorem Way.put {n i : Nat} {out : Bs} {c : UInt8} (h : Way n i out) (hl : out.length < 64) (hc : out.getLast? ≠ some c) (hi : i < n ∨ c = UInt8.ofNat i) : Way n (i + 1) (out ++ [c]) := by
  refine ⟨h.a.snoc hc, by simp; omega, ?_⟩
  rcases hi with hi | rfl
  · exact .inl (by omega)
  · right
    refine ⟨?_, by simp⟩
    rcases h.i with h1 | ⟨h1, _⟩
    · simp; omega
    · simp; omega
theorem Way.skip {n i : Nat} {out : Bs} {c : UInt8} (h : Way n i out) (hc : out.getLast? = some c) (hi : i < n ∨ c = UInt8.ofNat i) : Way n (i + 1) out := by
  refine ⟨h.a, h.l, ?_⟩
  rcases hi with hi | rfl
  · exact .inl (by omega)
  · right
    refine ⟨?_, by simpa using hc⟩
    rcases h.i with h1 | ⟨h1, h2⟩
    · omega
    · rcases Nat.eq_zero_or_pos i with h0 | h0
      · omega
      · exfalso
        rw [h2] at hc
        injection hc with hc
        have := ofNat_ne (i - 1)
        rw [show i - 1 + 1 = i by omega] at this
        exact this hc.symm
theorem Way.le {n i : Nat} {out : Bs} (h : Way n i out) : i ≤ n + 65 := by
  have := h.l
  rcases h.i with h1 | ⟨h1, _⟩ <;> omega
end Go.Proofs.Ytcoecpglnabbpaa
