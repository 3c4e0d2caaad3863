/- TlbKeeps: the plain law. -/
import Derived.Test.YtkfcoemdpcjhfaaB1
namespace Go.Proofs.Ytkfcoemdpcjhfaa
open Go.RowKit

theorem Nd.pigeon {Q O : List En} (h : Nd Q) (hq : ∀ x ∈ Q, ∃ y ∈ O, y.s = x.s ∧ y.p = x.p) : Q.length ≤ O.length := by
  induction Q generalizing O with
  | nil => simp
  | cons a r ih =>
    obtain ⟨y, hy, h1, h2⟩ := hq a (by simp)
    have hd := List.pairwise_cons.1 h
    have h3 := ih (O := O.erase y) hd.2 (fun x hx => by
      obtain ⟨z, hz, e1, e2⟩ := hq x (by simp [hx])
      refine ⟨z, (List.mem_erase_of_ne (fun e => ?_)).2 hz, e1, e2⟩
      subst e
      exact hd.1 x hx ⟨h1.symm.trans e1, h2.symm.trans e2⟩)
    rw [List.length_erase_of_mem hy] at h3
    have := List.length_pos_of_mem hy
    simp only [List.length_cons]
    omega
/-- The page's entry, with what lies ahead of it: pages that are among the others. -/
structure KI (t : Tl) (N : Nat) (s p f : Int) (O : List En) : Prop where
  n : t.n = N
  d : Nd t.L
  o : O.length < N
  e : ∃ P S, t.L = P ++ ⟨s, p, f, true⟩ :: S ∧ ∀ x ∈ P, ∃ y ∈ O, y.s = x.s ∧ y.p = x.p
section
variable {t : Tl} {N : Nat} {s p f : Int} {O : List En}
theorem KI.init (hN : 0 < N) : KI ((⟨N, []⟩ : Tl).fill ⟨s, p, f, true⟩) N s p f [] := by
  have e : (⟨N, []⟩ : Tl).fill ⟨s, p, f, true⟩ = ⟨N, [⟨s, p, f, true⟩]⟩ := by
    unfold Tl.fill
    simp only [List.filter_nil, List.take_nil]
    rw [if_neg (by omega)]
  rw [e]
  exact ⟨rfl, List.pairwise_singleton _ _, hN, [], [], rfl, by simp⟩
theorem KI.find {P S : List En} (h : Nd (P ++ ⟨s, p, f, true⟩ :: S)) : (P ++ (⟨s, p, f, true⟩ : En) :: S).findIdx? (fun e => e.is s p) = some P.length := by
  rw [List.findIdx?_eq_some_iff_getElem]
  refine ⟨by simp, by simp [En.is], fun j hj => ?_⟩
  rw [List.getElem_append_left (by omega)]
  have := (List.pairwise_append.1 h).2.2 P[j] (List.getElem_mem _) ⟨s, p, f, true⟩ (by simp)
  simp only [En.is, Bool.not_eq_true, Bool.and_eq_false_iff, beq_eq_false_iff_ne]
  simp only [not_and] at this
  by_cases e : (P[j]).s = s
  · exact .inr (this e)
  · exact .inl e
/-- The page itself is looked up. -/
theorem KI.same (h : KI t N s p f O) (b : Bool) : t.lookR s p b = (f, true) ∧ KI (t.look s p b) N s p f [] := by
  obtain ⟨n, d, o, P, S, hL, hP⟩ := h
  have hd := d
  rw [hL] at d
  have hf := KI.find d
  rw [← hL] at hf
  have hg : t.L.getD P.length en0 = ⟨s, p, f, true⟩ := by rw [hL]; simp [List.getD]
  have hh : t.hit s p b = some P.length := by
    unfold Tl.hit
    rw [hf]
    simp only [hg]
    simp
  have hl : t.look s p b = { t with L := ⟨s, p, f, true⟩ :: t.L.eraseIdx P.length } := by
    unfold Tl.look
    rw [hh]
    simp only [hg]
  refine ⟨?_, ?_, ?_, ?_, [], P ++ S, ?_, ?_⟩
  · unfold Tl.lookR
    rw [hh]
    simp only [hg]
  · rw [hl]; exact n
  · exact Nd.look hd
  · simp; omega
  · rw [hl, hL, List.eraseIdx_append_of_length_le (Nat.le_refl _)]
    simp
  · simp
theorem KI.last (h : KI t N s p f O) : t.lookR s p true = (f, true) := (h.same true).1
theorem KI.drop (h : KI t N s p f O) {q : En → Bool} (hq : q ⟨s, p, f, true⟩ = false) : KI (t.drop q) N s p f O := by
  obtain ⟨n, d, o, P, S, hL, hP⟩ := h
  refine ⟨n, d.filter _, o, P.filter (fun e => !q e), S.filter (fun e => !q e), ?_, fun x hx => hP x (List.mem_filter.1 hx).1⟩
  unfold Tl.drop
  simp [hL, hq]
/-- The others, with one more page. -/
def more (O : List En) (x : En) : List En := if O.any (fun y => y.is x.s x.p) then O else O ++ [⟨x.s, x.p, 0, false⟩]
theorem more_old {x y : En} (h : y ∈ O) : y ∈ more O x := by
  unfold more; split
  · exact h
  · simp [h]
theorem more_new (x : En) : ∃ y ∈ more O x, y.s = x.s ∧ y.p = x.p := by
  unfold more; split
  · rename_i h
    obtain ⟨y, hy, h1⟩ := List.any_eq_true.1 h
    exact ⟨y, hy, by simpa [En.is] using h1⟩
  · exact ⟨⟨x.s, x.p, 0, false⟩, by simp, rfl, rfl⟩
theorem KI.fill (h : KI t N s p f O) {x : En} (hx : (x.s == s && x.p == p) = false) (hm : (more O x).length < N) : KI (t.fill x) N s p f (more O x) := by
  obtain ⟨n, d, o, P, S, hL, hP⟩ := h
  have hne : t.n ≠ 0 := by omega
  have hq : (⟨s, p, f, true⟩ : En).is x.s x.p = false := by
    unfold En.is
    simp only [Bool.and_eq_false_iff, beq_eq_false_iff_ne] at hx ⊢
    exact hx.imp (fun h e => h e.symm) (fun h e => h e.symm)
  have hdf := Nd.fill (t := t) d x
  have e1 : t.fill x = { t with L := x :: (t.L.filter (fun e => !e.is x.s x.p)).take (t.n - 1) } := by
    unfold Tl.fill
    simp only
    rw [if_neg hne]
  have hk : ∀ y ∈ P.filter (fun e => !e.is x.s x.p), ∃ z ∈ more O x, z.s = y.s ∧ z.p = y.p := fun y hy => by
    obtain ⟨z, hz, e⟩ := hP y (List.mem_filter.1 hy).1
    exact ⟨z, more_old hz, e⟩
  have hnd : Nd (x :: P.filter (fun e => !e.is x.s x.p)) := by
    refine List.Pairwise.cons (fun y hy hc => ?_) (Nd.filter (by rw [hL] at d; exact (List.pairwise_append.1 d).1) _)
    have := (List.mem_filter.1 hy).2
    unfold En.is at this
    rw [hc.1, hc.2] at this
    simp at this
  have hlen := hnd.pigeon (O := more O x) (fun y hy => by
    rcases List.mem_cons.1 hy with rfl | hy
    · exact more_new _
    · exact hk y hy)
  simp only [List.length_cons] at hlen
  refine ⟨by rw [e1]; exact n, hdf, hm, x :: P.filter (fun e => !e.is x.s x.p), (S.filter (fun e => !e.is x.s x.p)).take (t.n - 1 - ((P.filter (fun e => !e.is x.s x.p)).length + 1)), ?_, ?_⟩
  · rw [e1, hL]
    simp only [List.filter_append, List.filter_cons, hq, Bool.not_false, if_true, List.cons_append, List.cons.injEq, true_and]
    rw [List.take_append, List.take_of_length_le (by omega)]
    congr 1
    rw [show t.n - 1 - (P.filter (fun e => !e.is x.s x.p)).length = (t.n - 1 - ((P.filter (fun e => !e.is x.s x.p)).length + 1)) + 1 by omega, List.take_succ_cons]
  · intro y hy
    rcases List.mem_cons.1 hy with rfl | hy
    · exact more_new _
    · exact hk y hy
theorem look_no {x : En} {b : Bool} (h : (t.lookR x.s x.p b).2 = false) : t.look x.s x.p b = t := by
  unfold Tl.lookR at h
  unfold Tl.look
  split at h <;> simp_all
theorem KI.look (h : KI t N s p f O) {x : En} {b : Bool} (hx : (x.s == s && x.p == p) = false) (hm : (more O x).length < N) : KI (t.look x.s x.p b) N s p f (more O x) := by
  obtain ⟨n, d, o, P, S, hL, hP⟩ := h
  have hdl := Nd.look (t := t) d (s := x.s) (p := x.p) (b := b)
  cases hh : t.hit x.s x.p b with
  | none =>
    have e : t.look x.s x.p b = t := by unfold Tl.look; rw [hh]
    rw [e]
    exact ⟨n, d, hm, P, S, hL, fun y hy => by obtain ⟨z, hz, e⟩ := hP y hy; exact ⟨z, more_old hz, e⟩⟩
  | some i =>
    have ⟨hi, hq⟩ : ∃ hi : i < t.L.length, (t.L[i]).is x.s x.p = true := by
      unfold Tl.hit at hh
      cases hf : t.L.findIdx? (fun e => e.is x.s x.p) with
      | none => rw [hf] at hh; cases hh
      | some j =>
        rw [hf] at hh
        simp only at hh
        split at hh
        · cases hh
        · injection hh with hh
          subst hh
          rw [List.findIdx?_eq_some_iff_getElem] at hf
          exact ⟨hf.1, hf.2.1⟩
    have e : t.look x.s x.p b = { t with L := t.L[i] :: t.L.eraseIdx i } := by
      unfold Tl.look; rw [hh]; simp [List.getD, hi]
    have hnew : ∃ y ∈ more O x, y.s = (t.L[i]).s ∧ y.p = (t.L[i]).p := by
      obtain ⟨y, hy, h1, h2⟩ := more_new (O := O) x
      simp only [En.is, Bool.and_eq_true, beq_iff_eq] at hq
      exact ⟨y, hy, h1.trans hq.1.symm, h2.trans hq.2.symm⟩
    refine ⟨by rw [e]; exact n, hdl, hm, ?_⟩
    rw [e]
    by_cases hip : i < P.length
    · refine ⟨t.L[i] :: P.eraseIdx i, S, ?_, fun y hy => ?_⟩
      · simp only [List.cons_append]
        rw [← List.eraseIdx_append_of_lt_length hip, ← hL]
      · rcases List.mem_cons.1 hy with rfl | hy
        · exact hnew
        · obtain ⟨z, hz, e⟩ := hP y (List.mem_of_mem_eraseIdx hy); exact ⟨z, more_old hz, e⟩
    · have h0 : i - P.length ≠ 0 := by
        intro h0
        have hie : i = P.length := by omega
        subst hie
        have : t.L[P.length] = ⟨s, p, f, true⟩ := by simp [hL]
        rw [this] at hq
        simp only [En.is, Bool.and_eq_true, beq_iff_eq] at hq
        rw [hq.1, hq.2] at hx
        simp at hx
      obtain ⟨j, hj⟩ : ∃ j, i - P.length = j + 1 := ⟨i - P.length - 1, by omega⟩
      refine ⟨t.L[i] :: P, S.eraseIdx j, ?_, fun y hy => ?_⟩
      · simp only [List.cons_append, List.cons.injEq, true_and]
        rw [hL, List.eraseIdx_append_of_length_le (by omega), hj]
        simp
      · rcases List.mem_cons.1 hy with rfl | hy
        · exact hnew
        · obtain ⟨z, hz, e⟩ := hP y hy; exact ⟨z, more_old hz, e⟩
/-- The law leaves the round. -/
def quitB (q : Int) (sm : Bool) (x : En) (s f : Int) : Bool := (q == 5 && sm) || (q == 6 && x.f == f) || (q == 7 && x.s == s) || (decide (3 ≤ q) && decide (q ≤ 4) && sm)
def sameB (x : En) (s p : Int) : Bool := x.s == s && x.p == p
def skipB (q : Int) (ok : Bool) : Bool := decide (4 < q) || (decide (q < 3) && !ok)
theorem KI.stepA (h : KI t N s p f O) {d : Int} {x : En} (hq : d % 8 < 3) (hs : sameB x s p = true) : (t.opR d x).2 = true ∧ KI (t.op d x) N s p f [] := by
  simp only [sameB, Bool.and_eq_true, beq_iff_eq] at hs
  have e1 : t.opR d x = t.lookR x.s x.p x.w := by unfold Tl.opR; rw [if_neg (by omega), if_neg (by omega), if_neg (by omega), if_neg (by omega)]
  rw [e1, op_low (by omega), hs.1, hs.2]
  have := h.same x.w
  exact ⟨by rw [this.1], this.2⟩
theorem KI.stepB (h : KI t N s p f O) {d : Int} {x : En} (hq : quitB (d % 8) (sameB x s p) x s f = false) (hs : skipB (d % 8) (t.opR d x).2 = true) : KI (t.op d x) N s p f O := by
  have h1 := Int.emod_lt_of_pos d (by omega : (0 : Int) < 8)
  have h0 := Int.emod_nonneg d (by omega : (8 : Int) ≠ 0)
  by_cases h5 : d % 8 = 5
  · have e : t.op d x = t.drop (fun y => y.is x.s x.p) := by unfold Tl.op; rw [h5]; rfl
    rw [e]
    refine h.drop ?_
    rw [h5] at hq
    simp [quitB] at hq
    unfold sameB at hq
    unfold En.is
    simp only [Bool.and_eq_false_iff, beq_eq_false_iff_ne] at hq ⊢
    exact hq.imp (fun h e => h e.symm) (fun h e => h e.symm)
  by_cases h6 : d % 8 = 6
  · have e : t.op d x = t.drop (fun y => y.f == x.f) := by unfold Tl.op; rw [h6]; rfl
    rw [e]
    refine h.drop ?_
    rw [h6] at hq
    simp [quitB] at hq
    simp only [beq_eq_false_iff_ne]
    exact fun e => hq e.symm
  by_cases h7 : d % 8 = 7
  · have e : t.op d x = t.drop (fun y => y.s == x.s) := by unfold Tl.op; rw [h7]; rfl
    rw [e]
    refine h.drop ?_
    rw [h7] at hq
    simp [quitB] at hq
    simp only [beq_eq_false_iff_ne]
    exact fun e => hq e.symm
  have hl : d % 8 < 3 := by
    unfold skipB at hs
    simp at hs
    omega
  have e1 : t.opR d x = t.lookR x.s x.p x.w := by unfold Tl.opR; rw [if_neg (by omega), if_neg (by omega), if_neg (by omega), if_neg (by omega)]
  rw [e1] at hs
  rw [op_low (by omega)]
  have hn : (t.lookR x.s x.p x.w).2 = false := by
    unfold skipB at hs
    have : decide (4 < d % 8) = false := by simp; omega
    rw [this] at hs
    simpa [hl] using hs
  rw [look_no hn]
  exact h
theorem KI.stepC (h : KI t N s p f O) {d : Int} {x : En} (hq : quitB (d % 8) (sameB x s p) x s f = false) (hc : (decide (d % 8 < 3) && sameB x s p) = false) (hs : skipB (d % 8) (t.opR d x).2 = false) (hm : (more O x).length < N) : KI (t.op d x) N s p f (more O x) := by
  have h0 := Int.emod_nonneg d (by omega : (8 : Int) ≠ 0)
  have h4 : d % 8 ≤ 4 := by
    unfold skipB at hs
    simp at hs
    omega
  by_cases hl : d % 8 < 3
  · rw [op_low (by omega)]
    refine h.look ?_ hm
    simpa [hl, sameB] using hc
  · have e : t.op d x = t.fill x := by unfold Tl.op; rw [if_pos (by omega)]
    rw [e]
    refine h.fill ?_ hm
    unfold quitB at hq
    have e3 : decide (3 ≤ d % 8) = true := by simp; omega
    have e4 : decide (d % 8 ≤ 4) = true := by simp; omega
    rw [e3, e4] at hq
    simp at hq
    simpa [sameB] using hq.2
end
end Go.Proofs.Ytkfcoemdpcjhfaa
