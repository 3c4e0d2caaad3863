/- Texts of the elder seat, turned to this one: P1. -/
import Derived.Test.YtcopjjokhjealaaGreatM4
namespace Go.Proofs.YtcopjjokhjealaaGreat
open Go.RowKit

theorem updG_same {κ V : Type} (f : κ → Option V) (x : κ) (o : Option V) : updG f x o x = o := by unfold updG; rw [if_pos rfl]
theorem updG_ne {κ V : Type} (f : κ → Option V) {x y : κ} (o : Option V) (h : y ≠ x) : updG f x o y = f y := by unfold updG; rw [if_neg h]
theorem asc_ext : ∀ {a b : List Int}, a.Pairwise (· < ·) → b.Pairwise (· < ·) → (∀ x, x ∈ a ↔ x ∈ b) → a = b
  | [], [], _, _, _ => rfl
  | [], y :: b, _, _, h => absurd ((h y).2 (by simp)) (by simp)
  | x :: a, [], _, _, h => absurd ((h x).1 (by simp)) (by simp)
  | x :: a, y :: b, ha, hb, h => by
    obtain ⟨a1, a2⟩ := List.pairwise_cons.1 ha
    obtain ⟨b1, b2⟩ := List.pairwise_cons.1 hb
    have hxy : x = y := by
      rcases List.mem_cons.1 ((h x).1 (by simp)) with e | e
      · exact e
      · rcases List.mem_cons.1 ((h y).2 (by simp)) with e' | e'
        · exact e'.symm
        · have := b1 x e; have := a1 y e'; omega
    subst hxy
    rw [asc_ext a2 b2 (fun z => ?_)]
    constructor
    · intro hz
      rcases List.mem_cons.1 ((h z).1 (by simp [hz])) with e | e
      · have := a1 z hz; omega
      · exact e
    · intro hz
      rcases List.mem_cons.1 ((h z).2 (by simp [hz])) with e | e
      · have := b1 z hz; omega
      · exact e
/-- The lines of a trial, ascending. -/
def IsW (s : Pl) (t : Int) (ids : List Int) : Prop := ids.Pairwise (· < ·) ∧ ∀ x, x ∈ ids ↔ 0 < x ∧ ∃ n, s.ln x = some n ∧ n.par = t
inductive Job where
  | rem (k : Nat)
  | cuts (ids : List Int)
  | cut (id : Int)
noncomputable def dropL (s : Pl) (id : Int) : Pl := ⟨updG s.ln id none, s.li, fun k => if k.1 = id then none else s.ct k⟩
def takeOut (s : Pl) (k : Nat) : Pl := ⟨s.ln, s.li.eraseIdx k, s.ct⟩
/-- What a removal does, and the trials that go. -/
inductive Rm : Job → Pl → Pl → List Int → Prop where
  | rem {s s' : Pl} {k : Nat} {ids o : List Int} (hk : k < s.li.length) (hw : IsW (takeOut s k) s.li[k].t ids) (h : Rm (.cuts ids) (takeOut s k) s' o) : Rm (.rem k) s s' (s.li[k].t :: o)
  | nil {s : Pl} : Rm (.cuts []) s s []
  | cons {s s1 s2 : Pl} {id : Int} {ids o1 o2 : List Int} (h1 : Rm (.cut id) s s1 o1) (h2 : Rm (.cuts ids) s1 s2 o2) : Rm (.cuts (id :: ids)) s s2 (o1 ++ o2)
  | done {s : Pl} {id : Int} (h : ixF (fun x => decide (x.l = id)) s.li < 0) : Rm (.cut id) s (dropL s id) []
  | step {s s1 s2 : Pl} {id : Int} {k : Nat} {o1 o2 : List Int} (h : ixF (fun x => decide (x.l = id)) s.li = k) (h1 : Rm (.rem k) s s1 o1) (h2 : Rm (.cut id) s1 s2 o2) : Rm (.cut id) s s2 (o1 ++ o2)
theorem ixF_spec {p : Rn → Bool} {L : List Rn} {k : Nat} (h : ixF p L = k) : ∃ hk : k < L.length, p L[k] = true ∧ ∀ j (hj : j < L.length), j < k → p L[j] = false := by
  unfold ixF at h
  cases hf : L.findIdx? p with
  | none => rw [hf] at h; dsimp only at h; omega
  | some i =>
    rw [hf] at h
    dsimp only at h
    obtain rfl : i = k := by omega
    obtain ⟨hi, h1, h2⟩ := List.findIdx?_eq_some_iff_getElem.1 hf
    exact ⟨hi, h1, fun j hj hji => by simpa using h2 j hji⟩
theorem ixF_neg {p : Rn → Bool} {L : List Rn} (h : ixF p L < 0) : ∀ x ∈ L, p x = false := by
  unfold ixF at h
  cases hf : L.findIdx? p with
  | none => exact fun x hx => List.findIdx?_eq_none_iff.1 hf x hx
  | some i => rw [hf] at h; dsimp only at h; omega
theorem ixF_cases (p : Rn → Bool) (L : List Rn) : ixF p L < 0 ∨ ∃ k : Nat, ixF p L = k := by
  unfold ixF
  cases L.findIdx? p with
  | none => exact .inl (by decide)
  | some k => exact .inr ⟨k, rfl⟩
/-- A removal is told by where it starts. -/
theorem Rm.det {j : Job} {s s1 : Pl} {o1 : List Int} (h1 : Rm j s s1 o1) : ∀ {s2 : Pl} {o2 : List Int}, Rm j s s2 o2 → s1 = s2 ∧ o1 = o2 := by
  induction h1 with
  | rem hk hw h ih =>
    intro s2 o2 h2
    cases h2 with
    | rem hk2 hw2 h2 =>
      obtain rfl := asc_ext hw.1 hw2.1 (fun x => by rw [hw.2, hw2.2])
      obtain ⟨rfl, rfl⟩ := ih h2
      exact ⟨rfl, rfl⟩
  | nil => intro s2 o2 h2; cases h2; exact ⟨rfl, rfl⟩
  | cons h1 h2 ih1 ih2 =>
    intro s2 o2 h
    cases h with
    | cons g1 g2 =>
      obtain ⟨rfl, rfl⟩ := ih1 g1
      obtain ⟨rfl, rfl⟩ := ih2 g2
      exact ⟨rfl, rfl⟩
  | done h =>
    intro s2 o2 h2
    cases h2 with
    | done _ => exact ⟨rfl, rfl⟩
    | step hk _ _ => rw [hk] at h; omega
  | step h h1 h2 ih1 ih2 =>
    intro s2 o2 g
    cases g with
    | done hn => rw [h] at hn; omega
    | step hk g1 g2 =>
      rw [h] at hk
      have hk := Int.ofNat.inj hk
      subst hk
      obtain ⟨rfl, rfl⟩ := ih1 g1
      obtain ⟨rfl, rfl⟩ := ih2 g2
      exact ⟨rfl, rfl⟩
/-- The lines that a job is to remove. -/
def pend : Job → List Int
  | .rem _ => []
  | .cuts ids => ids
  | .cut id => [id]
theorem eraseIdx_len {L : List Rn} {k : Nat} (hk : k < L.length) : (L.eraseIdx k).length + 1 = L.length := by rw [List.length_eraseIdx]; simp [hk]; omega
/-- As many items go as trials are told. -/
theorem Rm.len {j : Job} {s s' : Pl} {o : List Int} (h : Rm j s s' o) : o.length + s'.li.length = s.li.length := by
  induction h with
  | @rem s _ k _ _ hk hw h ih => have := eraseIdx_len hk; simp only [List.length_cons]; unfold takeOut at ih; dsimp only at ih; omega
  | nil => simp
  | cons h1 h2 ih1 ih2 => rw [List.length_append]; omega
  | done h => simp [dropL]
  | step h h1 h2 ih1 ih2 => rw [List.length_append]; omega
theorem Rm.lt {k : Nat} {s s' : Pl} {o : List Int} (h : Rm (.rem k) s s' o) : s'.li.length < s.li.length := by
  have := h.len
  cases h with
  | rem hk hw h => simp only [List.length_cons] at this; omega
theorem Rm.sub {j : Job} {s s' : Pl} {o : List Int} (h : Rm j s s' o) : s'.li.Sublist s.li := by
  induction h with
  | rem hk hw h ih => exact ih.trans (List.eraseIdx_sublist _ _)
  | nil => exact List.Sublist.refl _
  | cons h1 h2 ih1 ih2 => exact ih2.trans ih1
  | done h => exact List.Sublist.refl _
  | step h h1 h2 ih1 ih2 => exact ih2.trans ih1
/-- Lines are only removed. -/
theorem Rm.ln {j : Job} {s s' : Pl} {o : List Int} (h : Rm j s s' o) : ∀ x n, s'.ln x = some n → s.ln x = some n := by
  induction h with
  | rem hk hw h ih => exact ih
  | nil => exact fun _ _ h => h
  | cons h1 h2 ih1 ih2 => exact fun x n h => ih1 x n (ih2 x n h)
  | @done s id h =>
    intro x n hx
    by_cases e : x = id
    · subst e; have hx : updG s.ln x none x = some n := hx; rw [updG_same] at hx; cases hx
    · have hx : updG s.ln id none x = some n := hx; rw [updG_ne _ _ e] at hx; exact hx
  | step h h1 h2 ih1 ih2 => exact fun x n h => ih1 x n (ih2 x n h)
/-- And so are counts. -/
theorem Rm.ct {j : Job} {s s' : Pl} {o : List Int} (h : Rm j s s' o) : ∀ k c, s'.ct k = some c → s.ct k = some c := by
  induction h with
  | rem hk hw h ih => exact ih
  | nil => exact fun _ _ h => h
  | cons h1 h2 ih1 ih2 => exact fun x n h => ih1 x n (ih2 x n h)
  | @done s id h =>
    intro k c hx
    unfold dropL at hx
    dsimp only at hx
    by_cases e : k.1 = id
    · rw [if_pos e] at hx; cases hx
    · rw [if_neg e] at hx; exact hx
  | step h h1 h2 ih1 ih2 => exact fun x n h => ih1 x n (ih2 x n h)
/-- A running item's line and count. -/
def Home (s : Pl) (r : Rn) : Prop := (∃ n, s.ln r.l = some n ∧ r.i ∈ n.it) ∧ (s.ct (r.l, r.i)).isSome = true
theorem Rm.home {j : Job} {s s' : Pl} {o : List Int} (h : Rm j s s' o) (hh : ∀ r ∈ s.li, Home s r) : ∀ r ∈ s'.li, Home s' r := by
  induction h with
  | rem hk hw h ih => exact ih (fun r hr => hh r ((List.eraseIdx_sublist _ _).subset hr))
  | nil => exact hh
  | cons h1 h2 ih1 ih2 => exact ih2 (ih1 hh)
  | @done s id h =>
    intro r hr
    have hne : r.l ≠ id := by have := ixF_neg h r hr; simpa using this
    obtain ⟨h1, h2⟩ := hh r hr
    refine ⟨?_, ?_⟩
    · show ∃ n, updG s.ln id none r.l = some n ∧ _
      rw [updG_ne _ _ hne]; exact h1
    · show (if (r.l, r.i).1 = id then none else s.ct (r.l, r.i)).isSome = true
      rw [if_neg hne]; exact h2
  | step h h1 h2 ih1 ih2 => exact ih2 (ih1 hh)
/-- Each line's parent trial runs, but for the pending lines. -/
def Orph (P : Int → Prop) (s : Pl) : Prop := ∀ x n, 0 < x → s.ln x = some n → P x ∨ ∃ r ∈ s.li, r.t = n.par
theorem mem_eraseIdx_ne {L : List Rn} {k : Nat} {r : Rn} (hr : r ∈ L) (hk : k < L.length) (hne : r ≠ L[k]) : r ∈ L.eraseIdx k := by
  rw [List.mem_eraseIdx_iff_getElem]
  obtain ⟨i, hi, rfl⟩ := List.getElem_of_mem hr
  exact ⟨i, hi, fun e => hne (by subst e; rfl), rfl⟩
theorem Rm.orph {j : Job} {s s' : Pl} {o : List Int} (h : Rm j s s' o) : ∀ P : Int → Prop, Orph (fun x => P x ∨ x ∈ pend j) s → Orph P s' := by
  induction h with
  | @rem s s' k ids o hk hw h ih =>
    intro P hP
    refine ih P (fun x n h0 hx => ?_)
    rcases hP x n h0 hx with (hp | hp) | ⟨r, hr, hrt⟩
    · exact .inl (.inl hp)
    · cases hp
    · by_cases ht : n.par = s.li[k].t
      · exact .inl (.inr ((hw.2 x).2 ⟨h0, n, hx, ht⟩))
      · exact .inr ⟨r, mem_eraseIdx_ne hr hk (fun e => ht (by rw [← hrt, e])), hrt⟩
  | nil => intro P hP x n h0 hx; rcases hP x n h0 hx with (hp | hp) | h; exact .inl hp; cases hp; exact .inr h
  | @cons s s1 s2 id ids o1 o2 h1 h2 ih1 ih2 =>
    intro P hP
    refine ih2 P (ih1 (fun x => P x ∨ x ∈ ids) (fun x n h0 hx => ?_))
    rcases hP x n h0 hx with (hp | hp) | h
    · exact .inl (.inl (.inl hp))
    · rcases List.mem_cons.1 hp with rfl | hp
      · exact .inl (.inr (by simp [pend]))
      · exact .inl (.inl (.inr hp))
    · exact .inr h
  | @done s id h =>
    intro P hP x n h0 hx
    by_cases e : x = id
    · subst e; have hx : updG s.ln x none x = some n := hx; rw [updG_same] at hx; cases hx
    · have hx : updG s.ln id none x = some n := hx
      rw [updG_ne _ _ e] at hx
      rcases hP x n h0 hx with (hp | hp) | h
      · exact .inl hp
      · exact absurd (by simpa [pend] using hp) e
      · exact .inr h
  | @step s s1 s2 id k o1 o2 h h1 h2 ih1 ih2 =>
    intro P hP
    refine ih2 P (ih1 (fun x => P x ∨ x ∈ pend (.cut id)) (fun x n h0 hx => ?_))
    rcases hP x n h0 hx with hp | h
    · exact .inl (.inl hp)
    · exact .inr h
/-- Line 0 is kept. -/
theorem Rm.zero {j : Job} {s s' : Pl} {o : List Int} (h : Rm j s s' o) (hp : ∀ x ∈ pend j, 0 < x) : s'.ln 0 = s.ln 0 ∧ ∀ i, s'.ct (0, i) = s.ct (0, i) := by
  induction h with
  | rem hk hw h ih => exact ih (fun x hx => ((hw.2 x).1 hx).1)
  | nil => exact ⟨rfl, fun _ => rfl⟩
  | cons h1 h2 ih1 ih2 =>
    have a := ih1 (fun x hx => hp x (by simp [pend] at hx ⊢; exact .inl hx))
    have b := ih2 (fun x hx => hp x (by simp [pend] at hx ⊢; exact .inr hx))
    exact ⟨b.1.trans a.1, fun i => (b.2 i).trans (a.2 i)⟩
  | @done s id h =>
    have h0 : (0 : Int) < id := hp id (by simp [pend])
    refine ⟨updG_ne _ _ (by omega), fun i => ?_⟩
    show (if ((0 : Int), i).1 = id then none else s.ct (0, i)) = _
    rw [if_neg (by dsimp only; omega)]
  | step h h1 h2 ih1 ih2 =>
    have a := ih1 (fun x hx => by cases hx)
    have b := ih2 hp
    exact ⟨b.1.trans a.1, fun i => (b.2 i).trans (a.2 i)⟩
/-- The item runs. -/
def runB (L : List Rn) (l i : Int) : Bool := L.any (fun r => decide (r.l = l) && decide (r.i = i))
theorem runB_fnd (L : List Rn) (l i : Int) : runB L l i = decide (0 ≤ fndI L l i) := by
  unfold runB fndI
  rcases ixF_cases (fun x => decide (x.l = l) && decide (x.i = i)) L with h | ⟨k, h⟩
  · rw [decide_eq_false (by omega)]
    rw [List.any_eq_false]
    intro r hr
    have := ixF_neg h r hr
    simp at this ⊢
    exact this
  · rw [decide_eq_true (by omega)]
    obtain ⟨hk, h1, -⟩ := ixF_spec h
    exact List.any_eq_true.2 ⟨_, List.getElem_mem hk, h1⟩
/-- A count is in balance. -/
def BalC (L : List Rn) (k : Int × Int) (c : Ct) : Prop := c.runs = c.com + c.con + c.drp + c.str + if runB L k.1 k.2 then 1 else 0
def Bal (P : Int → Prop) (s : Pl) : Prop := ∀ k c, s.ct k = some c → P k.1 ∨ BalC s.li k c
def pre : Job → Pl → Pl
  | .rem k, s => takeOut s k
  | _, s => s
theorem runB_erase {L : List Rn} {k : Nat} (hk : k < L.length) {l i : Int} (h : L[k].l ≠ l) : runB (L.eraseIdx k) l i = runB L l i := by
  unfold runB
  rw [Bool.eq_iff_iff, List.any_eq_true, List.any_eq_true]
  constructor
  · rintro ⟨r, hr, h1⟩
    exact ⟨r, (List.eraseIdx_sublist _ _).subset hr, h1⟩
  · rintro ⟨r, hr, h1⟩
    refine ⟨r, mem_eraseIdx_ne hr hk (fun e => h ?_), h1⟩
    rw [← e]
    simp at h1
    exact h1.1
theorem Rm.bal {j : Job} {s s' : Pl} {o : List Int} (h : Rm j s s' o) : ∀ P : Int → Prop, Bal (fun l => P l ∨ l ∈ pend j) (pre j s) → Bal P s' := by
  induction h with
  | @rem s s' k ids o hk hw h ih =>
    intro P hP
    refine ih P (fun x n hx => ?_)
    rcases hP x n hx with (hp | hp) | h
    · exact .inl (.inl hp)
    · cases hp
    · exact .inr h
  | nil => intro P hP x n hx; rcases hP x n hx with (hp | hp) | h; exact .inl hp; cases hp; exact .inr h
  | @cons s s1 s2 id ids o1 o2 h1 h2 ih1 ih2 =>
    intro P hP
    refine ih2 P (ih1 (fun x => P x ∨ x ∈ ids) (fun x n hx => ?_))
    rcases hP x n hx with (hp | hp) | h
    · exact .inl (.inl (.inl hp))
    · rcases List.mem_cons.1 hp with hp | hp
      · exact .inl (.inr (by simp [pend, hp]))
      · exact .inl (.inl (.inr hp))
    · exact .inr h
  | @done s id h =>
    intro P hP x n hx
    unfold dropL at hx
    dsimp only at hx
    by_cases e : x.1 = id
    · rw [if_pos e] at hx; cases hx
    · rw [if_neg e] at hx
      rcases hP x n hx with (hp | hp) | h
      · exact .inl hp
      · exact absurd (by simpa [pend] using hp) e
      · exact .inr h
  | @step s s1 s2 id k o1 o2 h h1 h2 ih1 ih2 =>
    intro P hP
    obtain ⟨hk, he, -⟩ := ixF_spec h
    have he : s.li[k].l = id := by simpa using he
    refine ih2 P (ih1 (fun x => P x ∨ x ∈ pend (.cut id)) (fun x n hx => ?_))
    rcases hP x n hx with hp | h
    · exact .inl (.inl hp)
    · by_cases e : x.1 = id
      · exact .inl (.inl (.inr (by simp [pend, e])))
      · refine .inr ?_
        unfold BalC at h ⊢
        rw [h]
        show _ = _ + if runB (s.li.eraseIdx k) x.1 x.2 = true then 1 else 0
        rw [runB_erase hk (by rw [he]; exact fun h => e h.symm)]
        rfl
end Go.Proofs.YtcopjjokhjealaaGreat
