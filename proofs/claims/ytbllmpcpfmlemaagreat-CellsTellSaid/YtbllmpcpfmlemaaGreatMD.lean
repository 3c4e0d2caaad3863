/- Texts of the elder seat, turned to this one: P7 P8. -/
import Derived.Test.YtbllmpcpfmlemaaGreatMC
namespace Go.Proofs.YtbllmpcpfmlemaaGreat
/-- An operation as one of somebody else. -/
def asP (x : Opn) (i : Int) : Opn := { x with who := i, dw := if 7 < doing x then 4 else x.dw }
abbrev Ans := Str × List Str × Int
def stAt (V : St) (p : Int) (l : List Opn) : St := l.foldl (fun C x => (doP C (asP x p)).2) V
def Agree (V : St) (p : Int) (l : List Rd) : Prop := ∀ r ∈ l, okRd V p r = true
/-- The operations of a trial X got these answers: its parent gets them too, in every state that agrees with what X has read. -/
def Told (P : List Str) (X : One) (l : List Opn) (ans : List Ans) : Prop :=
  ∀ V : St, WF P V → has V X.par = true → Agree V X.par X.rd → (∀ i x a, l[i]? = some x → ans[i]? = some a → (doP (stAt V X.par (l.take i)) (asP x X.par)).1 = a) ∧ stAt V X.par l = give V X
section
variable {P : List Str} {C : St} (hC : WF P C) {i : Int} {X : One} (hX : find C i = some X) (h0 : i ≠ 0) {l : List Opn} {ans : List Ans} (hT : Told P X l ans) (hl : ans.length = l.length)
include hC hX h0 hT hl
end
end Go.Proofs.YtbllmpcpfmlemaaGreat
namespace Go.Proofs.YtbllmpcpfmlemaaGreat
/-- Nobody's parent is i. -/
def NoKids (C : St) (i : Int) : Prop := ∀ x ∈ C, x.id ≠ 0 → x.par ≠ i
theorem noKids_iff {C : St} {i : Int} : kids C i = 0 ↔ NoKids C i := by
  unfold kids NoKids
  rw [List.countP_eq_zero]
  simp
/-- What others do: i is as it was, or gone; and it has no new children. -/
structure Off (i : Int) (C D : St) : Prop where
  f : find D i = find C i ∨ has D i = false
  k : NoKids C i → NoKids D i
section
variable {i : Int} {C D E : St}
theorem Off.refl (i : Int) (C : St) : Off i C C := ⟨.inl rfl, id⟩
theorem Off.gone (h : Off i C D) (hc : has C i = false) : has D i = false := by
  rcases h.f with h1 | h1
  · rw [← find_has, h1, find_has]; exact hc
  · exact h1
theorem Off.trans (h : Off i C D) (k : Off i D E) : Off i C E := by
  refine ⟨?_, fun hn => k.k (h.k hn)⟩
  rcases h.f with h1 | h1
  · rcases k.f with h2 | h2
    · exact .inl (h2.trans h1)
    · exact .inr h2
  · exact .inr (k.gone h1)
theorem Off.upd {j : Int} (hj : j ≠ i) {g : One → One} (hid : ∀ x, (g x).id = x.id) (hpar : ∀ x, (g x).par = x.par) : Off i C (Proofs.YtbllmpcpfmlemaaGreat.upd C j g) := by
  refine ⟨.inl (by rw [find_upd hid, if_neg (Ne.symm hj)]), fun h x hx h0 => ?_⟩
  obtain ⟨y, hy, ⟨_, rfl⟩ | ⟨_, rfl⟩⟩ := mem_upd hx
  · rw [hpar]; exact h y hy (by rw [← hid]; exact h0)
  · exact h _ hy h0
theorem Off.ask {j : Int} (hj : j ≠ i) (k : Str) : Off i C (askP C j k) := by
  unfold askP
  split
  · exact .refl _ _
  · split
    · exact .upd hj (fun _ => rfl) (fun _ => rfl)
    · exact .refl _ _
theorem Off.askK {j : Int} (hj : j ≠ i) (k : Str) : Off i C (askKP C j k) := by
  unfold askKP
  split
  · exact .refl _ _
  · split
    · exact .upd hj (fun _ => rfl) (fun _ => rfl)
    · exact .refl _ _
theorem Off.reAsk {p : Int} (hp : p ≠ i) (l : List Rd) : ∀ {C : St}, Off i C (Proofs.YtbllmpcpfmlemaaGreat.reAsk C p l) := by
  induction l with
  | nil => intro C; exact .refl _ _
  | cons r l ih =>
    intro C
    refine Off.trans ?_ (ih (C := reAsk1 p C r))
    cases r with
    | cell k v => exact .ask hp k
    | keys k v => exact .askK hp k
theorem Off.give {x : One} (hp : x.par ≠ i) : Off i C (Proofs.YtbllmpcpfmlemaaGreat.give C x) := by
  rw [give_eq]
  exact (Off.reAsk hp x.rd).trans (.upd hp (fun _ => rfl) (fun _ => rfl))
end
/-! The end. -/
section
variable {C : St} {i : Int}
theorem drop_cons (x : One) (t : St) (i : Int) : dropP (x :: t) i = if x.id = i then dropP t i else x :: dropP t i := by
  unfold dropP
  rw [List.filter_cons]
  by_cases h : x.id = i <;> simp [h]
theorem drop_none (h : has C i = false) : dropP C i = C := by
  unfold dropP
  rw [List.filter_eq_self]
  intro x hx
  rw [decide_eq_true_eq]
  exact fun e => by rw [has_iff.2 ⟨x, hx, e⟩] at h; cases h
end
end Go.Proofs.YtbllmpcpfmlemaaGreat
