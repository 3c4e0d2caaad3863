/- The plain planner: what a removal keeps; the trials are told alike. No program in sight. -/
import Derived.Test.YtcopjjokhjealaaGreatMD
namespace Go.Proofs.YtcopjjokhjealaaGreat
open Go.RowKit

theorem take_erase {L : List Rn} {m k : Nat} (h : m ≤ k) : (L.eraseIdx k).take m = L.take m := by
  rw [List.eraseIdx_eq_take_drop_succ]
  by_cases hk : k ≤ L.length
  · rw [List.take_append_of_le_length (by rw [List.length_take]; omega), List.take_take, Nat.min_eq_left h]
  · rw [List.drop_of_length_le (by omega), List.append_nil, List.take_take, Nat.min_eq_left h]
theorem drop_sub {L M : List Rn} {m : Nat} (h : M.Sublist L) (ht : M.take m = L.take m) : (M.drop m).Sublist (L.drop m) := by
  have h2 : (L.take m ++ M.drop m).Sublist (L.take m ++ L.drop m) := by rw [← ht, List.take_append_drop, ht, List.take_append_drop]; exact h
  exact (List.append_sublist_append_left _).1 h2
/-- Ahead of place m nothing goes, and no line goes whose parent trial does not run from there on. -/
theorem Rm.keepLn {X : Rn → Prop} {j : Job} {s s' : Pl} {o : List Int} (h : Rm j s s' o) : ∀ (m : Nat), Core X s → (∀ x ∈ pend j, 0 < x) → (∀ k, j = .rem k → m ≤ k) → (∀ a ∈ s.li.take m, a.l ∉ pend j) →
    s'.li.take m = s.li.take m ∧ ∀ x n, s.ln x = some n → x ∉ pend j → (0 < x → ∀ b ∈ s.li.drop m, b.t ≠ n.par) → s'.ln x = some n := by
  induction h with
  | @rem s s' k ids o hk hw h ih =>
    intro m c hp hm ha
    have hmk := hm k rfl
    have hsub : (s.li.eraseIdx k).Sublist s.li := List.eraseIdx_sublist _ _
    have ht : (takeOut s k).li.take m = s.li.take m := take_erase hmk
    have hno : ∀ a ∈ s.li.take m, a.l ∉ ids := by
      intro a hm2 hids
      obtain ⟨i, hi, rfl⟩ := List.getElem_of_mem hm2
      rw [List.length_take] at hi
      rw [List.getElem_take] at hids
      obtain ⟨h0, n, hn, hpar⟩ := (hw.2 _).1 hids
      exact List.pairwise_iff_getElem.1 c.po i k (by omega) hk (by omega) ⟨h0, n, hn, hpar⟩
    obtain ⟨h1, h2⟩ := ih m (c.take k) (fun x hx => ((hw.2 x).1 hx).1) (fun k hk => by cases hk) (fun a hm2 => hno a (by rw [← ht]; exact hm2))
    refine ⟨h1.trans ht, fun x n hx hxp hb => h2 x n hx (fun hids => ?_) (fun h0 b hbm => hb h0 b ((drop_sub hsub ht).subset hbm))⟩
    obtain ⟨h0, n', hn', hpar⟩ := (hw.2 x).1 hids
    have hx : s.ln x = some n := hx
    have hn' : s.ln x = some n' := hn'
    rw [hx] at hn'
    injection hn' with hn'
    subst hn'
    exact hb h0 s.li[k] (List.mem_iff_getElem.2 ⟨k - m, by rw [List.length_drop]; omega, by rw [List.getElem_drop]; congr 1; omega⟩) hpar.symm
  | nil => exact fun m c hp hm ha => ⟨rfl, fun x n hx _ _ => hx⟩
  | @cons s s1 s2 id ids o1 o2 h1 h2 ih1 ih2 =>
    intro m c hp hm ha
    have hp1 : ∀ x ∈ pend (.cut id), 0 < x := fun x hx => hp x (by simp [pend] at hx ⊢; exact .inl hx)
    obtain ⟨a1, a2⟩ := ih1 m c hp1 (fun k hk => by cases hk) (fun a h0 hx => ha a h0 (by simp [pend] at hx ⊢; exact .inl hx))
    obtain ⟨b1, b2⟩ := ih2 m (c.rm h1 hp1) (fun x hx => hp x (by simp [pend] at hx ⊢; exact .inr hx)) (fun k hk => by cases hk) (fun a h0 hx => ha a (by rw [← a1]; exact h0) (by simp [pend] at hx ⊢; exact .inr hx))
    refine ⟨b1.trans a1, fun x n hx hxp hb => b2 x n (a2 x n hx (fun h0 => hxp (by simp [pend] at h0 ⊢; exact .inl h0)) hb) (fun h0 => hxp (by simp [pend] at h0 ⊢; exact .inr h0)) (fun h0 b hbm => hb h0 b ((drop_sub h1.sub a1).subset hbm))⟩
  | @done s id h =>
    intro m c hp hm ha
    refine ⟨rfl, fun x n hx hxp _ => ?_⟩
    show updG s.ln id none x = some n
    rw [updG_ne _ _ (fun e => hxp (by simp [pend, e]))]
    exact hx
  | @step s s1 s2 id k o1 o2 h h1 h2 ih1 ih2 =>
    intro m c hp hm ha
    obtain ⟨hk, he, -⟩ := ixF_spec h
    have he : s.li[k].l = id := by simpa using he
    have hmk : m ≤ k := by
      rcases Nat.lt_or_ge k m with hlt | hge
      · exact absurd (by simp [pend, he]) (ha s.li[k] (List.mem_iff_getElem.2 ⟨k, by rw [List.length_take]; omega, by rw [List.getElem_take]⟩))
      · exact hge
    obtain ⟨a1, a2⟩ := ih1 m c (fun x hx => by cases hx) (fun k' hk' => by injection hk' with hk'; omega) (fun a h0 hx => by cases hx)
    obtain ⟨b1, b2⟩ := ih2 m (c.rm h1 (fun x hx => by cases hx)) hp (fun k hk => by cases hk) (fun a h0 hx => ha a (by rw [← a1]; exact h0) hx)
    refine ⟨b1.trans a1, fun x n hx hxp hb => b2 x n (a2 x n hx (fun h0 => by cases h0) hb) hxp (fun h0 b hbm => hb h0 b ((drop_sub h1.sub a1).subset hbm))⟩
/-- The line of an item that goes stays. -/
theorem Rm.keepOwn {X : Rn → Prop} {k : Nat} {s s' : Pl} {o : List Int} (h : Rm (.rem k) s s' o) (c : Core X s) (hk : k < s.li.length) {n : Ln} (hn : s.ln s.li[k].l = some n) : s'.ln s.li[k].l = some n := by
  refine (h.keepLn k c (fun x hx => by cases hx) (fun k' e => by injection e with e; omega) (fun a _ hx => by cases hx)).2 _ n hn (fun hx => by cases hx) (fun h0 b hb e => ?_)
  obtain ⟨j, hj, rfl⟩ := List.getElem_of_mem hb
  rw [List.length_drop] at hj
  rw [List.getElem_drop] at e
  by_cases hj0 : j = 0
  · subst hj0
    exact c.ps _ (List.getElem_mem hk) ⟨h0, n, hn, e.symm⟩
  · exact List.pairwise_iff_getElem.1 c.po k (k + j) hk (by omega) (by omega) ⟨h0, n, hn, e.symm⟩
/-- Lines whose parent trial does not run are not touched by the removal of another. -/
theorem Rm.keepSib {X : Rn → Prop} {id : Int} {s s' : Pl} {o : List Int} (h : Rm (.cut id) s s' o) (c : Core X s) (hid : 0 < id) {x : Int} {n : Ln} (hne : x ≠ id) (hn : s.ln x = some n) (hno : ∀ b ∈ s.li, b.t ≠ n.par) : s'.ln x = some n :=
  (h.keepLn 0 c (fun y hy => by simp [pend] at hy; omega) (fun k e => by cases e) (fun a ha => by simp at ha)).2 x n hn (by simpa [pend] using hne) (fun _ b hb => hno b (by simpa using hb))
/-- What stood ahead of the item that goes stands. -/
theorem Rm.keepPre {X : Rn → Prop} {k : Nat} {s s' : Pl} {o : List Int} (h : Rm (.rem k) s s' o) (c : Core X s) : s'.li.take k = s.li.take k :=
  (h.keepLn k c (fun x hx => by cases hx) (fun k' e => by injection e with e; omega) (fun a _ hx => by cases hx)).1
end Go.Proofs.YtcopjjokhjealaaGreat
