/- A region that draws its order, and whose last operation (a store into what was read, most often) waits for all the others: the condition S is asked behind each operation but that one. -/
import Derived.Deep.RegionHeld3
import Derived.Test.YtbllmpcpfmlemaaGreatOwn
namespace Go.Proofs.YtbllmpcpfmlemaaGreat
section
variable {P : Program} {ops : Array Oper} {Q : Exit → Act → World → Prop} {S : World → Prop} {s : Nat}

/-- Whatever comes up next: S holds behind it, if it is not operation s. -/
def wpL (P : Program) (ops : Array Oper) (Q : Exit → Act → World → Prop) (S : World → Prop) (s : Nat) : Nat → Array Bool → Act → World → Prop
  | 0, listed, a, w => Region.ready .any ops listed = [] ∧ Q .normal a w
  | fuel + 1, listed, a, w =>
    (Region.ready .any ops listed = [] → Q .normal a w) ∧
    ∀ i ∈ Region.ready .any ops listed, wpOp P ops Q i (fun a' w' => (i ≠ s → S w') ∧ wpL P ops Q S s fuel (listed.setIfInBounds i true) a' w') a w
theorem wpAny_of_wpL : ∀ (fuel : Nat) (listed : Array Bool) (a : Act) (w : World), wpL P ops Q S s fuel listed a w → wpAny P .any ops Q fuel listed a w
  | 0, _, _, _, h => h
  | fuel + 1, _, _, _, h => ⟨h.1, fun i hi => wpOp_mono (fun a' w' h' => wpAny_of_wpL fuel _ a' w' h'.2) (h.2 i hi)⟩
/-- Each operation but s is needed by a later one (nx names it): so s comes last. -/
def nxOk (ops : Array Oper) (nx : List Nat) (s : Nat) : Bool :=
  decide (s + 1 = ops.size) && (List.range s).all fun j => match nx[j]? with
    | none => false
    | some k => decide (j < k) && decide (k ≤ s) && match ops[k]? with
      | none => false
      | some o => o.after.any fun e => Region.binds .any e && e.on == j
/-- What is listed has what it needs listed. -/
def Good (ops : Array Oper) (listed : Array Bool) : Prop :=
  ∀ j o, ops[j]? = some o → listed.getD j false = true → ∀ e ∈ o.after, Region.binds .any e = true → listed.getD e.on false = true
theorem Good.start (n : Nat) : Good ops (Array.replicate n false) := fun j o _ h => by
  exfalso
  rw [Array.getD_eq_getD_getElem?] at h
  by_cases hj : j < n
  · simp [hj] at h
  · simp [hj] at h
theorem Good.step {listed : Array Bool} {i : Nat} (h : Good ops listed) (hi : i ∈ Region.ready .any ops listed) : Good ops (listed.setIfInBounds i true) := fun j o ho hj e he hb => by
  refine getD_set_true ?_
  by_cases hij : i = j
  · subst hij
    obtain ⟨-, o', ho', hall⟩ := mem_ready.1 hi
    rw [ho] at ho'
    injection ho' with ho'
    subst ho'
    exact hall e he hb
  · rw [getD_set_ne false hij] at hj
    exact h j o ho hj e he hb
theorem last_alone {nx : List Nat} (hx : nxOk ops nx s = true) {listed : Array Bool} (hg : Good ops listed) (hs : s ∈ Region.ready .any ops listed) : ∀ n j, j + n = s → 0 < n → listed.getD j false = true := by
  unfold nxOk at hx
  rw [Bool.and_eq_true, List.all_eq_true] at hx
  intro n
  induction n using Nat.strongRecOn with
  | ind n ih =>
    intro j hj hn
    have h1 := hx.2 j (List.mem_range.2 (by omega))
    cases hk : nx[j]? with
    | none => rw [hk] at h1; simp at h1
    | some k =>
      rw [hk] at h1
      simp only [Bool.and_eq_true, decide_eq_true_eq] at h1
      obtain ⟨⟨h2, h3⟩, h4⟩ := h1
      cases ho : ops[k]? with
      | none => rw [ho] at h4; simp at h4
      | some o =>
        rw [ho] at h4
        obtain ⟨e, he, hb⟩ := Array.any_eq_true'.1 h4
        simp only [Bool.and_eq_true, beq_iff_eq] at hb
        obtain ⟨hb1, rfl⟩ := hb
        by_cases hks : k = s
        · subst hks
          obtain ⟨-, o', ho', hall⟩ := mem_ready.1 hs
          rw [ho] at ho'
          injection ho' with ho'
          subst ho'
          exact hall e he hb1
        · exact hg k o ho (ih (s - k) (by omega) k (by omega) (by omega)) e he hb1
theorem wpL_first {nx : List Nat} (hx : nxOk ops nx s = true) {i : Nat} {oi : Oper} {v : Value} (hi : ops[i]? = some oi) (his : i ≠ s) (hsel : ∀ (j : Nat) (o : Oper) cs b, ops[j]? = some o → o.op ≠ .select cs b)
    (hQ : ∀ c a w, Q (.panic c) (a.put oi.dst v) w → Q (.panic c) a w) :
    ∀ (fuel : Nat) (listed : Array Bool) (a : Act) (w : World), Good ops listed →
      (∀ j oj, ops[j]? = some oj → j ≠ i → listed.getD j true = false → (∀ e ∈ oj.after, Region.binds .any e = true → e.on ≠ i) → oi.apart ops oj = true) →
      i ∈ Region.ready .any ops listed → YieldsIf P ops S oi v a → S w →
      wpL P ops Q S s fuel (listed.setIfInBounds i true) (a.put oi.dst v) w → wpL P ops Q S s (fuel + 1) listed a w := by
  have hlt : i < s := by
    unfold nxOk at hx
    rw [Bool.and_eq_true, decide_eq_true_eq] at hx
    have := (Array.getElem?_eq_some_iff.1 hi).1
    omega
  intro fuel
  induction fuel with
  | zero =>
    intro listed a w _ _ hr hy hS H
    refine ⟨fun h => (by rw [h] at hr; cases hr), fun j hj => ?_⟩
    by_cases hji : j = i
    · subst hji
      exact hy.wpOp hi hS ⟨fun _ => hS, H⟩
    · have h1 := ready_mono hj hji
      rw [H.1] at h1
      cases h1
  | succ fuel ih =>
    intro listed a w hg hfree hr hy hS H
    refine ⟨fun h => (by rw [h] at hr; cases hr), fun j hj => ?_⟩
    by_cases hji : j = i
    · subst hji
      exact hy.wpOp hi hS ⟨fun _ => hS, H⟩
    · have hun := (mem_ready.1 hr).1
      have hjs : j ≠ s := fun e => by
        subst e
        have h1 := last_alone hx hg hj (j - i) i (by omega) (by omega)
        rw [Array.getD_eq_getD_getElem?] at h1 hun
        cases hl : listed[i]? with
        | none => rw [hl] at hun; simp at hun
        | some b => rw [hl] at h1 hun; simp at h1 hun; rw [h1] at hun; cases hun
      have h1 := H.2 j (ready_mono hj hji)
      obtain ⟨hjun, oj, hoj, hall⟩ := mem_ready.1 hj
      have hnot : ∀ e ∈ oj.after, Region.binds .any e = true → e.on ≠ i := fun e he hb heq => by
        have h2 := hall e he hb
        rw [heq] at h2
        rw [Array.getD_eq_getD_getElem?] at h2 hun
        cases hl : listed[i]? with
        | none => rw [hl] at hun; simp at hun
        | some b => rw [hl] at h2 hun; simp at h2 hun; rw [h2] at hun; cases hun
      have h2 := wpOp_putIf hoj (hfree j oj hoj hji hjun hnot) (fun cs b => hsel i oi cs b hi) (fun cs b => hsel j oj cs b hoj) hQ hy h1
      refine wpOp_mono (fun a' w' h3 => ⟨h3.2.1, ih (listed.setIfInBounds j true) a' w' (hg.step hj) (fun k ok hk hki hun' hno => ?_) (ready_mono hr (Ne.symm hji)) h3.1 (h3.2.1 hjs) ?_⟩) h2
      · refine hfree k ok hk hki ?_ hno
        by_cases hjk : j = k
        · subst hjk; exact hjun
        · rw [getD_set_ne true hjk] at hun'; exact hun'
      · rw [Array.setIfInBounds_comm _ _ hji]
        exact h3.2.2
/-- The state of the walk. -/
def wpG (P : Program) (ops : Array Oper) (Q : Exit → Act → World → Prop) (S : World → Prop) (s fuel : Nat) (listed : Array Bool) (a : Act) (w : World) : Prop :=
  Good ops listed → wpL P ops Q S s fuel listed a w
/-- Operation i is taken first. -/
theorem wpG_take {i : Nat} {oi : Oper} {v : Value} {nx : List Nat} {fuel : Nat} {listed : Array Bool} {a : Act} {w : World} (hx : nxOk ops nx s = true) (hi : ops[i]? = some oi) (his : i ≠ s)
    (hs : Region.noSelect ops = true) (hf : Region.free .any ops listed i = true) (hr : (Region.ready .any ops listed).contains i = true)
    (hQ : ∀ c a w, Q (.panic c) (a.put oi.dst v) w → Q (.panic c) a w) (hy : YieldsIf P ops S oi v a) (hS : S w)
    (h : wpG P ops Q S s fuel (listed.setIfInBounds i true) (a.put oi.dst v) w) : wpG P ops Q S s (fuel + 1) listed a w := fun hg =>
  wpL_first hx hi his (Region.noSelect_spec hs) hQ fuel listed a w hg (Region.free_spec hi hf) (by simpa using hr) hy hS (h (hg.step (by simpa using hr)))
def AllG (P : Program) (ops : Array Oper) (Q : Exit → Act → World → Prop) (S : World → Prop) (s fuel : Nat) (listed : Array Bool) (a : Act) (w : World) (rs : List Nat) : Prop :=
  ∀ i ∈ rs, wpOp P ops Q i (fun a' w' => (i ≠ s → S w') ∧ wpG P ops Q S s fuel (listed.setIfInBounds i true) a' w') a w
theorem AllG.nil {fuel : Nat} {listed : Array Bool} {a : Act} {w : World} : AllG P ops Q S s fuel listed a w [] := fun _ h => by cases h
theorem AllG.cons {fuel : Nat} {listed : Array Bool} {a : Act} {w : World} {i : Nat} {o : Oper} {rs : List Nat} (ho : ops[i]? = some o)
    (h : ∀ K' : Act → World → Prop, Shut (∀ a w, S w → (S w → wpG P ops Q S s fuel (listed.setIfInBounds i true) a w) → K' a w) → if Region.wanted o (yielded ops a.tmps) = true then Oper.wp P o a w K' Q else K' (a.put o.dst undef) w)
    (hs : AllG P ops Q S s fuel listed a w rs) : AllG P ops Q S s fuel listed a w (i :: rs) := fun j hj => by
  rcases List.mem_cons.1 hj with rfl | hj
  · exact wpOp_step ho (fun K' hK => h K' (fun a w hS hW => hK a w ⟨fun _ => hS, hW hS⟩))
  · exact hs j hj
/-- The last operation. -/
theorem AllG.last {fuel : Nat} {listed : Array Bool} {a : Act} {w : World} {o : Oper} (ho : ops[s]? = some o)
    (h : ∀ K' : Act → World → Prop, Shut (∀ a w, wpG P ops Q S s fuel (listed.setIfInBounds s true) a w → K' a w) → if Region.wanted o (yielded ops a.tmps) = true then Oper.wp P o a w K' Q else K' (a.put o.dst undef) w) : AllG P ops Q S s fuel listed a w [s] := fun j hj => by
  obtain rfl := List.mem_singleton.1 hj
  exact wpOp_step ho (fun K' hK => h K' (fun a w hW => hK a w ⟨fun h => absurd rfl h, hW⟩))
theorem wpG_ready {rs : List Nat} {fuel : Nat} {listed : Array Bool} {a : Act} {w : World} (hr : Region.ready .any ops listed = rs) (hne : rs ≠ [])
    (h : AllG P ops Q S s fuel listed a w rs) : wpG P ops Q S s (fuel + 1) listed a w := fun hg =>
  ⟨fun h0 => absurd (hr ▸ h0) hne, fun i hi => wpOp_mono (fun _ _ h' => ⟨h'.1, h'.2 (hg.step hi)⟩) (h i (hr ▸ hi))⟩
theorem wpG_done {listed : Array Bool} {a : Act} {w : World} (hr : Region.ready .any ops listed = []) (h : Q .normal a w) : ∀ fuel, wpG P ops Q S s fuel listed a w
  | 0 => fun _ => ⟨hr, h⟩
  | _ + 1 => fun _ => ⟨fun _ => h, by rw [hr]; simp⟩
/-- The beginning. -/
theorem wp_region_last {id : Nat} {a : Act} {w : World} (s : Nat) (hm : P.follows .mixedOrders = true) (hS : S w.drew)
    (h : S w.drew → wpG P ops Q S s ops.size (Array.replicate ops.size false) a w.drew) : (Code.region id ops true).wp P Q a w :=
  wp_region_any hm (wpAny_of_wpL _ _ _ _ (h hS (Good.start _)))
end
open Go.RowKit in
/-- A call, guarded or not, that is wanted. -/
theorem step_callW {P : Program} {ops : Array Oper} {o : Oper} {a : Act} {w : World} {K : Act → World → Prop} {Q : Exit → Act → World → Prop} {E : Prop}
    (hw : Region.wanted o (yielded ops a.tmps) = true) (f : Nat) (xs : Array Operand) (ts : Array TypeId) (hop : o.op = Op.call { callee := .value (.func f), args := xs, argTypes := ts }) (args : Array Value) (hx : xs.map a.eval = args)
    (eg : ∀ args w, (callFunc f args).run P w = .ok (.enter f args) w) {R : Ending → World → Prop} (hC : Calls P f args w R) (hK : ∀ e w', R e w' → ∃ v, e = .returned v ∧ K (a.put o.dst v) w') :
    if Region.wanted o (yielded ops a.tmps) = true then Oper.wp P o a w K Q else E := by
  rw [if_pos hw]
  unfold Oper.wp
  simp only [execOp, hop, resolve, invoke, Sem.run_bind, hx]
  simp [Act.eval, Deferred.ofValue, eg, Result.andThen]
  rw [Oper.upon_enter]
  refine hC.mono ?_
  intro e w' hR
  obtain ⟨v, rfl, h⟩ := hK e w' hR
  exact h
end Go.Proofs.YtbllmpcpfmlemaaGreat
