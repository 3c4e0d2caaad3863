/- Ranging over a map with whatever keys and elements. Own work, over the kit's laws on ranges. -/
import Derived.Test.YtbllmpcpfmlemaaGreatGm
import Derived.Sort.KeysCollected
namespace Go.Proofs.YtbllmpcpfmlemaaGreat
open Go.RowKit

section
variable {kt : TypeId} {κ V : Type} {S : KeyS kt κ} {E : ElS V} {w w' : World} {b r n cnt : Nat} {f : κ → Option V} {left : κ → Prop}
/-- A loop over the map b that holds f: the iterator is r; 'left': which keys are still to come. -/
def GRng (S : KeyS kt κ) (E : ElS V) (w : World) (b r n : Nat) (f : κ → Option V) (left : κ → Prop) (cnt : Nat) : Prop :=
  ∃ (D : DataW Unit) (L : Lit → Bool), w.ranges Tryz.prog kt E.el b r n D L cnt ∧ (∀ x, S.ok x → ∀ z, D.atKey (S.lit x) z = E.D (f x) z) ∧ ∀ x, S.ok x → (L (S.lit x) = true ↔ left x)
theorem GRng.map (h : GRng S E w b r n f left cnt) : GMap S E w b n f := by
  obtain ⟨D, L, h, h1, -⟩ := h
  exact ⟨D, h.owns, h1⟩
theorem GRng.lt (h : GRng S E w b r n f left cnt) : r < w.heap.size := by
  obtain ⟨D, L, h, -⟩ := h
  exact h.lt
theorem GRng.left_eq (h : GRng S E w b r n f left cnt) : w.rangeLeft b r = cnt := by
  obtain ⟨D, L, h, -⟩ := h
  exact h.left_eq
theorem GRng.keep {F : List Nat} (h : GRng S E w b r n f left cnt) (hk : Keeps F w w') (hb : b ∉ F) (hr : r ∉ F) : GRng S E w' b r n f left cnt := by
  obtain ⟨D, L, h, h1, h2⟩ := h
  have hbl := h.owns.lt
  have hrl := h.lt
  obtain ⟨es, clock, since, seen, c0, hb', F', hs, hD, hr', rest⟩ := h
  exact ⟨D, L, ⟨es, clock, since, seen, c0, (hk.block b hbl hb).trans hb', F', hs, hD, (hk.block r hrl hr).trans hr', rest⟩, h1, h2⟩
theorem GMap.has (D : DataW Unit) (h1 : ∀ x, S.ok x → ∀ z, D.atKey (S.lit x) z = E.D (f x) z) {x : κ} (hx : S.ok x) : Maps.has D (S.lit x) = true ↔ (f x).isSome = true := by
  cases hf : f x with
  | none => rw [Maps.has_false_of_atKey (fun z => by rw [h1 x hx z, hf]; rfl)]; simp
  | some p => rw [Maps.has_true_of_atKey (y := E.enc p) (fun z => by rw [h1 x hx z, hf]; rfl)]; simp
theorem left_step {L : Lit → Bool} (h2 : ∀ x, S.ok x → (L (S.lit x) = true ↔ left x)) {x : κ} (hx : S.ok x) : ∀ y, S.ok y → (((fun z : Lit => L z && !z.sameKey (S.lit x)) (S.lit y)) = true ↔ (left y ∧ y ≠ x)) := by
  intro y hy
  dsimp only
  rw [Bool.and_eq_true, h2 y hy, Bool.not_eq_true']
  refine and_congr_right fun _ => ?_
  constructor
  · rintro h rfl
    rw [WideAt.sameKey_self (KeyS.isKey hy)] at h
    cases h
  · intro hne
    cases hs : (S.lit y).sameKey (S.lit x) with
    | false => rfl
    | true => exact absurd (KeyS.inj hy hx (WideAt.sameKey_eq hs)) hne
variable {ops : Array Oper} {rest : List Oper} {o : Oper} {a : Act} {Q : Exit → Act → World → Prop}
/-- 'range m'. -/
theorem wpList_rangeG (hg : o.guard = none) (m : Operand) (t : TypeId) (hop : o.op = Op.range t m) {e : TypeId} (ht : Tryz.prog.underlying t = some (.map kt e)) (hm : a.eval m = .map (some b)) (h : GMap S E w b n f)
    (hK : ∀ w' cnt, cnt ≤ n → GRng S E w' b w.heap.size n f (fun x => (f x).isSome = true) cnt → Keeps [] w w' → w'.heap.size = w.heap.size + 1 → wpList Tryz.prog ops Q rest (a.put o.dst (.pointer (some ⟨w.heap.size, 0, none⟩))) w') :
    wpList Tryz.prog ops Q (o :: rest) a w := by
  obtain ⟨D, h, h1⟩ := h
  refine wpList_range_own w hg m t hop kt e S.K ht E.el b n D hm h (fun w' r1 r2 r3 => ?_)
  exact hK w' _ h.size_le ⟨D, _, r1, h1, fun x hx => GMap.has D h1 hx⟩ ((Keeps.refl [] w).grown r2 (fun g hx => by cases hx)) r3
/-- The step. -/
theorem wpList_nextG (hg : o.guard = none) (it : Operand) (hop : o.op = Op.next it false) (hit : a.eval it = .pointer (some ⟨r, 0, none⟩)) (h : GRng S E w b r n f left cnt)
    (hDone : (∀ x, S.ok x → ¬ left x) → wpList Tryz.prog ops Q rest (a.put o.dst (.tuple #[.bool false])) w)
    (hMore : ∀ (x : κ) (v : V) (w' : World) (cnt' : Nat), S.ok x → f x = some v → left x → GRng S E w' b r n f (fun y => left y ∧ y ≠ x) cnt' → cnt' < cnt → Keeps [r] w w' → w'.heap.size = w.heap.size →
      (Instr.entry (.pointer (some ⟨r, 0, none⟩))).run Tryz.prog w' = .ok (.tuple #[S.val x, E.val v]) w' → wpList Tryz.prog ops Q rest (a.put o.dst (.tuple #[.bool true, S.val x, E.val v])) w') :
    wpList Tryz.prog ops Q (o :: rest) a w := by
  obtain ⟨D, L, h, h1, h2⟩ := h
  refine wpList_next_ranges w hg it hop kt S.K E.el S.val E.val (fun key kl hk => by obtain ⟨x, hx, _⟩ := KeyS.okOf hk; exact ⟨x, hx⟩) (fun v y hv => by obtain ⟨c, hc, _⟩ := ElS.el_inv hv; exact ⟨c, hc⟩) b r n D L cnt hit h (fun _ hl => ?_) (fun x c kl y w' cnt' hk hl hv hat hr hlt hgr hsz hen => ?_)
  · refine hDone (fun x hx hlx => ?_)
    rw [← h2 x hx, hl] at hlx
    cases hlx
  · obtain ⟨x', hx', hok, hkl⟩ := KeyS.okOf (S := S) hk
    obtain rfl := S.vinj _ _ hx'
    subst hkl
    obtain ⟨c', hc', rfl⟩ := ElS.el_inv hv
    obtain rfl := E.vinj _ _ hc'
    have hf : f x = some c := E.D_inj (fun z => by rw [← h1 x hok z, hat z]; rfl)
    exact hMore x c w' cnt' hok hf ((h2 x hok).1 hl) ⟨D, _, hr, h1, left_step h2 hok⟩ hlt ((Keeps.refl _ w).grown hgr (fun g hx => .inl (by cases hx; simp))) hsz hen
/-- 'delete(m, k)' in the round. -/
theorem wpList_delG (hg : o.guard = none) (m xo : Operand) (t : TypeId) (hop : o.op = Op.call { callee := Callee.builtin Builtin.delete, args := #[m, xo], argTypes := #[t, kt] })
    {e : TypeId} (ht : Tryz.prog.underlying t = some (.map kt e)) (hm : a.eval m = .map (some b)) (h : GRng S E w b r n f left cnt) (x : κ) (hx : a.eval xo = S.val x) (hok : S.ok x)
    (hK : ∀ w' cnt', GRng S E w' b r n (updG f x none) (fun y => left y ∧ y ≠ x) cnt' → cnt' ≤ cnt → Keeps [b] w w' → wpList Tryz.prog ops Q rest (a.put o.dst (.tuple #[])) w') :
    wpList Tryz.prog ops Q (o :: rest) a w := by
  obtain ⟨D, L, h, h1, h2⟩ := h
  refine wpList_delete_ranges w hg m xo t kt hop e S.K ht E.el b r n D L cnt hm h (S.val x) (S.lit x) hx (KeyS.of hok) (fun w' cnt' hr hle hturn => ?_)
  refine hK w' cnt' ⟨_, _, hr, fun y hy z => ?_, left_step h2 hok⟩ hle ((Keeps.refl _ w).grown hturn.grown (fun g hx => .inl (by cases hx; simp)))
  unfold updG
  by_cases hyx : y = x
  · subst hyx
    rw [if_pos rfl, Maps.atKey_del_same]
    rfl
  · rw [if_neg hyx, Maps.atKey_del_other (fun hc => hyx (KeyS.inj hy hok hc)), h1 y hy]
/-- 'delete(m, k)' outside of one. -/
theorem wpList_delGM (hg : o.guard = none) (m xo : Operand) (t : TypeId) (hop : o.op = Op.call { callee := Callee.builtin Builtin.delete, args := #[m, xo], argTypes := #[t, kt] })
    {e : TypeId} (ht : Tryz.prog.underlying t = some (.map kt e)) (hm : a.eval m = .map (some b)) (h : GMap S E w b n f) (x : κ) (hx : a.eval xo = S.val x) (hok : S.ok x)
    (hK : ∀ w', GMap S E w' b n (updG f x none) → Keeps [b] w w' → wpList Tryz.prog ops Q rest (a.put o.dst (.tuple #[])) w') :
    wpList Tryz.prog ops Q (o :: rest) a w := by
  refine wpList_plain hg fun K' hK' => ?_
  obtain ⟨w', hrun, r1, r2⟩ := h.del hok ht o.type
  unfold Oper.wp
  simp [execOp, hop, resolve, invoke, builtin, hm, hx, hrun, Result.andThen]
  exact hK' _ _ (hK w' r1 r2)
/-- How many keys: any list of them, each once. -/
theorem GMap.size (h : GMap S E w b n f) : ∃ ks : List κ, ks.Nodup ∧ (∀ x ∈ ks, S.ok x) ∧ (∀ x, S.ok x → (x ∈ ks ↔ (f x).isSome = true)) ∧
    ∀ {T e : TypeId}, Tryz.prog.underlying T = some (.map kt e) → ∀ ty, (Builtin.len_ #[T] ty #[.map (some b)]).run Tryz.prog w = .ok (.int .i64 ks.length) w := by
  obtain ⟨D, h, h1⟩ := h
  obtain ⟨es, hD, hpw, hkey⟩ := h.entries S.K
  obtain ⟨es', hD', hko⟩ := h.keysOf
  obtain rfl : es = es' := by rw [hD] at hD'; simpa using hD'
  have hk : ∀ p ∈ es, ∃ x, p.1 = S.lit x ∧ S.ok x := fun p hp => by
    obtain ⟨v, hv⟩ := hko p hp
    obtain ⟨x, _, hx, hl⟩ := KeyS.okOf (S := S) hv
    exact ⟨x, hl, hx⟩
  have hall : ∀ l : List (Lit × DataW Unit), (∀ p ∈ l, ∃ x, p.1 = S.lit x ∧ S.ok x) → ∃ ks : List κ, ks.map S.lit = l.map (·.1) ∧ ∀ x ∈ ks, S.ok x := by
    intro l
    induction l with
    | nil => intro _; exact ⟨[], rfl, by simp⟩
    | cons p l ih =>
      intro hl
      obtain ⟨ks, e, ho⟩ := ih (fun q hq => hl q (by simp [hq]))
      obtain ⟨x, hx, hox⟩ := hl p (by simp)
      exact ⟨x :: ks, by simp [hx, e], fun y hy => by rcases List.mem_cons.1 hy with rfl | hy; exact hox; exact ho y hy⟩
  obtain ⟨ks, e, ho⟩ := hall es hk
  have hlen : ks.length = es.length := by have := congrArg List.length e; simpa using this
  refine ⟨ks, ?_, ho, fun x hx => ?_, fun {T e} ht ty => ?_⟩
  · have h2 : (ks.map S.lit).Nodup := by rw [e]; exact List.pairwise_map.2 hpw
    exact (List.pairwise_map.1 h2).imp (fun hne hxy => hne (by rw [hxy]))
  · rw [← GMap.has (S := S) (E := E) D h1 hx]
    subst hD
    constructor
    · intro hm
      have h3 : S.lit x ∈ es.map (·.1) := by rw [← e]; exact List.mem_map.2 ⟨x, hm, rfl⟩
      obtain ⟨p, hp, hpx⟩ := List.mem_map.1 h3
      exact List.any_eq_true.2 ⟨p, hp, by rw [hpx]; exact WideAt.sameKey_self (KeyS.isKey hx)⟩
    · intro hh
      obtain ⟨p, hp, hs⟩ := List.any_eq_true.1 hh
      have h3 : S.lit x ∈ ks.map S.lit := by rw [e, ← WideAt.sameKey_eq hs]; exact List.mem_map.2 ⟨p, hp, rfl⟩
      obtain ⟨y, hy, hyx⟩ := List.mem_map.1 h3
      rw [← KeyS.inj (ho y hy) hx hyx]
      exact hy
  · rw [h.len ht ty]
    subst hD
    rw [hlen]
    rfl
end
end Go.Proofs.YtbllmpcpfmlemaaGreat
