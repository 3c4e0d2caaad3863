/- Ranging over a map inside a fence. -/
import Derived.Test.YtcopjjokhjealaaGreatGr
import Derived.Test.YtcopjjokhjealaaGreatInr
import Derived.Sort.MapsRangeIn
import Derived.RangeFuncSeq
import Derived.Shelf.SlIterI.Keys
namespace Go.Proofs.YtcopjjokhjealaaGreat
open Go.RowKit

section
variable {kt : TypeId} {κ V : Type} {S : KeyS kt κ} {E : ElS V} {w w' : World} {b r n cnt : Nat} {f : κ → Option V} {left : κ → Prop}
theorem GRng.of_walks (h : GRng S E w b r n f left cnt) (hk : KeepsWalks w w') : GRng S E w' b r n f left cnt := by
  obtain ⟨D, L, h, h1, h2⟩ := h
  exact ⟨D, L, h.of_walks hk, h1, h2⟩
theorem GRng.walk (h : GRng S E w b r n f left cnt) : ∃ o : Obj, w.heap[r]? = some o ∧ o.isWalk = true := by
  obtain ⟨D, L, h, h1, h2⟩ := h
  exact h.iter_walk
variable {F : Fence} {nn : Nat} {ops : Array Oper} {rest : List Oper} {o : Oper} {a : Act} {Q : Exit → Act → World → Prop}
/-- 'range m'. -/
theorem wpListIn_rangeG (hg : o.guard = none) (m : Operand) (t : TypeId) (hop : o.op = Op.range t m) {e : TypeId} (ht : Tryz.prog.underlying t = some (.map kt e)) (hm : a.eval m = .map (some b)) (h : GMap S E w b n f)
    (hK : ∀ w' cnt, cnt ≤ n → GRng S E w' b w.heap.size n f (fun x => (f x).isSome = true) cnt → w.grownBy w' none → w'.heap.size = w.heap.size + 1 → wpListIn F nn Tryz.prog ops Q rest (a.put o.dst (.pointer (some ⟨w.heap.size, 0, none⟩))) w') :
    wpListIn F nn Tryz.prog ops Q (o :: rest) a w := by
  obtain ⟨D, h, h1⟩ := h
  refine wpListIn_range_own w hg m t hop kt e S.K ht E.el b n D hm h (fun w' r1 r2 r3 => ?_)
  exact hK w' _ h.size_le ⟨D, _, r1, h1, fun x hx => GMap.has D h1 hx⟩ r2 r3
/-- The step. -/
theorem wpListIn_nextG (hg : o.guard = none) (it : Operand) (hop : o.op = Op.next it false) (hit : a.eval it = .pointer (some ⟨r, 0, none⟩)) (h : GRng S E w b r n f left cnt)
    (hDone : (∀ x, S.ok x → ¬ left x) → wpListIn F nn Tryz.prog ops Q rest (a.put o.dst (.tuple #[.bool false])) w)
    (hMore : ∀ (x : κ) (v : V) (w' : World) (cnt' : Nat), S.ok x → f x = some v → left x → GRng S E w' b r n f (fun y => left y ∧ y ≠ x) cnt' → cnt' < cnt → w.grownBy w' (some r) → w'.heap.size = w.heap.size →
      (Instr.entry (.pointer (some ⟨r, 0, none⟩))).run Tryz.prog w' = .ok (.tuple #[S.val x, E.val v]) w' → wpListIn F nn Tryz.prog ops Q rest (a.put o.dst (.tuple #[.bool true, S.val x, E.val v])) w') :
    wpListIn F nn Tryz.prog ops Q (o :: rest) a w := by
  obtain ⟨D, L, h, h1, h2⟩ := h
  refine wpListIn_next_ranges w hg it hop kt S.K E.el S.val E.val (fun key kl hk => by obtain ⟨x, hx, _⟩ := KeyS.okOf hk; exact ⟨x, hx⟩) (fun v y hv => by obtain ⟨c, hc, _⟩ := ElS.el_inv hv; exact ⟨c, hc⟩) b r n D L cnt hit h (fun _ hl => ?_) (fun x c kl y w' cnt' hk hl hv hat hr hlt hgr hsz hen => ?_)
  · refine hDone (fun x hx hlx => ?_)
    rw [← h2 x hx, hl] at hlx
    cases hlx
  · obtain ⟨x', hx', hok, hkl⟩ := KeyS.okOf (S := S) hk
    obtain rfl := S.vinj _ _ hx'
    subst hkl
    obtain ⟨c', hc', rfl⟩ := ElS.el_inv hv
    obtain rfl := E.vinj _ _ hc'
    have hf : f x = some c := E.D_inj (fun z => by rw [← h1 x hok z, hat z]; rfl)
    exact hMore x c w' cnt' hok hf ((h2 x hok).1 hl) ⟨D, _, hr, h1, left_step h2 hok⟩ hlt hgr hsz hen
end
end Go.Proofs.YtcopjjokhjealaaGreat
