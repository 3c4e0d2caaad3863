/- Maps with whatever keys and elements: words and laws. Own work, over the kit's laws on maps. -/
import Derived.Test.YtbllmpcpfmlemaaGreatOwn
import Derived.Test.YtbllmpcpfmlemaaGreatProg
import Derived.Maps.OwnSet
import Derived.Maps.OwnOps
import Derived.Maps.Views
import Derived.Maps.RangeWalk
import Derived.KernelRfl
namespace Go.Proofs.YtbllmpcpfmlemaaGreat
open Go.RowKit

/-- A type of keys. -/
structure KeyS (kt : TypeId) (κ : Type) where
  K : Maps.Keyed Tryz.prog kt
  val : κ → Value
  vinj : ∀ x y, val x = val y → x = y
  inv : ∀ {v : Value} {l : Lit}, keyOf Tryz.prog kt v = some l → ∃ x, v = val x
section
variable {kt : TypeId} {κ : Type} (S : KeyS kt κ)
noncomputable def KeyS.lit (x : κ) : Lit := (keyOf Tryz.prog kt (S.val x)).getD (.bool false)
def KeyS.ok (x : κ) : Prop := ∃ l, keyOf Tryz.prog kt (S.val x) = some l
variable {S}
theorem KeyS.of {x : κ} (h : S.ok x) : keyOf Tryz.prog kt (S.val x) = some (S.lit x) := by
  obtain ⟨l, h⟩ := h
  unfold KeyS.lit
  rw [h]
  rfl
theorem KeyS.okOf {v : Value} {l : Lit} (h : keyOf Tryz.prog kt v = some l) : ∃ x, v = S.val x ∧ S.ok x ∧ l = S.lit x := by
  obtain ⟨x, rfl⟩ := S.inv h
  refine ⟨x, rfl, ⟨l, h⟩, ?_⟩
  unfold KeyS.lit
  rw [h]
  rfl
attribute [irreducible] KeyS.lit
theorem KeyS.inj {x y : κ} (hx : S.ok x) (hy : S.ok y) (h : S.lit x = S.lit y) : x = y := by
  have h1 := KeyS.of hx
  rw [h] at h1
  exact S.vinj _ _ (S.K.inj h1 (KeyS.of hy))
theorem KeyS.isKey {x : κ} (hx : S.ok x) : WideAt.IsKeyLit (S.lit x) := S.K.key (v := S.val x) (l := S.lit x) (KeyS.of hx)
end
/-- A type of elements. -/
structure ElS (V : Type) where
  val : V → Value
  vinj : ∀ x y, val x = val y → x = y
  enc : V → DataW Unit
  einj : ∀ x y, enc x = enc y → x = y
  ne : ∀ x, enc x ≠ .nil
section
variable {V : Type} (E : ElS V)
open Classical in
noncomputable def ElS.el (u : Value) : Option (DataW Unit × List MemPlace) := if h : ∃ v, u = E.val v then some (E.enc h.choose, []) else none
variable {E}
theorem ElS.el_val (v : V) : E.el (E.val v) = some (E.enc v, []) := by
  have h : ∃ v', E.val v = E.val v' := ⟨v, rfl⟩
  unfold ElS.el
  rw [dif_pos h]
  rw [E.vinj _ _ h.choose_spec.symm]
theorem ElS.el_inv {u : Value} {y : DataW Unit × List MemPlace} (h : E.el u = some y) : ∃ v, u = E.val v ∧ y = (E.enc v, []) := by
  unfold ElS.el at h
  split at h
  · rename_i h'
    exact ⟨_, h'.choose_spec, by injection h with h; exact h.symm⟩
  · cases h
variable (E)
def ElS.D (o : Option V) (z : DataW Unit) : DataW Unit := match o with
  | some v => E.enc v
  | none => z
variable {E}
theorem ElS.D_inj {a b : Option V} (h : ∀ z, E.D a z = E.D b z) : a = b := by
  cases a with
  | none =>
    cases b with
    | none => rfl
    | some q => exact absurd (h .nil).symm (E.ne q)
  | some p =>
    cases b with
    | none => exact absurd (h .nil) (E.ne p)
    | some q => exact congrArg some (E.einj _ _ (h .nil))
end
/-- Block b is a map of at most n entries that holds f. -/
def GMap {kt : TypeId} {κ V : Type} (S : KeyS kt κ) (E : ElS V) (w : World) (b n : Nat) (f : κ → Option V) : Prop :=
  ∃ D : DataW Unit, w.ownsMap Tryz.prog kt E.el b n D ∧ ∀ x, S.ok x → ∀ z, D.atKey (S.lit x) z = E.D (f x) z
section
variable {kt : TypeId} {κ V : Type} {S : KeyS kt κ} {E : ElS V} {w w' : World} {b n : Nat} {f : κ → Option V}
open Classical in
noncomputable def updG (f : κ → Option V) (x : κ) (o : Option V) : κ → Option V := fun y => if y = x then o else f y
theorem GMap.lt (h : GMap S E w b n f) : b < w.heap.size := by obtain ⟨D, h, _⟩ := h; exact h.lt
theorem GMap.keep {F : List Nat} (h : GMap S E w b n f) (hk : Keeps F w w') (hn : b ∉ F) : GMap S E w' b n f := by
  obtain ⟨D, h, e⟩ := h
  have hl := h.lt
  obtain ⟨es, clock, hb, r⟩ := h
  exact ⟨D, ⟨es, clock, (hk.block b hl hn).trans hb, r⟩, e⟩
theorem GMap.mono (h : GMap S E w b n f) {n' : Nat} (hn : n ≤ n') : GMap S E w b n' f := by obtain ⟨D, h, e⟩ := h; exact ⟨D, h.mono hn, e⟩
theorem GMap.made (w : World) : GMap S E (w.alloc (.map #[] 0)) w.heap.size 0 (fun _ => none) := ⟨_, World.ownsMap_made w _ _ _, fun _ _ _ => rfl⟩
theorem GMap.ne_blk (h : GMap S E w b n f) {g : Nat} {t : TypeId} {cs : Array Value} (hb : Blk w g t cs) : b ≠ g := by
  rintro rfl
  obtain ⟨D, ⟨es, clock, h, _⟩, _⟩ := h
  unfold Blk at hb
  rw [hb] at h
  cases h
theorem GMap.off (h : GMap S E w b n f) {e size k : Nat} {v : Value} {xs : List Value} (ho : w.ownsRow 0 e size v k xs) : b ∉ fp v := by
  intro hg
  rcases ho.2 with ⟨rfl, _⟩ | ⟨g', cap, cur, rfl, _, hh, _⟩
  · simp at hg
  · simp at hg
    exact h.ne_blk (g := g') (t := e) (cs := cur) hh hg
/-- 'm[x]' with ok. -/
theorem GMap.look (h : GMap S E w b n f) {x : κ} (hx : S.ok x) {T e : TypeId} (ht : Tryz.prog.underlying T = some (.map kt e)) {z : Value} (hz : (zeroValue e).run Tryz.prog w = .ok z w) :
    (Instr.lookup T (.map (some b)) (S.val x) true).run Tryz.prog w = .ok (.tuple #[((f x).map E.val).getD z, .bool (f x).isSome]) w := by
  obtain ⟨D, ⟨es, clock, hb, F, _, rfl⟩, hat0⟩ := h
  rcases Maps.fit_look true S.K ht hz hb F (KeyS.of hx) with ⟨hrun, _, hat⟩ | ⟨e0, y, _, _, hrun, hRv, hat, _⟩
  · have hf : f x = none := E.D_inj (fun z => by rw [← hat0 x hx z, hat z]; rfl)
    rw [hf]
    exact hrun
  · obtain ⟨p, hp, rfl⟩ := ElS.el_inv hRv
    have hf : f x = some p := E.D_inj (fun z => by rw [← hat0 x hx z, hat z]; rfl)
    rw [hf]
    rw [hp] at hrun
    exact hrun
/-- 'm[x]' without ok. -/
theorem GMap.look1 (h : GMap S E w b n f) {x : κ} (hx : S.ok x) {T e : TypeId} (ht : Tryz.prog.underlying T = some (.map kt e)) {z : Value} (hz : (zeroValue e).run Tryz.prog w = .ok z w) :
    (Instr.lookup T (.map (some b)) (S.val x) false).run Tryz.prog w = .ok (((f x).map E.val).getD z) w := by
  obtain ⟨D, ⟨es, clock, hb, F, _, rfl⟩, hat0⟩ := h
  rcases Maps.fit_look false S.K ht hz hb F (KeyS.of hx) with ⟨hrun, _, hat⟩ | ⟨e0, y, _, _, hrun, hRv, hat, _⟩
  · have hf : f x = none := E.D_inj (fun z => by rw [← hat0 x hx z, hat z]; rfl)
    rw [hf]
    exact hrun
  · obtain ⟨p, hp, rfl⟩ := ElS.el_inv hRv
    have hf : f x = some p := E.D_inj (fun z => by rw [← hat0 x hx z, hat z]; rfl)
    rw [hf]
    rw [hp] at hrun
    exact hrun
theorem GMap.upd (h : GMap S E w b n f) {x : κ} (v : V) (hx : S.ok x) (hn : n < maxLen) {T e : TypeId} (ht : Tryz.prog.underlying T = some (.map kt e)) :
    ∃ w', (Instr.mapUpdate T (.map (some b)) (S.val x) (E.val v)).run Tryz.prog w = .ok () w' ∧ GMap S E w' b (n + 1) (updG f x (some v)) ∧ Keeps [b] w w' := by
  obtain ⟨D, h, hat0⟩ := h
  obtain ⟨w', hrun, h', hg⟩ := h.update S.K ht hn (val := E.val v) (d := E.enc v) (ps := []) (KeyS.of hx) (ElS.el_val v)
  refine ⟨w', hrun, ⟨_, h', fun y hy z => ?_⟩, (Keeps.refl _ w).grown hg (fun g hx => .inl (by cases hx; simp))⟩
  unfold updG
  by_cases hyx : y = x
  · subst hyx
    rw [if_pos rfl, Maps.atKey_put_same h.isMap (KeyS.isKey hx)]
    rfl
  · rw [if_neg hyx, Maps.atKey_put_other (fun hc => hyx (KeyS.inj hy hx hc)), hat0 y hy]
theorem GMap.del (h : GMap S E w b n f) {x : κ} (hx : S.ok x) {T e : TypeId} (ht : Tryz.prog.underlying T = some (.map kt e)) (ty : TypeId) :
    ∃ w', (Builtin.delete_ #[T, kt] ty #[.map (some b), S.val x]).run Tryz.prog w = .ok (.tuple #[]) w' ∧ GMap S E w' b n (updG f x none) ∧ Keeps [b] w w' := by
  obtain ⟨D, h, hat0⟩ := h
  obtain ⟨w', hrun, h', hg⟩ := h.drop S.K ht (KeyS.of hx) ty
  refine ⟨w', hrun, ⟨_, h', fun y hy z => ?_⟩, (Keeps.refl _ w).grown hg.grown (fun g hx => .inl (by cases hx; simp))⟩
  unfold updG
  by_cases hyx : y = x
  · subst hyx
    rw [if_pos rfl, Maps.atKey_del_same]
    rfl
  · rw [if_neg hyx, Maps.atKey_del_other (fun hc => hyx (KeyS.inj hy hx hc)), hat0 y hy]
end
end Go.Proofs.YtbllmpcpfmlemaaGreat
