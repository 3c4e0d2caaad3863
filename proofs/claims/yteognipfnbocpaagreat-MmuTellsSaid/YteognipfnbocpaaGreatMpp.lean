/- Maps from ints to pointers: words and laws. Own work, over the kit's laws on maps. -/
import Derived.Test.YteognipfnbocpaaGreatOwn
import Derived.Test.YteognipfnbocpaaGreatProg
import Derived.Maps.OwnSet
import Derived.Maps.OwnOps
import Derived.Maps.Views
import Derived.Maps.RangeWalk
import Derived.Deep.RegionLaw
import Derived.KernelRfl
namespace Go.Proofs.YteognipfnbocpaaGreat
open Go.RowKit

theorem keyedI : Maps.Keyed Tryz.prog 3 := Maps.int_keyed Tryz.underlying3
theorem wfI {x : Int} (h1 : -9223372036854775808 ≤ x) (h2 : x ≤ 9223372036854775807) : (Lit.int .i64 x).wf = true := WalkArith.wf_i64 ⟨h1, h2⟩
/-- How a pointer to a whole block reads: as the block's number. -/
def ptrElem : Value → Option (DataW Unit × List MemPlace)
  | .pointer (some ⟨p, 0, none⟩) => some (.lit (.int .i64 (p : Int)), [])
  | _ => none
theorem ptrElem_inv {v : Value} {y : DataW Unit × List MemPlace} (h : ptrElem v = some y) : ∃ p : Nat, v = .pointer (some ⟨p, 0, none⟩) ∧ y = (.lit (.int .i64 (p : Int)), []) := by
  unfold ptrElem at h
  split at h
  · exact ⟨_, rfl, by injection h with h; exact h.symm⟩
  · cases h
def ptrD (o : Option Nat) (z : DataW Unit) : DataW Unit := match o with
  | some p => .lit (.int .i64 (p : Int))
  | none => z
/-- Block b is a map of at most n entries that holds the pointers f. -/
def PMap (w : World) (b n : Nat) (f : Int → Option Nat) : Prop :=
  ∃ D : DataW Unit, w.ownsMap Tryz.prog 3 ptrElem b n D ∧ ∀ x z, D.atKey (.int .i64 x) z = ptrD (f x) z
def updP (f : Int → Option Nat) (x : Int) (o : Option Nat) : Int → Option Nat := fun y => if y = x then o else f y
theorem ptrD_inj {a b : Option Nat} (h : ∀ z, ptrD a z = ptrD b z) : a = b := by
  cases a with
  | none =>
    cases b with
    | none => rfl
    | some q => have := h .nil; simp [ptrD] at this
  | some p =>
    cases b with
    | none => have := h .nil; simp [ptrD] at this
    | some q => have := h .nil; simp [ptrD] at this; exact congrArg some (by omega)
section
variable {w w' : World} {b n : Nat} {f : Int → Option Nat}
theorem PMap.lt (h : PMap w b n f) : b < w.heap.size := by obtain ⟨D, h, _⟩ := h; exact h.lt
theorem PMap.keep {F : List Nat} (h : PMap w b n f) (hk : Keeps F w w') (hn : b ∉ F) : PMap w' b n f := by
  obtain ⟨D, h, e⟩ := h
  have hl := h.lt
  obtain ⟨es, clock, hb, r⟩ := h
  exact ⟨D, ⟨es, clock, (hk.block b hl hn).trans hb, r⟩, e⟩
theorem PMap.mono (h : PMap w b n f) {n' : Nat} (hn : n ≤ n') : PMap w b n' f := by obtain ⟨D, h, e⟩ := h; exact ⟨D, h.mono hn, e⟩
theorem PMap.made (w : World) : PMap (w.alloc (.map #[] 0)) w.heap.size 0 (fun _ => none) := ⟨_, World.ownsMap_made w _ _ _, fun _ _ => rfl⟩
theorem PMap.ne_blk (h : PMap w b n f) {g : Nat} {t : TypeId} {cs : Array Value} (hb : Blk w g t cs) : b ≠ g := by
  rintro rfl
  obtain ⟨D, ⟨es, clock, h, _⟩, _⟩ := h
  unfold Blk at hb
  rw [hb] at h
  cases h
theorem PMap.off (h : PMap w b n f) {e size k : Nat} {v : Value} {xs : List Value} (ho : w.ownsRow 0 e size v k xs) : b ∉ fp v := by
  intro hg
  rcases ho.2 with ⟨rfl, _⟩ | ⟨g', cap, cur, rfl, _, hh, _⟩
  · simp at hg
  · simp at hg
    exact h.ne_blk (g := g') (t := e) (cs := cur) hh hg
/-- 'm[x]' with ok. -/
theorem PMap.look (h : PMap w b n f) {x : Int} (h1 : -9223372036854775808 ≤ x) (h2 : x ≤ 9223372036854775807) {T E : TypeId} (ht : Tryz.prog.underlying T = some (.map 3 E)) (hz : ∀ w, (zeroValue E).run Tryz.prog w = .ok (.pointer none) w) :
    (Instr.lookup T (.map (some b)) (.int .i64 x) true).run Tryz.prog w = .ok (.tuple #[.pointer ((f x).map fun p => ⟨p, 0, none⟩), .bool (f x).isSome]) w := by
  obtain ⟨D, ⟨es, clock, hb, F, _, rfl⟩, e⟩ := h
  rcases Maps.fit_look true keyedI ht (hz w) hb F (Maps.keyOf_int_mk Tryz.underlying3 (wfI h1 h2)) with ⟨hrun, _, hat⟩ | ⟨e0, y, _, _, hrun, hRv, hat, _⟩
  · have hf : f x = none := ptrD_inj (fun z => by rw [← e x z, hat z]; rfl)
    rw [hf]
    exact hrun
  · obtain ⟨p, hp, rfl⟩ := ptrElem_inv hRv
    have hf : f x = some p := ptrD_inj (fun z => by rw [← e x z, hat z]; rfl)
    rw [hf]
    rw [hp] at hrun
    exact hrun
/-- 'm[x]' without ok. -/
theorem PMap.look1 (h : PMap w b n f) {x : Int} (h1 : -9223372036854775808 ≤ x) (h2 : x ≤ 9223372036854775807) {T E : TypeId} (ht : Tryz.prog.underlying T = some (.map 3 E)) (hz : ∀ w, (zeroValue E).run Tryz.prog w = .ok (.pointer none) w) :
    (Instr.lookup T (.map (some b)) (.int .i64 x) false).run Tryz.prog w = .ok (.pointer ((f x).map fun p => ⟨p, 0, none⟩)) w := by
  obtain ⟨D, ⟨es, clock, hb, F, _, rfl⟩, e⟩ := h
  rcases Maps.fit_look false keyedI ht (hz w) hb F (Maps.keyOf_int_mk Tryz.underlying3 (wfI h1 h2)) with ⟨hrun, _, hat⟩ | ⟨e0, y, _, _, hrun, hRv, hat, _⟩
  · have hf : f x = none := ptrD_inj (fun z => by rw [← e x z, hat z]; rfl)
    rw [hf]
    exact hrun
  · obtain ⟨p, hp, rfl⟩ := ptrElem_inv hRv
    have hf : f x = some p := ptrD_inj (fun z => by rw [← e x z, hat z]; rfl)
    rw [hf]
    rw [hp] at hrun
    exact hrun
theorem PMap.upd (h : PMap w b n f) {x : Int} {p : Nat} (h1 : -9223372036854775808 ≤ x) (h2 : x ≤ 9223372036854775807) (hn : n < maxLen) {T E : TypeId} (ht : Tryz.prog.underlying T = some (.map 3 E)) :
    ∃ w', (Instr.mapUpdate T (.map (some b)) (.int .i64 x) (.pointer (some ⟨p, 0, none⟩))).run Tryz.prog w = .ok () w' ∧ PMap w' b (n + 1) (updP f x (some p)) ∧ Keeps [b] w w' := by
  obtain ⟨D, h, e⟩ := h
  have hk := Maps.keyOf_int_mk (P := Tryz.prog) Tryz.underlying3 (wfI h1 h2)
  obtain ⟨w', hrun, h', hg⟩ := h.update keyedI ht hn (val := .pointer (some ⟨p, 0, none⟩)) (d := .lit (.int .i64 (p : Int))) (ps := []) hk rfl
  refine ⟨w', hrun, ⟨_, h', fun y z => ?_⟩, (Keeps.refl _ w).grown hg (fun g hx => .inl (by cases hx; simp))⟩
  unfold updP
  by_cases hy : y = x
  · subst hy
    rw [if_pos rfl, Maps.atKey_put_same h.isMap (by trivial)]
    rfl
  · rw [if_neg hy, Maps.atKey_put_other (fun hc => hy (by injection hc)), e y]
theorem PMap.del (h : PMap w b n f) {x : Int} (h1 : -9223372036854775808 ≤ x) (h2 : x ≤ 9223372036854775807) {T E : TypeId} (ht : Tryz.prog.underlying T = some (.map 3 E)) (ty : TypeId) :
    ∃ w', (Builtin.delete_ #[T, 3] ty #[.map (some b), .int .i64 x]).run Tryz.prog w = .ok (.tuple #[]) w' ∧ PMap w' b n (updP f x none) ∧ Keeps [b] w w' := by
  obtain ⟨D, h, e⟩ := h
  have hk := Maps.keyOf_int_mk (P := Tryz.prog) Tryz.underlying3 (wfI h1 h2)
  obtain ⟨w', hrun, h', hg⟩ := h.drop keyedI ht hk ty
  refine ⟨w', hrun, ⟨_, h', fun y z => ?_⟩, (Keeps.refl _ w).grown hg.grown (fun g hx => .inl (by cases hx; simp))⟩
  unfold updP
  by_cases hy : y = x
  · subst hy
    rw [if_pos rfl, Maps.atKey_del_same]
    rfl
  · rw [if_neg hy, Maps.atKey_del_other (fun hc => hy (by injection hc)), e y]
end
/-- 'for .. range m' under way: which keys are still to come, and how many. -/
def PRange (w : World) (b r n : Nat) (f : Int → Option Nat) (left : Int → Bool) (cnt : Nat) : Prop :=
  ∃ D lf, w.ranges Tryz.prog 3 ptrElem b r n D lf cnt ∧ (∀ x z, D.atKey (.int .i64 x) z = ptrD (f x) z) ∧ ∀ x, left x = lf (.int .i64 x)
section
variable {w w' : World} {b r n : Nat} {f : Int → Option Nat} {left : Int → Bool} {cnt : Nat}
theorem PRange.pmap (h : PRange w b r n f left cnt) : PMap w b n f := by obtain ⟨D, lf, h, e, _⟩ := h; exact ⟨D, h.owns, e⟩
theorem PRange.lt (h : PRange w b r n f left cnt) : r < w.heap.size := by obtain ⟨D, lf, h, _⟩ := h; exact h.lt
theorem PRange.left_eq (h : PRange w b r n f left cnt) : w.rangeLeft b r = cnt := by obtain ⟨D, lf, h, _⟩ := h; exact h.left_eq
theorem PRange.keep {F : List Nat} (h : PRange w b r n f left cnt) (hk : Keeps F w w') (hb : b ∉ F) (hr : r ∉ F) : PRange w' b r n f left cnt := by
  obtain ⟨D, lf, h, e, e2⟩ := h
  have h1 := h.owns.lt
  have h2 := h.lt
  obtain ⟨es, clock, since, seen, c0, hb', F', hs, hD, hr', rest⟩ := h
  exact ⟨D, lf, ⟨es, clock, since, seen, c0, (hk.block b h1 hb).trans hb', F', hs, hD, (hk.block r h2 hr).trans hr', rest⟩, e, e2⟩
theorem PMap.range (h : PMap w b n f) {T E : TypeId} (ht : Tryz.prog.underlying T = some (.map 3 E)) :
    ∃ w' cnt, (Instr.range T (.map (some b))).run Tryz.prog w = .ok (.pointer (some ⟨w.heap.size, 0, none⟩)) w' ∧ PRange w' b w.heap.size n f (fun x => (f x).isSome) cnt ∧ Keeps [] w w' ∧ w'.heap.size = w.heap.size + 1 := by
  obtain ⟨D, h, e⟩ := h
  obtain ⟨w', hrun, hr, hg, hs⟩ := h.range keyedI ht
  refine ⟨w', _, hrun, ⟨D, _, hr, e, fun x => ?_⟩, (Keeps.refl _ w).grown hg (fun g hx => by cases hx), hs⟩
  show (f x).isSome = _
  cases hf : f x with
  | none => exact (Maps.has_false_of_atKey (fun z => by rw [e x z, hf]; rfl)).symm
  | some p => exact (Maps.has_true_of_atKey (y := .lit (.int .i64 (p : Int))) (fun z => by rw [e x z, hf]; rfl)).symm
/-- The step. -/
theorem PRange.next (h : PRange w b r n f left cnt) (ty : TypeId) :
    ((∀ x, left x = false) ∧ (Instr.next (.pointer (some ⟨r, 0, none⟩)) false ty).run Tryz.prog w = .ok (.tuple #[.bool false]) w) ∨
    ∃ x p w' cnt', left x = true ∧ f x = some p ∧ (Instr.next (.pointer (some ⟨r, 0, none⟩)) false ty).run Tryz.prog w = .ok (.tuple #[.bool true, .int .i64 x, .pointer (some ⟨p, 0, none⟩)]) w' ∧
      PRange w' b r n f (fun y => left y && !decide (y = x)) cnt' ∧ cnt' < cnt ∧ Keeps [r] w w' ∧ w'.heap.size = w.heap.size ∧
      (Instr.entry (.pointer (some ⟨r, 0, none⟩))).run Tryz.prog w' = .ok (.tuple #[.int .i64 x, .pointer (some ⟨p, 0, none⟩)]) w' ∧ (Lit.int .i64 x).wf = true := by
  obtain ⟨D, lf, h, e, e2⟩ := h
  rcases h.next keyedI ty with ⟨h0, hl, hrun⟩ | ⟨key, v, kl, y, w', cnt', hkey, hlk, hv, hat, hrun, hrg, hlt, hgr, hsz, hen⟩
  · exact .inl ⟨fun x => by rw [e2]; exact hl _, hrun⟩
  · obtain ⟨x, rfl, rfl, hwx⟩ := Maps.keyOf_int_inv Tryz.underlying3 hkey
    obtain ⟨p, rfl, rfl⟩ := ptrElem_inv hv
    have hf : f x = some p := ptrD_inj (fun z => by rw [← e x z, hat z]; rfl)
    refine .inr ⟨x, p, w', cnt', by rw [e2]; exact hlk, hf, hrun, ⟨D, _, hrg, e, fun y => ?_⟩, hlt, (Keeps.refl _ w).grown hgr (fun g hx => .inl (by cases hx; simp)), hsz, hen, hwx⟩
    have hs : (Lit.int .i64 y).sameKey (Lit.int .i64 x) = decide (y = x) := by
      by_cases hy : y = x
      · subst hy
        rw [WideAt.sameKey_self (by trivial), decide_eq_true rfl]
      · rw [Maps.sameKey_ne (fun hc => hy (by injection hc)), decide_eq_false hy]
    show (left y && !decide (y = x)) = (lf (.int .i64 y) && !(Lit.int .i64 y).sameKey (Lit.int .i64 x))
    rw [e2 y, hs]
end
end Go.Proofs.YteognipfnbocpaaGreat
