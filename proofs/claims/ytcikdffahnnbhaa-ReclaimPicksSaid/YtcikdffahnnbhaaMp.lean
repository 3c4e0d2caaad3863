/- Maps of ints that functions tell: words and laws. Own work, over the kit's laws on maps. -/
import Derived.Test.YtcikdffahnnbhaaOwn
import Derived.Test.YtcikdffahnnbhaaProg
import Derived.Maps.OwnSet
import Derived.Maps.OwnOps
import Derived.Maps.Views
import Derived.Deep.RegionLaw
import Derived.KernelRfl
namespace Go.Proofs.Ytcikdffahnnbhaa
open Go.RowKit

theorem keyed : Maps.Keyed Try.prog 3 := Maps.int_keyed Try.underlying3
theorem zero3 (w : World) : (zeroValue 3).run Try.prog w = .ok (.int .i64 0) w := by kernel_rfl
theorem wf64 {x : Int} (h1 : -9223372036854775808 ≤ x) (h2 : x ≤ 9223372036854775807) : (Lit.int .i64 x).wf = true := WalkArith.wf_i64 ⟨h1, h2⟩
/-- Block b is a map of at most n entries that holds f x at every x. -/
def MapAt (w : World) (b n : Nat) (f : Int → Int) : Prop :=
  ∃ D : DataW Unit, w.ownsMap Try.prog 3 (plainElem Try.prog 3) b n D ∧ ∀ x, D.atKey (.int .i64 x) (.lit (.int .i64 0)) = .lit (.int .i64 (f x))
def updI (f : Int → Int) (x v : Int) : Int → Int := fun y => if y = x then v else f y
section
variable {w w' : World} {b n : Nat} {f : Int → Int}
theorem MapAt.lt (h : MapAt w b n f) : b < w.heap.size := by obtain ⟨D, h, _⟩ := h; exact h.lt
theorem MapAt.mono (h : MapAt w b n f) {n' : Nat} (hn : n ≤ n') : MapAt w b n' f := by obtain ⟨D, h, e⟩ := h; exact ⟨D, h.mono hn, e⟩
theorem MapAt.keep {F : List Nat} (h : MapAt w b n f) (hk : Keeps F w w') (hn : b ∉ F) : MapAt w' b n f := by
  obtain ⟨D, h, e⟩ := h
  have hl := h.lt
  obtain ⟨es, clock, hb, r⟩ := h
  exact ⟨D, ⟨es, clock, (hk.block b hl hn).trans hb, r⟩, e⟩
theorem MapAt.drew (h : MapAt w b n f) : MapAt w.drew b n f := h
theorem MapAt.drewN (h : MapAt w b n f) (k : Nat) : MapAt (w.drewN k) b n f := h.keep ((Keeps.refl [] w).drewN k) (by simp)
theorem MapAt.alloc (h : MapAt w b n f) (o : Obj) : MapAt (w.alloc o) b n f := h.keep ((Keeps.refl [] w).alloc o) (by simp)
theorem MapAt.made (w : World) : MapAt (w.alloc (.map #[] 0)) w.heap.size 0 (fun _ => 0) := ⟨_, World.ownsMap_made w _ _ _, fun _ => rfl⟩
theorem MapAt.ne_blk (h : MapAt w b n f) {g : Nat} {t : TypeId} {cs : Array Value} (hb : Blk w g t cs) : b ≠ g := by
  rintro rfl
  obtain ⟨D, ⟨es, clock, h, _⟩, _⟩ := h
  unfold Blk at hb
  rw [hb] at h
  cases h
theorem MapAt.look (h : MapAt w b n f) {x : Int} (h1 : -9223372036854775808 ≤ x) (h2 : x ≤ 9223372036854775807) {T : TypeId} (ht : Try.prog.underlying T = some (.map 3 3)) :
    (Instr.lookup T (.map (some b)) (.int .i64 x) false).run Try.prog w = .ok (.int .i64 (f x)) w := by
  obtain ⟨D, h, e⟩ := h
  obtain ⟨c, hrun, hat, _⟩ := h.lookup_int keyed ht Try.underlying3 (zero3 w) (Maps.keyOf_int_mk Try.underlying3 (wf64 h1 h2))
  rw [e x] at hat
  injection hat with hat
  injection hat with _ hat
  rw [hat]
  exact hrun
theorem MapAt.upd (h : MapAt w b n f) {x v : Int} (h1 : -9223372036854775808 ≤ x) (h2 : x ≤ 9223372036854775807) (h3 : -9223372036854775808 ≤ v) (h4 : v ≤ 9223372036854775807) (hn : n < maxLen) {T : TypeId} (ht : Try.prog.underlying T = some (.map 3 3)) :
    ∃ w', (Instr.mapUpdate T (.map (some b)) (.int .i64 x) (.int .i64 v)).run Try.prog w = .ok () w' ∧ MapAt w' b (n + 1) (updI f x v) ∧ Keeps [b] w w' := by
  obtain ⟨D, h, e⟩ := h
  have hk := Maps.keyOf_int_mk (P := Try.prog) Try.underlying3 (wf64 h1 h2)
  obtain ⟨w', hrun, h', hg⟩ := h.update keyed ht hn hk (plainElem_int Try.underlying3 (wf64 h3 h4))
  refine ⟨w', hrun, ⟨_, h', fun y => ?_⟩, (Keeps.refl _ w).grown hg (fun g hx => .inl (by cases hx; simp))⟩
  unfold updI
  by_cases hy : y = x
  · subst hy
    rw [if_pos rfl, Maps.atKey_put_same h.isMap (by trivial)]
  · rw [if_neg hy, Maps.atKey_put_other (fun hc => hy (by injection hc)), e y]
theorem MapAt.clear (h : MapAt w b n f) {T : TypeId} (ht : Try.prog.underlying T = some (.map 3 3)) :
    ∃ w', (∀ ty, (Builtin.clear_ #[T] ty #[.map (some b)]).run Try.prog w = .ok (.tuple #[]) w') ∧ MapAt w' b 0 (fun _ => 0) ∧ Keeps [b] w w' := by
  obtain ⟨D, h, e⟩ := h
  have hl := h.lt
  obtain ⟨es, clock, hb, F, hs, rfl⟩ := h
  refine ⟨ChangeMaps.setBlock w b (.map #[] clock), ?_, ⟨.map [], ⟨#[], clock, ChangeMaps.heap_setBlock_same hb _, ⟨by simp, MapKept.stamped_empty clock, by simp⟩, Nat.le_refl _, rfl⟩, fun _ => rfl⟩, ⟨rfl, rfl, rfl, by simp [ChangeMaps.setBlock], fun i _ hi => ChangeMaps.heap_setBlock_other hb _ (by simpa using hi)⟩⟩
  intro ty
  simp [Builtin.clear_, run_underlying ht, MapKept.run_getObj_map hb, MapKept.run_setObj_map _ hb, Result.andThen, ChangeMaps.setBlock]
end
/-- 'm[x]' at the operation. -/
theorem wpList_look {ops : Array Oper} {rest : List Oper} {o : Oper} {a : Act} {w : World} {Q : Exit → Act → World → Prop} (hg : o.guard = none) (mo xo : Operand) (T : TypeId) (hop : o.op = Op.lookup T mo xo false)
    (ht : Try.prog.underlying T = some (.map 3 3)) (b n : Nat) (f : Int → Int) (hm : a.eval mo = .map (some b)) (h : MapAt w b n f) (x : Int) (hx : a.eval xo = .int .i64 x) (h1 : -9223372036854775808 ≤ x) (h2 : x ≤ 9223372036854775807)
    (hK : wpList Try.prog ops Q rest (a.put o.dst (.int .i64 (f x))) w) : wpList Try.prog ops Q (o :: rest) a w := by
  refine wpList_plain hg fun K' hK' => ?_
  unfold Oper.wp
  simp [execOp, hop, hm, hx, h.look h1 h2 ht, Result.andThen]
  exact hK' _ _ hK
theorem step_look {ops : Array Oper} {o : Oper} {a : Act} {w : World} {K : Act → World → Prop} {Q : Exit → Act → World → Prop} {E : Prop} (hg : o.guard = none) (mo xo : Operand) (T : TypeId) (hop : o.op = Op.lookup T mo xo false)
    (ht : Try.prog.underlying T = some (.map 3 3)) (b n : Nat) (f : Int → Int) (hm : a.eval mo = .map (some b)) (h : MapAt w b n f) (x : Int) (hx : a.eval xo = .int .i64 x) (h1 : -9223372036854775808 ≤ x) (h2 : x ≤ 9223372036854775807)
    (hK : K (a.put o.dst (.int .i64 (f x))) w) : if Region.wanted o (yielded ops a.tmps) = true then Oper.wp Try.prog o a w K Q else E := by
  have hw : Region.wanted o (yielded ops a.tmps) = true := by simp [Region.wanted, hg]
  rw [if_pos hw]
  unfold Oper.wp
  simp [execOp, hop, hm, hx, h.look h1 h2 ht, Result.andThen]
  exact hK
/-- 'm[x] = v' at the operation. -/
theorem wpList_upd {ops : Array Oper} {rest : List Oper} {o : Oper} {a : Act} {w : World} {Q : Exit → Act → World → Prop} (hg : o.guard = none) (hd : o.dst = none) (mo xo vo : Operand) (T : TypeId) (hop : o.op = Op.mapUpdate T mo xo vo)
    (ht : Try.prog.underlying T = some (.map 3 3)) (b n : Nat) (f : Int → Int) (hm : a.eval mo = .map (some b)) (h : MapAt w b n f) (hn : n < maxLen) (x v : Int) (hx : a.eval xo = .int .i64 x) (hv : a.eval vo = .int .i64 v)
    (h1 : -9223372036854775808 ≤ x) (h2 : x ≤ 9223372036854775807) (h3 : -9223372036854775808 ≤ v) (h4 : v ≤ 9223372036854775807)
    (hK : ∀ w', MapAt w' b (n + 1) (updI f x v) → Keeps [b] w w' → wpList Try.prog ops Q rest a w') : wpList Try.prog ops Q (o :: rest) a w := by
  refine wpList_plain hg fun K' hK' => ?_
  obtain ⟨w', hrun, h', hk⟩ := h.upd h1 h2 h3 h4 hn ht
  unfold Oper.wp
  simp [execOp, hop, hm, hx, hv, hrun, Result.andThen]
  refine hK' _ _ ?_
  rw [hd]
  exact hK w' h' hk
theorem step_upd {ops : Array Oper} {o : Oper} {a : Act} {w : World} {K : Act → World → Prop} {Q : Exit → Act → World → Prop} {E : Prop} (hg : o.guard = none) (mo xo vo : Operand) (T : TypeId) (hop : o.op = Op.mapUpdate T mo xo vo)
    (ht : Try.prog.underlying T = some (.map 3 3)) (b n : Nat) (f : Int → Int) (hm : a.eval mo = .map (some b)) (h : MapAt w b n f) (hn : n < maxLen) (x v : Int) (hx : a.eval xo = .int .i64 x) (hv : a.eval vo = .int .i64 v)
    (h1 : -9223372036854775808 ≤ x) (h2 : x ≤ 9223372036854775807) (h3 : -9223372036854775808 ≤ v) (h4 : v ≤ 9223372036854775807)
    (hK : ∀ w', MapAt w' b (n + 1) (updI f x v) → Keeps [b] w w' → K (a.put o.dst undef) w') : if Region.wanted o (yielded ops a.tmps) = true then Oper.wp Try.prog o a w K Q else E := by
  have hw : Region.wanted o (yielded ops a.tmps) = true := by simp [Region.wanted, hg]
  rw [if_pos hw]
  obtain ⟨w', hrun, h', hk⟩ := h.upd h1 h2 h3 h4 hn ht
  unfold Oper.wp
  simp [execOp, hop, hm, hx, hv, hrun, Result.andThen]
  exact hK w' h' hk
end Go.Proofs.Ytcikdffahnnbhaa
