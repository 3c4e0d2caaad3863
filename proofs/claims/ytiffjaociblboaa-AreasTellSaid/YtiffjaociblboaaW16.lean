/- The maps of a world of sheets. -/
import Derived.Test.YtiffjaociblboaaW15
namespace Go.Proofs.Ytiffjaociblboaa
open Go Go.Proofs Go.RowKit
def sh0 : Value := .agg (Array.replicate 64 (.int .u8 0))
theorem z71 (w : World) : (zeroValue 71).run Try.prog w = .ok sh0 w := by kernel_rfl
theorem z72 (w : World) : (zeroValue 72).run Try.prog w = .ok (.map none) w := by kernel_rfl
theorem ck9 (e : Bool) (k : ByteArray) (w : World) : (Instr.checkKey e 10000 9 (.string k)).run Try.prog w = .ok () w := by kernel_rfl
theorem ck3 (e : Bool) (k : Int) (w : World) : (Instr.checkKey e 10000 3 (.int .i64 k)).run Try.prog w = .ok () w := by kernel_rfl
theorem run_gm {w : World} {r : Nat} {es : Array MapEntry} {clock : Nat} (hb : w.heap[r]? = some (.map es clock)) : (getObj r).run Try.prog w = .ok (.map es clock) w := by simp [getObj, Sem.run, hb]
theorem run_sm {w : World} {r : Nat} {es : Array MapEntry} {clock : Nat} (o : Obj) (hb : w.heap[r]? = some (.map es clock)) : (setObj r o).run Try.prog w = .ok () { w with heap := w.heap.setIfInBounds r o } := by simp [setObj, Sem.run, hb]
theorem look66_none {w : World} {b : Nat} (k : ByteArray) {clk : Nat} (h : w.heap[b]? = some (.map #[] clk)) : (Instr.lookup 66 (.map (some b)) (.string k) false).run Try.prog w = .ok (.map none) w := by
  have hg := run_gm h
  simp [Instr.lookup, hg, run_underlying Try.underlying66, run_underlying Try.underlying9, ck9, Instr.findKey, Instr.findNow]
theorem look66_one {w : World} {b : Nat} (k : ByteArray) (hk : (k == k) = true) {v : Value} {clk n : Nat} (h : w.heap[b]? = some (.map #[⟨.string k, v, n⟩] clk)) : (Instr.lookup 66 (.map (some b)) (.string k) false).run Try.prog w = .ok v w := by
  have hg := run_gm h
  simp [Instr.lookup, hg, run_underlying Try.underlying66, run_underlying Try.underlying9, ck9, Instr.findKey, Instr.findNow, Instr.sameNow, hk]
theorem look72_nil (k : Int) (w : World) : (Instr.lookup 72 (.map none) (.int .i64 k) false).run Try.prog w = .ok sh0 w := by kernel_rfl
theorem look72_one {w : World} {b : Nat} (k : Int) {v : Value} {clk n : Nat} (h : w.heap[b]? = some (.map #[⟨.int .i64 k, v, n⟩] clk)) : (Instr.lookup 72 (.map (some b)) (.int .i64 k) false).run Try.prog w = .ok v w := by
  have hg := run_gm h
  simp [Instr.lookup, hg, run_underlying Try.underlying72, run_underlying Try.underlying3, ck3, Instr.findKey, Instr.findNow, Instr.sameNow]
theorem upd66 {w : World} {b : Nat} (k : ByteArray) (v : Value) {clk : Nat} (h : w.heap[b]? = some (.map #[] clk)) : (Instr.mapUpdate 66 (.map (some b)) (.string k) v).run Try.prog w = .ok () { w with heap := w.heap.setIfInBounds b (.map #[⟨.string k, v, clk⟩] (clk + 1)) } := by
  have hg := run_gm h
  have hs := fun o => run_sm o h
  simp [Instr.mapUpdate, hg, hs, run_underlying Try.underlying66, run_underlying Try.underlying9, ck9, Instr.findKey, Instr.findNow]
theorem upd72 {w : World} {b : Nat} (k : Int) (v : Value) {clk : Nat} (h : w.heap[b]? = some (.map #[] clk)) : (Instr.mapUpdate 72 (.map (some b)) (.int .i64 k) v).run Try.prog w = .ok () { w with heap := w.heap.setIfInBounds b (.map #[⟨.int .i64 k, v, clk⟩] (clk + 1)) } := by
  have hg := run_gm h
  have hs := fun o => run_sm o h
  simp [Instr.mapUpdate, hg, hs, run_underlying Try.underlying72, run_underlying Try.underlying3, ck3, Instr.findKey, Instr.findNow]
/-- The block is a map that bears these entries. -/
def MO (w : World) (b : Nat) (es : Array MapEntry) (clk : Nat) : Prop := w.heap[b]? = some (.map es clk)
theorem MO.lt {w : World} {b : Nat} {es : Array MapEntry} {clk : Nat} (h : MO w b es clk) : b < w.heap.size := (Array.getElem?_eq_some_iff.1 h).1
theorem MO.keep {w w' : World} {F : List Nat} {b : Nat} {es : Array MapEntry} {clk : Nat} (h : MO w b es clk) (hk : Keeps F w w') (hn : b ∉ F) : MO w' b es clk := (hk.block b h.lt hn).trans h
theorem MO.ne_ {w : World} {b g : Nat} {es : Array MapEntry} {clk : Nat} {t : TypeId} {cs : Array Value} (h : MO w b es clk) (h' : Blk w g t cs) : b ≠ g := by
  rintro rfl
  unfold MO at h
  unfold Blk at h'
  rw [h] at h'
  cases h'
theorem MO.upd {w : World} {b : Nat} {es : Array MapEntry} {clk : Nat} (h : MO w b es clk) (es' : Array MapEntry) (clk' : Nat) : MO { w with heap := w.heap.setIfInBounds b (.map es' clk') } b es' clk' ∧ Keeps [b] w { w with heap := w.heap.setIfInBounds b (.map es' clk') } := by
  have hl := h.lt
  refine ⟨by unfold MO; simp [hl], rfl, rfl, rfl, by simp, fun k hk hn => ?_⟩
  have : b ≠ k := fun e => hn (by simp [e])
  simp [this]
/-- A map entry stored, at the operation. -/
theorem wpList_upd66 {ops : Array Oper} {rest : List Oper} {o : Oper} {a : Act} {w : World} {Q : Exit → Act → World → Prop} (hg : o.guard = none) (hd : o.dst = none) (mo xo vo : Operand) (hop : o.op = Op.mapUpdate 66 mo xo vo)
    (b clk : Nat) (hm : a.eval mo = .map (some b)) (h : MO w b #[] clk) (k : ByteArray) (hx : a.eval xo = .string k) (v : Value) (hv : a.eval vo = v)
    (hK : ∀ w', MO w' b #[⟨.string k, v, clk⟩] (clk + 1) → Keeps [b] w w' → wpList Try.prog ops Q rest a w') : wpList Try.prog ops Q (o :: rest) a w := by
  refine wpList_plain hg fun K' hK' => ?_
  obtain ⟨h1, h2⟩ := h.upd #[⟨.string k, v, clk⟩] (clk + 1)
  unfold Oper.wp
  simp [execOp, hop, hm, hx, hv, upd66 k v h, Result.andThen]
  refine hK' _ _ ?_
  rw [hd]
  exact hK _ h1 h2
theorem wpList_upd72 {ops : Array Oper} {rest : List Oper} {o : Oper} {a : Act} {w : World} {Q : Exit → Act → World → Prop} (hg : o.guard = none) (hd : o.dst = none) (mo xo vo : Operand) (hop : o.op = Op.mapUpdate 72 mo xo vo)
    (b clk : Nat) (hm : a.eval mo = .map (some b)) (h : MO w b #[] clk) (k : Int) (hx : a.eval xo = .int .i64 k) (v : Value) (hv : a.eval vo = v)
    (hK : ∀ w', MO w' b #[⟨.int .i64 k, v, clk⟩] (clk + 1) → Keeps [b] w w' → wpList Try.prog ops Q rest a w') : wpList Try.prog ops Q (o :: rest) a w := by
  refine wpList_plain hg fun K' hK' => ?_
  obtain ⟨h1, h2⟩ := h.upd #[⟨.int .i64 k, v, clk⟩] (clk + 1)
  unfold Oper.wp
  simp [execOp, hop, hm, hx, hv, upd72 k v h, Result.andThen]
  refine hK' _ _ ?_
  rw [hd]
  exact hK _ h1 h2
end Go.Proofs.Ytiffjaociblboaa
