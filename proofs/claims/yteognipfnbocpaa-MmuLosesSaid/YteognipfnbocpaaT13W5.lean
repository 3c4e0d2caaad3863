/- slices.Insert at the front. -/
import Derived.Test.YteognipfnbocpaaT13W4
import Derived.Lib.Overlaps
import Derived.Lib.AppendZerosOnto
import Derived.Lib.JoinLaws
import Derived.Lib.SliceRun
import Derived.Lib.Walk
import Derived.Laws.NewBlocks
import Derived.Shelf.RegionOpenPlain
namespace Go.Proofs.Yteognipfnbocpaa.T13
open Go.RowKit

/-- 'copy' of entries: all is read before anything is written. -/
theorem run_copy_en (w : World) (ty : TypeId) (b o dLen dCap : Nat) (a : Addr) (sLen sCap : Nat) (cs : List Value) (m : Nat) (hm : min sLen dLen = m) (hn : cs.length = m * 4)
    (hsrc : ∀ j v, cs[j]? = some v → w.cell? (a.add j) = some v) (hc : ∀ j, j < cs.length → (w.cell? ⟨b, o + j, none⟩).isSome = true) (hf : ∀ j, j < cs.length → w.frozen? ⟨b, o + j, none⟩ = false) (h1 : ∀ v ∈ cs, v.oneCell' = true) :
    (Builtin.copy_ #[38, 38] ty #[.slice (some ⟨b, o, none⟩) dLen dCap, .slice (some a) sLen sCap]).run Try.prog w = .ok (goInt m) (w.setCells b o cs) := by
  have hl := run_loadCells_list (P := Try.prog) w a cs hsrc
  have hst := run_storeCells_cells (P := Try.prog) b o cs 0 w (by simpa using hc) (by simpa using hf) h1
  obtain ⟨i, hi, hz, hs, hb⟩ := info_parts info41
  simp [Builtin.copy_, run_underlying Try.underlying38, Builtin.lenOf, Builtin.firstCells, sizeOf, typeInfo, hi, hs, hm, ← hn, hl, hst]
section
variable {P : Program}
theorem wpList_copy_run (w : World) {ops : Array Oper} {rest : List Oper} {o : Oper} {a : Act} {Q : Exit → Act → World → Prop} (hgd : o.guard = none) (d s : Operand) (t t' : TypeId)
    (ho : o.op = .call { callee := .builtin .copy, args := #[d, s], argTypes := #[t, t'] }) (v u : Value) (hd : a.eval d = v) (hs : a.eval s = u) {v' : Value} {w' : World}
    (hr : (Builtin.copy_ #[t, t'] o.type #[v, u]).run P w = .ok v' w') (h : wpList P ops Q rest (a.put o.dst v') w') : wpList P ops Q (o :: rest) a w := by
  refine wpList_plain hgd fun _ hK => ?_
  unfold Oper.wp execOp
  simp only [ho, resolve, invoke, builtin, Sem.run_bind, Sem.run_pure, Result.andThen_ok, List.map_toArray, List.map_cons, List.map_nil, hd, hs, hr]
  exact hK _ _ h
theorem step_copy_run {ops : Array Oper} {o : Oper} {a : Act} {w : World} {K : Act → World → Prop} {Q : Exit → Act → World → Prop} {E : Prop}
    (hg : o.guard = none) (d x : Operand) (dT sT : TypeId) (hop : o.op = Op.call { callee := Callee.builtin Builtin.copy, args := #[d, x], argTypes := #[dT, sT] })
    (v u : Value) (hd : a.eval d = v) (hx : a.eval x = u) {v' : Value} {w' : World} (hr : (Builtin.copy_ #[dT, sT] o.type #[v, u]).run P w = .ok v' w') (hK : K (a.put o.dst v') w') :
    if Region.wanted o (yielded ops a.tmps) = true then Oper.wp P o a w K Q else E := by
  have hw : Region.wanted o (yielded ops a.tmps) = true := by simp [Region.wanted, hg]
  rw [if_pos hw]
  unfold Oper.wp
  simp [execOp, hop, resolve, invoke, builtin, hd, hx, hr, Result.andThen]
  exact hK
end
theorem blk_shape {w : World} {b : Nat} {cs : Array Value} (h : Blk w b 41 cs) : w.shape? b = some (41, cs.size) := by
  unfold Blk at h
  simp [World.shape?, h]
theorem splice2 (C X Y : List Value) (n : Nat) (hC : (n + 1) * 4 ≤ C.length) (hX : X.length = n * 4) (hY : Y.length = 4) : (splice (splice C 4 X) 0 Y).take ((n + 1) * 4) = Y ++ X := by
  have h4 : (C.take 4).length = 4 := by rw [List.length_take]; omega
  have e : (splice C 4 X).drop 4 = X ++ C.drop (4 + X.length) := by
    unfold splice
    rw [List.append_assoc]
    exact List.drop_left' h4
  have e2 : splice (splice C 4 X) 0 Y = (Y ++ X) ++ C.drop (4 + X.length) := by
    show (splice C 4 X).take 0 ++ Y ++ (splice C 4 X).drop (0 + Y.length) = _
    rw [hY, List.take_zero, List.nil_append, show 0 + 4 = 4 from rfl, e, List.append_assoc]
  rw [e2]
  exact List.take_left' (by rw [List.length_append, hX, hY]; omega)
theorem splice3 (C X Y : List Value) (n : Nat) (hX : X.length = n * 4) (hY : Y.length = 4) : (splice (splice C 0 Y) 4 X).take ((n + 1) * 4) = Y ++ X := by
  have e : (splice C 0 Y).take 4 = Y := by
    show (C.take 0 ++ Y ++ C.drop (0 + Y.length)).take 4 = Y
    rw [List.take_zero, List.nil_append]
    exact List.take_left' hY
  have e2 : splice (splice C 0 Y) 4 X = (Y ++ X) ++ (splice C 0 Y).drop (4 + X.length) := by
    show (splice C 0 Y).take 4 ++ X ++ _ = _
    rw [e]
  rw [e2]
  exact List.take_left' (by rw [List.length_append, hX, hY]; omega)
end Go.Proofs.Yteognipfnbocpaa.T13
