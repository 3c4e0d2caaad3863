/- Texts of the elder seat, turned to this one: W6 W7 W8 W9 W10. -/
import Derived.Test.YtcopjjokhjealaaGreatM1
import Derived.Test.YtcopjjokhjealaaGreatGm
import Derived.DeepKeys4
import Derived.Test.YtcopjjokhjealaaGreatHeld
import Derived.Deep.Cut
namespace Go.Proofs.YtcopjjokhjealaaGreat
open Go.RowKit

noncomputable def kI : KeyS 3 Int where
  K := keyed3
  val := fun x => .int .i64 x
  vinj := fun x y h => by injection h
  inv := fun h => by obtain ⟨x, rfl, _, _⟩ := Maps.keyOf_int_inv Tryz.underlying3 h; exact ⟨x, rfl⟩
theorem kI_ok {x : Int} (h1 : -9223372036854775808 ≤ x) (h2 : x ≤ 9223372036854775807) : kI.ok x := ⟨_, Maps.keyOf_int_mk Tryz.underlying3 (wfZ h1 h2)⟩
theorem laidOutZ : laidOutB Tryz.prog = true := by kernel_rfl
theorem row75 : (104 : TypeId) < Tryz.prog.types.size := of_decide_eq_true (by kernel_rfl)
theorem wide75 : (match Tryz.prog.underlying 104 with | some (.array _ _) | some (.struct _) => true | _ => false) = true := by kernel_rfl
set_option maxRecDepth 100000 in
theorem law75 : WideMaps.KeyLaw Tryz.prog 104 := deep_law_laid laidOutZ (m := 2) (by omega) row75 (by kernel_rfl) wide75
theorem cells75 : Tryz.prog.cellsOf 104 = 2 := by kernel_rfl
theorem cells3 : Tryz.prog.cellsOf 3 = 1 := by kernel_rfl
theorem keyType75 : Tryz.prog.keyType 104 = true := by kernel_rfl
theorem size75 : ∃ d, Tryz.prog.types.size + 1 = d + 2 := by
  have h : (104 : Nat) < Tryz.prog.types.size := row75
  exact ⟨Tryz.prog.types.size - 1, by omega⟩
theorem lits_int {P : Program} {k : TypeId} (hk : P.underlying k = some (.int .i64)) {d : Nat} {v : Value} {l : List Lit} (h : P.keyLits (d + 1) k [v] = some l) : ∃ a, v = .int .i64 a := by
  unfold Program.keyLits at h
  rw [hk] at h
  cases v <;> simp at h
  exact ⟨_, by rw [h.1.1]⟩
theorem lits_int_mk {P : Program} {k : TypeId} (hk : P.underlying k = some (.int .i64)) {d : Nat} {a : Int} (h : (Lit.int .i64 a).wf = true) : P.keyLits (d + 1) k [.int .i64 a] = some [.int .i64 a] := by
  unfold Program.keyLits
  rw [hk]
  simp [h]
theorem key2_mk {P : Program} {k k3 : TypeId} {f0 f1 : Field} (hu : P.underlying k = some (.struct #[f0, f1])) (h3 : P.underlying k3 = some (.int .i64)) (t0 : f0.type = k3) (t1 : f1.type = k3) (o0 : f0.offset = 0) (o1 : f1.offset = 1)
    (n0 : (f0.name != "_") = true) (n1 : (f1.name != "_") = true) (hc : P.cellsOf k = 2) (hc3 : P.cellsOf k3 = 1) (hkt : P.keyType k = true) {d : Nat} (hd : P.types.size + 1 = d + 2)
    {a b : Int} (ha : (Lit.int .i64 a).wf = true) (hb : (Lit.int .i64 b).wf = true) : ∃ l, keyOf P k (.agg #[.int .i64 a, .int .i64 b]) = some l := by
  have hf : Value.formed P k (.agg #[.int .i64 a, .int .i64 b]) = true := by simp [Value.formed, hu, hc]
  have hl : P.keyLits (d + 2) k [.int .i64 a, .int .i64 b] = some [.int .i64 a, .int .i64 b] := by
    unfold Program.keyLits
    rw [hu]
    simp [hc, t0, t1, o0, o1, hc3, lits_int_mk h3 ha, lits_int_mk h3 hb] at n0 n1 ⊢
    exact ⟨n0, n1⟩
  refine ⟨.string (keyBytes [.int .i64 a, .int .i64 b]), ?_⟩
  unfold keyOf
  rw [hu]
  dsimp only
  rw [hkt, hf, hd]
  show (if (true && true) = true then (P.keyLits (d + 2) k [.int .i64 a, .int .i64 b]).map fun ls => Lit.string (keyBytes ls) else none) = _
  rw [hl]
  rfl
theorem key2_inv {P : Program} {k k3 : TypeId} {f0 f1 : Field} (hu : P.underlying k = some (.struct #[f0, f1])) (h3 : P.underlying k3 = some (.int .i64)) (t0 : f0.type = k3) (t1 : f1.type = k3) (o0 : f0.offset = 0) (o1 : f1.offset = 1)
    (hc : P.cellsOf k = 2) (hc3 : P.cellsOf k3 = 1) {d : Nat} (hd : P.types.size + 1 = d + 2)
    {v : Value} {l : Lit} (h : keyOf P k v = some l) : ∃ x : Int × Int, v = .agg #[.int .i64 x.1, .int .i64 x.2] := by
  unfold keyOf at h
  rw [hu] at h
  dsimp only at h
  split at h
  · rename_i hg
    rw [Bool.and_eq_true] at hg
    have hf := hg.2
    rw [Option.map_eq_some_iff] at h
    obtain ⟨ls, hl, -⟩ := h
    cases v <;> simp [Value.formed, hu] at hf
    rename_i cs
    rw [hc] at hf
    obtain ⟨c0, c1, rfl⟩ : ∃ c0 c1, cs = #[c0, c1] := ⟨cs[0], cs[1], by
      apply Array.ext
      · simp [hf]
      · intro i h1 h2
        rcases i with _ | _ | i
        all_goals first | rfl | (exfalso; simp at h2; omega)⟩
    rw [hd] at hl
    change P.keyLits (d + 2) k [c0, c1] = some ls at hl
    unfold Program.keyLits at hl
    rw [hu] at hl
    simp [hc, t0, t1, o0, o1, hc3] at hl
    replace hl := hl.2
    cases e0 : P.keyLits (d + 1) k3 [c0] with
    | none => rw [e0] at hl; cases hl
    | some l0 =>
      cases e1 : P.keyLits (d + 1) k3 [c1] with
      | none => rw [e0, e1] at hl; cases hl
      | some l1 =>
        obtain ⟨a, rfl⟩ := lits_int h3 e0
        obtain ⟨b, rfl⟩ := lits_int h3 e1
        exact ⟨(a, b), rfl⟩
  · cases h
noncomputable def kP : KeyS 104 (Int × Int) where
  K := Maps.Keyed.of_law law75
  val := fun x => .agg #[.int .i64 x.1, .int .i64 x.2]
  vinj := fun x y h => by
    injection h with h
    injection h with h
    injection h with h1 h
    injection h with h2 h
    injection h1 with _ h1
    injection h2 with _ h2
    exact Prod.ext h1 h2
  inv := fun h => by
    obtain ⟨d, hd⟩ := size75
    exact key2_inv Tryz.underlying104 Tryz.underlying3 rfl rfl rfl rfl cells75 cells3 hd h
theorem kP_ok {x : Int × Int} (h1 : -9223372036854775808 ≤ x.1) (h2 : x.1 ≤ 9223372036854775807) (h3 : -9223372036854775808 ≤ x.2) (h4 : x.2 ≤ 9223372036854775807) : kP.ok x := by
  obtain ⟨d, hd⟩ := size75
  exact key2_mk Tryz.underlying104 Tryz.underlying3 rfl rfl rfl rfl (by decide) (by decide) cells75 cells3 keyType75 hd (wfZ h1 h2) (wfZ h3 h4)
/-- A line as the map holds it: its items lie in block b. -/
structure LnV where
  id : Int
  par : Int
  pid : Int
  b : Option Nat
  n : Nat
  c : Nat
/-- A count. -/
structure Ct where
  l : Int
  i : Int
  runs : Int
  com : Int
  con : Int
  drp : Int
  str : Int
def natD (n : Nat) : DataW Unit := .lit (.int .i64 (n : Int))
def intD (n : Int) : DataW Unit := .lit (.int .i64 n)
def eL : ElS LnV where
  val := fun x => .agg #[.int .i64 x.id, .int .i64 x.par, .int .i64 x.pid, .slice (x.b.map fun g => ⟨g, 0, none⟩) x.n x.c]
  vinj := fun x y h => by
    obtain ⟨a1, a2, a3, a4, a5, a6⟩ := x
    obtain ⟨b1, b2, b3, b4, b5, b6⟩ := y
    simp only [Value.agg.injEq, Array.mk.injEq, List.cons.injEq, Value.int.injEq, Value.slice.injEq, true_and, and_true] at h
    obtain ⟨rfl, rfl, rfl, h4, rfl, rfl⟩ := h
    have : a4 = b4 := by
      cases a4 <;> cases b4 <;> simp at h4 ⊢
      exact h4
    rw [this]
  enc := fun x => .agg [intD x.id, intD x.par, intD x.pid, match x.b with | some g => natD g | none => .nil, natD x.n, natD x.c]
  einj := fun x y h => by
    obtain ⟨a1, a2, a3, a4, a5, a6⟩ := x
    obtain ⟨b1, b2, b3, b4, b5, b6⟩ := y
    simp only [intD, natD, DataW.agg.injEq, List.cons.injEq, DataW.lit.injEq, Lit.int.injEq, true_and, and_true] at h
    obtain ⟨rfl, rfl, rfl, h4, h5, h6⟩ := h
    have e4 : a4 = b4 := by
      cases a4 <;> cases b4 <;> simp at h4 ⊢
      omega
    have e5 : a5 = b5 := by omega
    have e6 : a6 = b6 := by omega
    rw [e4, e5, e6]
  ne := fun x h => by cases h
def eC : ElS Ct where
  val := fun x => .agg #[.int .i64 x.l, .int .i64 x.i, .int .i64 x.runs, .int .i64 x.com, .int .i64 x.con, .int .i64 x.drp, .int .i64 x.str]
  vinj := fun x y h => by
    obtain ⟨a1, a2, a3, a4, a5, a6, a7⟩ := x
    obtain ⟨b1, b2, b3, b4, b5, b6, b7⟩ := y
    simp only [Value.agg.injEq, Array.mk.injEq, List.cons.injEq, Value.int.injEq, true_and, and_true] at h
    obtain ⟨rfl, rfl, rfl, rfl, rfl, rfl, rfl⟩ := h
    rfl
  enc := fun x => .agg [intD x.l, intD x.i, intD x.runs, intD x.com, intD x.con, intD x.drp, intD x.str]
  einj := fun x y h => by
    obtain ⟨a1, a2, a3, a4, a5, a6, a7⟩ := x
    obtain ⟨b1, b2, b3, b4, b5, b6, b7⟩ := y
    simp only [intD, DataW.agg.injEq, List.cons.injEq, DataW.lit.injEq, Lit.int.injEq, true_and, and_true] at h
    obtain ⟨rfl, rfl, rfl, rfl, rfl, rfl, rfl⟩ := h
    rfl
  ne := fun x h => by cases h
end Go.Proofs.YtcopjjokhjealaaGreat
namespace Go.Proofs.YtcopjjokhjealaaGreat
open Go.RowKit

theorem zero66 (w : World) : (zeroValue 56).run Tryz.prog w = .ok (.agg #[.int .i64 0, .int .i64 0, .int .i64 0, .slice none 0 0]) w := by kernel_rfl
theorem zero36 (w : World) : (zeroValue 84).run Tryz.prog w = .ok (.agg #[.int .i64 0, .int .i64 0, .int .i64 0, .int .i64 0, .int .i64 0, .int .i64 0, .int .i64 0]) w := by kernel_rfl
set_option maxRecDepth 100000 in
set_option maxHeartbeats 3200000 in
theorem hasL_any (w : World) (p lm n : Nat) (f : Int → Option LnV) (x : Int) (hp : w.cell? ⟨p, 0, none⟩ = some (.map (some lm))) (hm : GMap kI eL w lm n f) (h1 : -9223372036854775808 ≤ x) (h2 : x ≤ 9223372036854775807) :
    Calls Tryz.prog 53 #[.pointer (some ⟨p, 0, none⟩), .int .i64 x] w fun e w' => e = .returned (.bool (f x).isSome) ∧ Keeps [] w w' := by
  have hl := hm.look (kI_ok h1 h2) Tryz.underlying57 (zero66 w)
  clear hm
  cases hf : f x with
  | none =>
    rw [hf] at hl
    have hl' : (Instr.lookup 57 (.map (some lm)) (.int .i64 x) true).run Tryz.prog w = .ok (.tuple #[.agg #[.int .i64 0, .int .i64 0, .int .i64 0, .slice none 0 0], .bool false]) w := hl
    clear hl hf
    go_enter Tryz.func53, Tryz.ntmps53
    go_wp2_with fail
    go_ret
    exact ⟨rfl, (Keeps.refl [] w).alloc _⟩
  | some v =>
    rw [hf] at hl
    have hl' : (Instr.lookup 57 (.map (some lm)) (.int .i64 x) true).run Tryz.prog w = .ok (.tuple #[.agg #[.int .i64 v.id, .int .i64 v.par, .int .i64 v.pid, .slice (v.b.map fun g => ⟨g, 0, none⟩) v.n v.c], .bool true]) w := hl
    clear hl hf
    go_enter Tryz.func53, Tryz.ntmps53
    go_wp2_with fail
    go_ret
    exact ⟨rfl, (Keeps.refl [] w).alloc _⟩
set_option maxRecDepth 100000 in
set_option maxHeartbeats 3200000 in
theorem empty_any (w : World) : Calls Tryz.prog 23 #[] w fun e w' => ∃ p lm cm, e = .returned (.pointer (some ⟨p, 0, none⟩)) ∧ Blk w' p 61 #[.map (some lm), .slice none 0 0, .map (some cm)] ∧ GMap kI eL w' lm 0 (fun _ => none) ∧ GMap kP eC w' cm 0 (fun _ => none) ∧ lm ≠ cm ∧ Keeps [] w w' ∧ w.heap.size ≤ p ∧ w.heap.size ≤ lm ∧ w.heap.size ≤ cm := by
  have hmm := @run_makeMap Tryz.prog
  go_enter Tryz.func23, Tryz.ntmps23
  go_wp2_with fail
  go_ret
  have m1 := (GMap.made (S := kI) (E := eL) w).keep ((Keeps.refl [] _).alloc (.map #[] 0)) (by simp)
  have m2 := GMap.made (S := kP) (E := eC) (w.alloc (.map #[] 0))
  have hb := Blk.new ((w.alloc (.map #[] 0)).alloc (.map #[] 0)) 61 #[.map (some w.heap.size), .slice none 0 0, .map (some (w.heap.size + 1))]
  have e1 : (w.alloc (.map #[] 0)).heap.size = w.heap.size + 1 := by simp
  rw [e1] at m2
  refine ⟨w.heap.size + 2, w.heap.size, w.heap.size + 1, rfl, by simpa using hb, m1.keep ((Keeps.refl [] _).alloc _) (by simp), m2.keep ((Keeps.refl [] _).alloc _) (by simp), by omega, (((Keeps.refl [] w).alloc _).alloc _).alloc _, by omega, by omega, by omega⟩
end Go.Proofs.YtcopjjokhjealaaGreat
namespace Go.Proofs.YtcopjjokhjealaaGreat
open Go.RowKit

theorem step_updG {kt : TypeId} {κ V : Type} {S : KeyS kt κ} {E : ElS V} {ops : Array Oper} {o : Oper} {a : Act} {w : World} {K : Act → World → Prop} {Q : Exit → Act → World → Prop} {E0 : Prop} (hg : o.guard = none) (mo xo vo : Operand) (T : TypeId) (hop : o.op = Op.mapUpdate T mo xo vo)
    {e : TypeId} (ht : Tryz.prog.underlying T = some (.map kt e)) (b n : Nat) (f : κ → Option V) (hm : a.eval mo = .map (some b)) (h : GMap S E w b n f) (hn : n < maxLen) (x : κ) (v : V) (hx : a.eval xo = S.val x) (hv : a.eval vo = E.val v) (hok : S.ok x)
    (hK : ∀ w', GMap S E w' b (n + 1) (updG f x (some v)) → Keeps [b] w w' → K (a.put o.dst undef) w') : if Region.wanted o (yielded ops a.tmps) = true then Oper.wp Tryz.prog o a w K Q else E0 := by
  have hw : Region.wanted o (yielded ops a.tmps) = true := by simp [Region.wanted, hg]
  rw [if_pos hw]
  obtain ⟨w', hrun, h', hk⟩ := h.upd v hok hn ht
  unfold Oper.wp
  simp [execOp, hop, hm, hx, hv, hrun, Result.andThen]
  exact hK w' h' hk
def theRegion (k : Nat) : Code → Option Code
  | .region id ops d => if id == k then some (.region id ops d) else none
  | .seq a b => match theRegion k a with
    | some c => some c
    | none => theRegion k b
  | .cond _ a b => match theRegion k a with
    | some c => some c
    | none => theRegion k b
  | .block _ c => theRegion k c
  | .loop c => theRegion k c
  | .scope c => theRegion k c
  | _ => none
noncomputable def cnt2C : Code := ((Tryz.f49.body.bind (theRegion 2)).getD .skip)
set_option maxRecDepth 1000000 in
set_option maxHeartbeats 1600000 in
set_option linter.unusedSimpArgs false in
theorem cnt2_any (w : World) (p ab cb cm n : Nat) (l i : Int) (c ad : Ct) (g : Int × Int → Option Ct) (K : Exit → Act → World → Prop)
    (hS : ∀ W, Keeps [] w W → W.cell? ⟨p, 2, none⟩ = some (.map (some cm)) ∧ Blk W ab 84 #[.int .i64 ad.l, .int .i64 ad.i, .int .i64 ad.runs, .int .i64 ad.com, .int .i64 ad.con, .int .i64 ad.drp, .int .i64 ad.str] ∧ Blk W cb 84 #[.int .i64 c.l, .int .i64 c.i, .int .i64 c.runs, .int .i64 c.com, .int .i64 c.con, .int .i64 c.drp, .int .i64 c.str] ∧ GMap kP eC W cm n g) (hn : n < maxLen) (hok : kP.ok (l, i))
    (b0 : 0 ≤ c.runs ∧ c.runs ≤ 1000000) (d0 : 0 ≤ ad.runs ∧ ad.runs ≤ 1000000) (b1 : 0 ≤ c.com ∧ c.com ≤ 1000000) (d1 : 0 ≤ ad.com ∧ ad.com ≤ 1000000) (b2 : 0 ≤ c.con ∧ c.con ≤ 1000000) (d2 : 0 ≤ ad.con ∧ ad.con ≤ 1000000) (b3 : 0 ≤ c.drp ∧ c.drp ≤ 1000000) (d3 : 0 ≤ ad.drp ∧ ad.drp ≤ 1000000) (b4 : 0 ≤ c.str ∧ c.str ≤ 1000000) (d4 : 0 ≤ ad.str ∧ ad.str ≤ 1000000)
    (u3 u4 u5 u6 u9 u10 u11 u12 u13 u14 u15 u16 u17 u18 u19 u20 u21 u22 u23 u24 u25 u26 u27 u28 u29 u30 u31 u32 u33 u34 u35 u36 u37 u38 u39 u40 u41 u42 u43 u44 u45 u46 u47 u48 u49 u50 u51 : Value)
    (hK : ∀ (v17 v18 v19 v20 v21 v22 v23 v24 v25 v26 v27 v28 v29 v30 v31 v32 v33 v34 v35 v36 v37 v38 v39 v40 v41 v42 v43 v44 v45 v46 v47 v48 v49 v50 v51 : Value) (W : World), GMap kP eC W cm (n + 1) (updG g (l, i) (some ⟨l, i, c.runs + ad.runs, c.com + ad.com, c.con + ad.con, c.drp + ad.drp, c.str + ad.str⟩)) → Keeps [cm] w W → K .normal ⟨#[.pointer (some ⟨p, 0, none⟩), .int .i64 l, .int .i64 i, u3, u4, u5, u6, .pointer (some ⟨ab, 0, none⟩), .pointer (some ⟨cb, 0, none⟩), u9, u10, u11, u12, u13, u14, u15, u16, v17, v18, v19, v20, v21, v22, v23, v24, v25, v26, v27, v28, v29, v30, v31, v32, v33, v34, v35, v36, v37, v38, v39, v40, v41, v42, v43, v44, v45, v46, v47, v48, v49, v50, v51], []⟩ W) :
    Code.wp Tryz.prog cnt2C K ⟨#[.pointer (some ⟨p, 0, none⟩), .int .i64 l, .int .i64 i, u3, u4, u5, u6, .pointer (some ⟨ab, 0, none⟩), .pointer (some ⟨cb, 0, none⟩), u9, u10, u11, u12, u13, u14, u15, u16, u17, u18, u19, u20, u21, u22, u23, u24, u25, u26, u27, u28, u29, u30, u31, u32, u33, u34, u35, u36, u37, u38, u39, u40, u41, u42, u43, u44, u45, u46, u47, u48, u49, u50, u51], []⟩ w := by
  have HS := Lib.hid hS
  clear hS
  conv => arg 2; whnf
  dsimp only at hK ⊢
  refine wp_region_noPanic ?_
  refine wp_region_last (S := fun W => W.cell? ⟨p, 2, none⟩ = some (.map (some cm)) ∧ Blk W ab 84 #[.int .i64 ad.l, .int .i64 ad.i, .int .i64 ad.runs, .int .i64 ad.com, .int .i64 ad.con, .int .i64 ad.drp, .int .i64 ad.str] ∧ Blk W cb 84 #[.int .i64 c.l, .int .i64 c.i, .int .i64 c.runs, .int .i64 c.com, .int .i64 c.con, .int .i64 c.drp, .int .i64 c.str] ∧ GMap kP eC W cm n g) 35 (by kernel_rfl) (HS.out _ ((Keeps.refl [] w).drew)) (fun hHeld => ?_)
  obtain ⟨w0, hw0⟩ : ∃ w0, w.drew = w0 := ⟨_, rfl⟩
  try rw [hw0] at hHeld
  rw [hw0]
  have K0 : Keeps [] w w0 := by rw [← hw0]; exact (Keeps.refl [] w).drew
  clear hw0
  refine wpG_take (nx := [1, 2, 3, 35, 6, 6, 35, 34, 34, 10, 13, 12, 13, 34, 15, 18, 17, 18, 34, 20, 23, 22, 23, 34, 25, 28, 27, 28, 34, 30, 33, 32, 33, 34, 35]) (i := 0) (oi := ⟨some 17, Op.move (Operand.tmp 0), 26, _, _, none⟩) (v := ?vq1) (by kernel_rfl) rfl (by decide) (by kernel_rfl) (by kernel_rfl) (by kernel_rfl) (fun _ _ _ h => h) (Or.inl ⟨by rfl, fun W hW => ?_⟩) (by assumption) ?_
  rotate_left
  · go_simp
    with_reducible rfl
  try simp only [Act.put, List.setIfInBounds_toArray, List.set_cons_zero, List.set_cons_succ]
  refine wpG_take (nx := [1, 2, 3, 35, 6, 6, 35, 34, 34, 10, 13, 12, 13, 34, 15, 18, 17, 18, 34, 20, 23, 22, 23, 34, 25, 28, 27, 28, 34, 30, 33, 32, 33, 34, 35]) (i := 1) (oi := ⟨some 18, Op.nilCheck (Operand.tmp 17), 0, _, _, none⟩) (v := ?vq2) (by kernel_rfl) rfl (by decide) (by kernel_rfl) (by kernel_rfl) (by kernel_rfl) (fun _ _ _ h => h) (Or.inl ⟨by rfl, fun W hW => ?_⟩) (by assumption) ?_
  rotate_left
  · go_simp
    with_reducible rfl
  try simp only [Act.put, List.setIfInBounds_toArray, List.set_cons_zero, List.set_cons_succ]
  refine wpG_take (nx := [1, 2, 3, 35, 6, 6, 35, 34, 34, 10, 13, 12, 13, 34, 15, 18, 17, 18, 34, 20, 23, 22, 23, 34, 25, 28, 27, 28, 34, 30, 33, 32, 33, 34, 35]) (i := 2) (oi := ⟨some 19, Op.fieldAddr 61 (Operand.tmp 18) 2, 0, _, _, none⟩) (v := ?vq3) (by kernel_rfl) rfl (by decide) (by kernel_rfl) (by kernel_rfl) (by kernel_rfl) (fun _ _ _ h => h) (Or.inl ⟨by rfl, fun W hW => ?_⟩) (by assumption) ?_
  rotate_left
  · go_simp
    with_reducible rfl
  try simp only [Act.put, List.setIfInBounds_toArray, List.set_cons_zero, List.set_cons_succ]
  refine wpG_take (nx := [1, 2, 3, 35, 6, 6, 35, 34, 34, 10, 13, 12, 13, 34, 15, 18, 17, 18, 34, 20, 23, 22, 23, 34, 25, 28, 27, 28, 34, 30, 33, 32, 33, 34, 35]) (i := 3) (oi := ⟨some 20, Op.load 59 (Operand.tmp 19), 59, _, _, none⟩) (v := .map (some cm)) (by kernel_rfl) rfl (by decide) (by kernel_rfl) (by kernel_rfl) (by kernel_rfl) (fun _ _ _ h => h) (Or.inl ⟨by rfl, fun W hW => ?_⟩) (by assumption) ?_
  · (have a0 := hW.1; clear hW; go_simp)
  try simp only [Act.put, List.setIfInBounds_toArray, List.set_cons_zero, List.set_cons_succ]
  refine wpG_take (nx := [1, 2, 3, 35, 6, 6, 35, 34, 34, 10, 13, 12, 13, 34, 15, 18, 17, 18, 34, 20, 23, 22, 23, 34, 25, 28, 27, 28, 34, 30, 33, 32, 33, 34, 35]) (i := 4) (oi := ⟨some 21, Op.move (Operand.tmp 1), 3, _, _, none⟩) (v := ?vq4) (by kernel_rfl) rfl (by decide) (by kernel_rfl) (by kernel_rfl) (by kernel_rfl) (fun _ _ _ h => h) (Or.inl ⟨by rfl, fun W hW => ?_⟩) (by assumption) ?_
  rotate_left
  · go_simp
    with_reducible rfl
  try simp only [Act.put, List.setIfInBounds_toArray, List.set_cons_zero, List.set_cons_succ]
  refine wpG_take (nx := [1, 2, 3, 35, 6, 6, 35, 34, 34, 10, 13, 12, 13, 34, 15, 18, 17, 18, 34, 20, 23, 22, 23, 34, 25, 28, 27, 28, 34, 30, 33, 32, 33, 34, 35]) (i := 5) (oi := ⟨some 22, Op.move (Operand.tmp 2), 3, _, _, none⟩) (v := ?vq5) (by kernel_rfl) rfl (by decide) (by kernel_rfl) (by kernel_rfl) (by kernel_rfl) (fun _ _ _ h => h) (Or.inl ⟨by rfl, fun W hW => ?_⟩) (by assumption) ?_
  rotate_left
  · go_simp
    with_reducible rfl
  try simp only [Act.put, List.setIfInBounds_toArray, List.set_cons_zero, List.set_cons_succ]
  refine wpG_take (nx := [1, 2, 3, 35, 6, 6, 35, 34, 34, 10, 13, 12, 13, 34, 15, 18, 17, 18, 34, 20, 23, 22, 23, 34, 25, 28, 27, 28, 34, 30, 33, 32, 33, 34, 35]) (i := 6) (oi := ⟨some 23, Op.build 104 #[(0, Operand.tmp 21), (1, Operand.tmp 22)], 104, _, _, none⟩) (v := .agg #[.int .i64 l, .int .i64 i]) (by kernel_rfl) rfl (by decide) (by kernel_rfl) (by kernel_rfl) (by kernel_rfl) (fun _ _ _ h => h) (Or.inl ⟨by rfl, fun W hW => ?_⟩) (by assumption) ?_
  · go_simp
  try simp only [Act.put, List.setIfInBounds_toArray, List.set_cons_zero, List.set_cons_succ]
  refine wpG_take (nx := [1, 2, 3, 35, 6, 6, 35, 34, 34, 10, 13, 12, 13, 34, 15, 18, 17, 18, 34, 20, 23, 22, 23, 34, 25, 28, 27, 28, 34, 30, 33, 32, 33, 34, 35]) (i := 7) (oi := ⟨some 24, Op.move (Operand.tmp 1), 3, _, _, none⟩) (v := ?vq6) (by kernel_rfl) rfl (by decide) (by kernel_rfl) (by kernel_rfl) (by kernel_rfl) (fun _ _ _ h => h) (Or.inl ⟨by rfl, fun W hW => ?_⟩) (by assumption) ?_
  rotate_left
  · go_simp
    with_reducible rfl
  try simp only [Act.put, List.setIfInBounds_toArray, List.set_cons_zero, List.set_cons_succ]
  refine wpG_take (nx := [1, 2, 3, 35, 6, 6, 35, 34, 34, 10, 13, 12, 13, 34, 15, 18, 17, 18, 34, 20, 23, 22, 23, 34, 25, 28, 27, 28, 34, 30, 33, 32, 33, 34, 35]) (i := 8) (oi := ⟨some 25, Op.move (Operand.tmp 2), 3, _, _, none⟩) (v := ?vq7) (by kernel_rfl) rfl (by decide) (by kernel_rfl) (by kernel_rfl) (by kernel_rfl) (fun _ _ _ h => h) (Or.inl ⟨by rfl, fun W hW => ?_⟩) (by assumption) ?_
  rotate_left
  · go_simp
    with_reducible rfl
  try simp only [Act.put, List.setIfInBounds_toArray, List.set_cons_zero, List.set_cons_succ]
  refine wpG_take (nx := [1, 2, 3, 35, 6, 6, 35, 34, 34, 10, 13, 12, 13, 34, 15, 18, 17, 18, 34, 20, 23, 22, 23, 34, 25, 28, 27, 28, 34, 30, 33, 32, 33, 34, 35]) (i := 9) (oi := ⟨some 26, Op.fieldAddr 84 (Operand.tmp 8) 2, 0, _, _, none⟩) (v := ?vq8) (by kernel_rfl) rfl (by decide) (by kernel_rfl) (by kernel_rfl) (by kernel_rfl) (fun _ _ _ h => h) (Or.inl ⟨by rfl, fun W hW => ?_⟩) (by assumption) ?_
  rotate_left
  · go_simp
    with_reducible rfl
  try simp only [Act.put, List.setIfInBounds_toArray, List.set_cons_zero, List.set_cons_succ]
  refine wpG_take (nx := [1, 2, 3, 35, 6, 6, 35, 34, 34, 10, 13, 12, 13, 34, 15, 18, 17, 18, 34, 20, 23, 22, 23, 34, 25, 28, 27, 28, 34, 30, 33, 32, 33, 34, 35]) (i := 10) (oi := ⟨some 27, Op.load 3 (Operand.tmp 26), 3, _, _, none⟩) (v := .int .i64 c.runs) (by kernel_rfl) rfl (by decide) (by kernel_rfl) (by kernel_rfl) (by kernel_rfl) (fun _ _ _ h => h) (Or.inl ⟨by rfl, fun W hW => ?_⟩) (by assumption) ?_
  · (have a0 := hW.2.2.1.cell 2; clear hW; go_simp)
  try simp only [Act.put, List.setIfInBounds_toArray, List.set_cons_zero, List.set_cons_succ]
  refine wpG_take (nx := [1, 2, 3, 35, 6, 6, 35, 34, 34, 10, 13, 12, 13, 34, 15, 18, 17, 18, 34, 20, 23, 22, 23, 34, 25, 28, 27, 28, 34, 30, 33, 32, 33, 34, 35]) (i := 11) (oi := ⟨some 28, Op.fieldAddr 84 (Operand.tmp 7) 2, 0, _, _, none⟩) (v := ?vq9) (by kernel_rfl) rfl (by decide) (by kernel_rfl) (by kernel_rfl) (by kernel_rfl) (fun _ _ _ h => h) (Or.inl ⟨by rfl, fun W hW => ?_⟩) (by assumption) ?_
  rotate_left
  · go_simp
    with_reducible rfl
  try simp only [Act.put, List.setIfInBounds_toArray, List.set_cons_zero, List.set_cons_succ]
  refine wpG_take (nx := [1, 2, 3, 35, 6, 6, 35, 34, 34, 10, 13, 12, 13, 34, 15, 18, 17, 18, 34, 20, 23, 22, 23, 34, 25, 28, 27, 28, 34, 30, 33, 32, 33, 34, 35]) (i := 12) (oi := ⟨some 29, Op.load 3 (Operand.tmp 28), 3, _, _, none⟩) (v := .int .i64 ad.runs) (by kernel_rfl) rfl (by decide) (by kernel_rfl) (by kernel_rfl) (by kernel_rfl) (fun _ _ _ h => h) (Or.inl ⟨by rfl, fun W hW => ?_⟩) (by assumption) ?_
  · (have a0 := hW.2.1.cell 2; clear hW; go_simp)
  try simp only [Act.put, List.setIfInBounds_toArray, List.set_cons_zero, List.set_cons_succ]
  refine wpG_take (nx := [1, 2, 3, 35, 6, 6, 35, 34, 34, 10, 13, 12, 13, 34, 15, 18, 17, 18, 34, 20, 23, 22, 23, 34, 25, 28, 27, 28, 34, 30, 33, 32, 33, 34, 35]) (i := 13) (oi := ⟨some 30, Op.binOp BinOp.add 3 (Operand.tmp 27) (Operand.tmp 29) 3, 3, _, _, none⟩) (v := .int .i64 (c.runs + ad.runs)) (by kernel_rfl) rfl (by decide) (by kernel_rfl) (by kernel_rfl) (by kernel_rfl) (fun _ _ _ h => h) (Or.inl ⟨by rfl, fun W hW => ?_⟩) (by assumption) ?_
  · (go_simp; exact IntWalk.i64_in _ (by omega))
  try simp only [Act.put, List.setIfInBounds_toArray, List.set_cons_zero, List.set_cons_succ]
  refine wpG_take (nx := [1, 2, 3, 35, 6, 6, 35, 34, 34, 10, 13, 12, 13, 34, 15, 18, 17, 18, 34, 20, 23, 22, 23, 34, 25, 28, 27, 28, 34, 30, 33, 32, 33, 34, 35]) (i := 14) (oi := ⟨some 31, Op.fieldAddr 84 (Operand.tmp 8) 3, 0, _, _, none⟩) (v := ?vq10) (by kernel_rfl) rfl (by decide) (by kernel_rfl) (by kernel_rfl) (by kernel_rfl) (fun _ _ _ h => h) (Or.inl ⟨by rfl, fun W hW => ?_⟩) (by assumption) ?_
  rotate_left
  · go_simp
    with_reducible rfl
  try simp only [Act.put, List.setIfInBounds_toArray, List.set_cons_zero, List.set_cons_succ]
  refine wpG_take (nx := [1, 2, 3, 35, 6, 6, 35, 34, 34, 10, 13, 12, 13, 34, 15, 18, 17, 18, 34, 20, 23, 22, 23, 34, 25, 28, 27, 28, 34, 30, 33, 32, 33, 34, 35]) (i := 15) (oi := ⟨some 32, Op.load 3 (Operand.tmp 31), 3, _, _, none⟩) (v := .int .i64 c.com) (by kernel_rfl) rfl (by decide) (by kernel_rfl) (by kernel_rfl) (by kernel_rfl) (fun _ _ _ h => h) (Or.inl ⟨by rfl, fun W hW => ?_⟩) (by assumption) ?_
  · (have a0 := hW.2.2.1.cell 3; clear hW; go_simp)
  try simp only [Act.put, List.setIfInBounds_toArray, List.set_cons_zero, List.set_cons_succ]
  refine wpG_take (nx := [1, 2, 3, 35, 6, 6, 35, 34, 34, 10, 13, 12, 13, 34, 15, 18, 17, 18, 34, 20, 23, 22, 23, 34, 25, 28, 27, 28, 34, 30, 33, 32, 33, 34, 35]) (i := 16) (oi := ⟨some 33, Op.fieldAddr 84 (Operand.tmp 7) 3, 0, _, _, none⟩) (v := ?vq11) (by kernel_rfl) rfl (by decide) (by kernel_rfl) (by kernel_rfl) (by kernel_rfl) (fun _ _ _ h => h) (Or.inl ⟨by rfl, fun W hW => ?_⟩) (by assumption) ?_
  rotate_left
  · go_simp
    with_reducible rfl
  try simp only [Act.put, List.setIfInBounds_toArray, List.set_cons_zero, List.set_cons_succ]
  refine wpG_take (nx := [1, 2, 3, 35, 6, 6, 35, 34, 34, 10, 13, 12, 13, 34, 15, 18, 17, 18, 34, 20, 23, 22, 23, 34, 25, 28, 27, 28, 34, 30, 33, 32, 33, 34, 35]) (i := 17) (oi := ⟨some 34, Op.load 3 (Operand.tmp 33), 3, _, _, none⟩) (v := .int .i64 ad.com) (by kernel_rfl) rfl (by decide) (by kernel_rfl) (by kernel_rfl) (by kernel_rfl) (fun _ _ _ h => h) (Or.inl ⟨by rfl, fun W hW => ?_⟩) (by assumption) ?_
  · (have a0 := hW.2.1.cell 3; clear hW; go_simp)
  try simp only [Act.put, List.setIfInBounds_toArray, List.set_cons_zero, List.set_cons_succ]
  refine wpG_take (nx := [1, 2, 3, 35, 6, 6, 35, 34, 34, 10, 13, 12, 13, 34, 15, 18, 17, 18, 34, 20, 23, 22, 23, 34, 25, 28, 27, 28, 34, 30, 33, 32, 33, 34, 35]) (i := 18) (oi := ⟨some 35, Op.binOp BinOp.add 3 (Operand.tmp 32) (Operand.tmp 34) 3, 3, _, _, none⟩) (v := .int .i64 (c.com + ad.com)) (by kernel_rfl) rfl (by decide) (by kernel_rfl) (by kernel_rfl) (by kernel_rfl) (fun _ _ _ h => h) (Or.inl ⟨by rfl, fun W hW => ?_⟩) (by assumption) ?_
  · (go_simp; exact IntWalk.i64_in _ (by omega))
  try simp only [Act.put, List.setIfInBounds_toArray, List.set_cons_zero, List.set_cons_succ]
  refine wpG_take (nx := [1, 2, 3, 35, 6, 6, 35, 34, 34, 10, 13, 12, 13, 34, 15, 18, 17, 18, 34, 20, 23, 22, 23, 34, 25, 28, 27, 28, 34, 30, 33, 32, 33, 34, 35]) (i := 19) (oi := ⟨some 36, Op.fieldAddr 84 (Operand.tmp 8) 4, 0, _, _, none⟩) (v := ?vq12) (by kernel_rfl) rfl (by decide) (by kernel_rfl) (by kernel_rfl) (by kernel_rfl) (fun _ _ _ h => h) (Or.inl ⟨by rfl, fun W hW => ?_⟩) (by assumption) ?_
  rotate_left
  · go_simp
    with_reducible rfl
  try simp only [Act.put, List.setIfInBounds_toArray, List.set_cons_zero, List.set_cons_succ]
  refine wpG_take (nx := [1, 2, 3, 35, 6, 6, 35, 34, 34, 10, 13, 12, 13, 34, 15, 18, 17, 18, 34, 20, 23, 22, 23, 34, 25, 28, 27, 28, 34, 30, 33, 32, 33, 34, 35]) (i := 20) (oi := ⟨some 37, Op.load 3 (Operand.tmp 36), 3, _, _, none⟩) (v := .int .i64 c.con) (by kernel_rfl) rfl (by decide) (by kernel_rfl) (by kernel_rfl) (by kernel_rfl) (fun _ _ _ h => h) (Or.inl ⟨by rfl, fun W hW => ?_⟩) (by assumption) ?_
  · (have a0 := hW.2.2.1.cell 4; clear hW; go_simp)
  try simp only [Act.put, List.setIfInBounds_toArray, List.set_cons_zero, List.set_cons_succ]
  refine wpG_take (nx := [1, 2, 3, 35, 6, 6, 35, 34, 34, 10, 13, 12, 13, 34, 15, 18, 17, 18, 34, 20, 23, 22, 23, 34, 25, 28, 27, 28, 34, 30, 33, 32, 33, 34, 35]) (i := 21) (oi := ⟨some 38, Op.fieldAddr 84 (Operand.tmp 7) 4, 0, _, _, none⟩) (v := ?vq13) (by kernel_rfl) rfl (by decide) (by kernel_rfl) (by kernel_rfl) (by kernel_rfl) (fun _ _ _ h => h) (Or.inl ⟨by rfl, fun W hW => ?_⟩) (by assumption) ?_
  rotate_left
  · go_simp
    with_reducible rfl
  try simp only [Act.put, List.setIfInBounds_toArray, List.set_cons_zero, List.set_cons_succ]
  refine wpG_take (nx := [1, 2, 3, 35, 6, 6, 35, 34, 34, 10, 13, 12, 13, 34, 15, 18, 17, 18, 34, 20, 23, 22, 23, 34, 25, 28, 27, 28, 34, 30, 33, 32, 33, 34, 35]) (i := 22) (oi := ⟨some 39, Op.load 3 (Operand.tmp 38), 3, _, _, none⟩) (v := .int .i64 ad.con) (by kernel_rfl) rfl (by decide) (by kernel_rfl) (by kernel_rfl) (by kernel_rfl) (fun _ _ _ h => h) (Or.inl ⟨by rfl, fun W hW => ?_⟩) (by assumption) ?_
  · (have a0 := hW.2.1.cell 4; clear hW; go_simp)
  try simp only [Act.put, List.setIfInBounds_toArray, List.set_cons_zero, List.set_cons_succ]
  refine wpG_take (nx := [1, 2, 3, 35, 6, 6, 35, 34, 34, 10, 13, 12, 13, 34, 15, 18, 17, 18, 34, 20, 23, 22, 23, 34, 25, 28, 27, 28, 34, 30, 33, 32, 33, 34, 35]) (i := 23) (oi := ⟨some 40, Op.binOp BinOp.add 3 (Operand.tmp 37) (Operand.tmp 39) 3, 3, _, _, none⟩) (v := .int .i64 (c.con + ad.con)) (by kernel_rfl) rfl (by decide) (by kernel_rfl) (by kernel_rfl) (by kernel_rfl) (fun _ _ _ h => h) (Or.inl ⟨by rfl, fun W hW => ?_⟩) (by assumption) ?_
  · (go_simp; exact IntWalk.i64_in _ (by omega))
  try simp only [Act.put, List.setIfInBounds_toArray, List.set_cons_zero, List.set_cons_succ]
  refine wpG_take (nx := [1, 2, 3, 35, 6, 6, 35, 34, 34, 10, 13, 12, 13, 34, 15, 18, 17, 18, 34, 20, 23, 22, 23, 34, 25, 28, 27, 28, 34, 30, 33, 32, 33, 34, 35]) (i := 24) (oi := ⟨some 41, Op.fieldAddr 84 (Operand.tmp 8) 5, 0, _, _, none⟩) (v := ?vq14) (by kernel_rfl) rfl (by decide) (by kernel_rfl) (by kernel_rfl) (by kernel_rfl) (fun _ _ _ h => h) (Or.inl ⟨by rfl, fun W hW => ?_⟩) (by assumption) ?_
  rotate_left
  · go_simp
    with_reducible rfl
  try simp only [Act.put, List.setIfInBounds_toArray, List.set_cons_zero, List.set_cons_succ]
  refine wpG_take (nx := [1, 2, 3, 35, 6, 6, 35, 34, 34, 10, 13, 12, 13, 34, 15, 18, 17, 18, 34, 20, 23, 22, 23, 34, 25, 28, 27, 28, 34, 30, 33, 32, 33, 34, 35]) (i := 25) (oi := ⟨some 42, Op.load 3 (Operand.tmp 41), 3, _, _, none⟩) (v := .int .i64 c.drp) (by kernel_rfl) rfl (by decide) (by kernel_rfl) (by kernel_rfl) (by kernel_rfl) (fun _ _ _ h => h) (Or.inl ⟨by rfl, fun W hW => ?_⟩) (by assumption) ?_
  · (have a0 := hW.2.2.1.cell 5; clear hW; go_simp)
  try simp only [Act.put, List.setIfInBounds_toArray, List.set_cons_zero, List.set_cons_succ]
  refine wpG_take (nx := [1, 2, 3, 35, 6, 6, 35, 34, 34, 10, 13, 12, 13, 34, 15, 18, 17, 18, 34, 20, 23, 22, 23, 34, 25, 28, 27, 28, 34, 30, 33, 32, 33, 34, 35]) (i := 26) (oi := ⟨some 43, Op.fieldAddr 84 (Operand.tmp 7) 5, 0, _, _, none⟩) (v := ?vq15) (by kernel_rfl) rfl (by decide) (by kernel_rfl) (by kernel_rfl) (by kernel_rfl) (fun _ _ _ h => h) (Or.inl ⟨by rfl, fun W hW => ?_⟩) (by assumption) ?_
  rotate_left
  · go_simp
    with_reducible rfl
  try simp only [Act.put, List.setIfInBounds_toArray, List.set_cons_zero, List.set_cons_succ]
  refine wpG_take (nx := [1, 2, 3, 35, 6, 6, 35, 34, 34, 10, 13, 12, 13, 34, 15, 18, 17, 18, 34, 20, 23, 22, 23, 34, 25, 28, 27, 28, 34, 30, 33, 32, 33, 34, 35]) (i := 27) (oi := ⟨some 44, Op.load 3 (Operand.tmp 43), 3, _, _, none⟩) (v := .int .i64 ad.drp) (by kernel_rfl) rfl (by decide) (by kernel_rfl) (by kernel_rfl) (by kernel_rfl) (fun _ _ _ h => h) (Or.inl ⟨by rfl, fun W hW => ?_⟩) (by assumption) ?_
  · (have a0 := hW.2.1.cell 5; clear hW; go_simp)
  try simp only [Act.put, List.setIfInBounds_toArray, List.set_cons_zero, List.set_cons_succ]
  refine wpG_take (nx := [1, 2, 3, 35, 6, 6, 35, 34, 34, 10, 13, 12, 13, 34, 15, 18, 17, 18, 34, 20, 23, 22, 23, 34, 25, 28, 27, 28, 34, 30, 33, 32, 33, 34, 35]) (i := 28) (oi := ⟨some 45, Op.binOp BinOp.add 3 (Operand.tmp 42) (Operand.tmp 44) 3, 3, _, _, none⟩) (v := .int .i64 (c.drp + ad.drp)) (by kernel_rfl) rfl (by decide) (by kernel_rfl) (by kernel_rfl) (by kernel_rfl) (fun _ _ _ h => h) (Or.inl ⟨by rfl, fun W hW => ?_⟩) (by assumption) ?_
  · (go_simp; exact IntWalk.i64_in _ (by omega))
  try simp only [Act.put, List.setIfInBounds_toArray, List.set_cons_zero, List.set_cons_succ]
  refine wpG_take (nx := [1, 2, 3, 35, 6, 6, 35, 34, 34, 10, 13, 12, 13, 34, 15, 18, 17, 18, 34, 20, 23, 22, 23, 34, 25, 28, 27, 28, 34, 30, 33, 32, 33, 34, 35]) (i := 29) (oi := ⟨some 46, Op.fieldAddr 84 (Operand.tmp 8) 6, 0, _, _, none⟩) (v := ?vq16) (by kernel_rfl) rfl (by decide) (by kernel_rfl) (by kernel_rfl) (by kernel_rfl) (fun _ _ _ h => h) (Or.inl ⟨by rfl, fun W hW => ?_⟩) (by assumption) ?_
  rotate_left
  · go_simp
    with_reducible rfl
  try simp only [Act.put, List.setIfInBounds_toArray, List.set_cons_zero, List.set_cons_succ]
  refine wpG_take (nx := [1, 2, 3, 35, 6, 6, 35, 34, 34, 10, 13, 12, 13, 34, 15, 18, 17, 18, 34, 20, 23, 22, 23, 34, 25, 28, 27, 28, 34, 30, 33, 32, 33, 34, 35]) (i := 30) (oi := ⟨some 47, Op.load 3 (Operand.tmp 46), 3, _, _, none⟩) (v := .int .i64 c.str) (by kernel_rfl) rfl (by decide) (by kernel_rfl) (by kernel_rfl) (by kernel_rfl) (fun _ _ _ h => h) (Or.inl ⟨by rfl, fun W hW => ?_⟩) (by assumption) ?_
  · (have a0 := hW.2.2.1.cell 6; clear hW; go_simp)
  try simp only [Act.put, List.setIfInBounds_toArray, List.set_cons_zero, List.set_cons_succ]
  refine wpG_take (nx := [1, 2, 3, 35, 6, 6, 35, 34, 34, 10, 13, 12, 13, 34, 15, 18, 17, 18, 34, 20, 23, 22, 23, 34, 25, 28, 27, 28, 34, 30, 33, 32, 33, 34, 35]) (i := 31) (oi := ⟨some 48, Op.fieldAddr 84 (Operand.tmp 7) 6, 0, _, _, none⟩) (v := ?vq17) (by kernel_rfl) rfl (by decide) (by kernel_rfl) (by kernel_rfl) (by kernel_rfl) (fun _ _ _ h => h) (Or.inl ⟨by rfl, fun W hW => ?_⟩) (by assumption) ?_
  rotate_left
  · go_simp
    with_reducible rfl
  try simp only [Act.put, List.setIfInBounds_toArray, List.set_cons_zero, List.set_cons_succ]
  refine wpG_take (nx := [1, 2, 3, 35, 6, 6, 35, 34, 34, 10, 13, 12, 13, 34, 15, 18, 17, 18, 34, 20, 23, 22, 23, 34, 25, 28, 27, 28, 34, 30, 33, 32, 33, 34, 35]) (i := 32) (oi := ⟨some 49, Op.load 3 (Operand.tmp 48), 3, _, _, none⟩) (v := .int .i64 ad.str) (by kernel_rfl) rfl (by decide) (by kernel_rfl) (by kernel_rfl) (by kernel_rfl) (fun _ _ _ h => h) (Or.inl ⟨by rfl, fun W hW => ?_⟩) (by assumption) ?_
  · (have a0 := hW.2.1.cell 6; clear hW; go_simp)
  try simp only [Act.put, List.setIfInBounds_toArray, List.set_cons_zero, List.set_cons_succ]
  refine wpG_take (nx := [1, 2, 3, 35, 6, 6, 35, 34, 34, 10, 13, 12, 13, 34, 15, 18, 17, 18, 34, 20, 23, 22, 23, 34, 25, 28, 27, 28, 34, 30, 33, 32, 33, 34, 35]) (i := 33) (oi := ⟨some 50, Op.binOp BinOp.add 3 (Operand.tmp 47) (Operand.tmp 49) 3, 3, _, _, none⟩) (v := .int .i64 (c.str + ad.str)) (by kernel_rfl) rfl (by decide) (by kernel_rfl) (by kernel_rfl) (by kernel_rfl) (fun _ _ _ h => h) (Or.inl ⟨by rfl, fun W hW => ?_⟩) (by assumption) ?_
  · (go_simp; exact IntWalk.i64_in _ (by omega))
  try simp only [Act.put, List.setIfInBounds_toArray, List.set_cons_zero, List.set_cons_succ]
  refine wpG_take (nx := [1, 2, 3, 35, 6, 6, 35, 34, 34, 10, 13, 12, 13, 34, 15, 18, 17, 18, 34, 20, 23, 22, 23, 34, 25, 28, 27, 28, 34, 30, 33, 32, 33, 34, 35]) (i := 34) (oi := ⟨some 51, Op.build 84 #[(0, Operand.tmp 24), (1, Operand.tmp 25), (2, Operand.tmp 30), (3, Operand.tmp 35), (4, Operand.tmp 40), (5, Operand.tmp 45), (6, Operand.tmp 50)], 84, _, _, none⟩) (v := .agg #[.int .i64 l, .int .i64 i, .int .i64 (c.runs + ad.runs), .int .i64 (c.com + ad.com), .int .i64 (c.con + ad.con), .int .i64 (c.drp + ad.drp), .int .i64 (c.str + ad.str)]) (by kernel_rfl) rfl (by decide) (by kernel_rfl) (by kernel_rfl) (by kernel_rfl) (fun _ _ _ h => h) (Or.inl ⟨by rfl, fun W hW => ?_⟩) (by assumption) ?_
  · go_simp
  try simp only [Act.put, List.setIfInBounds_toArray, List.set_cons_zero, List.set_cons_succ]
  refine wpG_ready (rs := [35]) (by kernel_rfl) (by simp) ?_
  refine AllG.last (o := ⟨none, Op.mapUpdate 59 (Operand.tmp 20) (Operand.tmp 23) (Operand.tmp 51), 0, _, _, none⟩) rfl (fun KK hKK => ?_)
  refine step_updG (S := kP) (E := eC) rfl _ _ _ 59 rfl Tryz.underlying59 cm n g (by first | (simp [Act.eval]; done) | (simp [Act.eval, Act.put]; done)) (HS.out _ K0).2.2.2 hn (l, i) ⟨l, i, c.runs + ad.runs, c.com + ad.com, c.con + ad.con, c.drp + ad.drp, c.str + ad.str⟩ (show _ = Value.agg #[.int .i64 l, .int .i64 i] by first | (simp [Act.eval]; done) | (simp [Act.eval, Act.put]; done)) (show _ = Value.agg #[.int .i64 l, .int .i64 i, .int .i64 (c.runs + ad.runs), .int .i64 (c.com + ad.com), .int .i64 (c.con + ad.con), .int .i64 (c.drp + ad.drp), .int .i64 (c.str + ad.str)] by first | (simp [Act.eval]; done) | (simp [Act.eval, Act.put]; done)) hok ?_
  intro W18 mo19 k20
  have K9 : Keeps [cm] w W18 := (K0.mono (by simp)).trans k20 (by simp)
  refine hKK.out _ _ ?_
  clear hKK KK
  try simp only [Act.put, List.setIfInBounds_toArray, List.set_cons_zero, List.set_cons_succ]
  refine wpG_done (by kernel_rfl) ?_ _
  refine NoPanic.normal ?_
  exact hK _ _ _ _ _ _ _ _ _ _ _ _ _ _ _ _ _ _ _ _ _ _ _ _ _ _ _ _ _ _ _ _ _ _ _ _ mo19 K9
end Go.Proofs.YtcopjjokhjealaaGreat
namespace Go.Proofs.YtcopjjokhjealaaGreat
open Go.RowKit

def zC : Ct := ⟨0, 0, 0, 0, 0, 0, 0⟩
def cntOf (g : Int × Int → Option Ct) (l i : Int) : Ct := (g (l, i)).getD zC
def addC (l i : Int) (c ad : Ct) : Ct := ⟨l, i, c.runs + ad.runs, c.com + ad.com, c.con + ad.con, c.drp + ad.drp, c.str + ad.str⟩
structure OkC (c : Ct) : Prop where
  b0 : 0 ≤ c.runs ∧ c.runs ≤ 1000000
  b1 : 0 ≤ c.com ∧ c.com ≤ 1000000
  b2 : 0 ≤ c.con ∧ c.con ≤ 1000000
  b3 : 0 ≤ c.drp ∧ c.drp ≤ 1000000
  b4 : 0 ≤ c.str ∧ c.str ≤ 1000000
set_option maxRecDepth 1000000 in
set_option maxHeartbeats 6400000 in
theorem count_any (w : World) (p cm n : Nat) (g : Int × Int → Option Ct) (l i : Int) (ad : Ct) (hp : w.cell? ⟨p, 2, none⟩ = some (.map (some cm))) (hm : GMap kP eC w cm n g) (hn : n < maxLen) (hok : kP.ok (l, i))
    (hc : OkC (cntOf g l i)) (hd : OkC ad) :
    Calls Tryz.prog 49 #[.pointer (some ⟨p, 0, none⟩), .int .i64 l, .int .i64 i, .agg #[.int .i64 ad.l, .int .i64 ad.i, .int .i64 ad.runs, .int .i64 ad.com, .int .i64 ad.con, .int .i64 ad.drp, .int .i64 ad.str]] w fun e w' =>
      e = .returned (.tuple #[]) ∧ GMap kP eC w' cm (n + 1) (updG g (l, i) (some (addC l i (cntOf g l i) ad))) ∧ Keeps [cm] w w' := by
  have np := lt_of_cell hp
  have nc := hm.lt
  obtain ⟨w1, hw1⟩ : ∃ w1, w.alloc (.cells #[.int .i64 ad.l, .int .i64 ad.i, .int .i64 ad.runs, .int .i64 ad.com, .int .i64 ad.con, .int .i64 ad.drp, .int .i64 ad.str] 84) = w1 := ⟨_, rfl⟩
  have k1 : Keeps [] w w1 := by rw [← hw1]; exact (Keeps.refl [] w).alloc _
  have ba : Blk w1 w.heap.size 84 #[.int .i64 ad.l, .int .i64 ad.i, .int .i64 ad.runs, .int .i64 ad.com, .int .i64 ad.con, .int .i64 ad.drp, .int .i64 ad.str] := by rw [← hw1]; exact Blk.new _ _ _
  have f2 : w1.cell? ⟨p, 2, none⟩ = some (.map (some cm)) := (k1.cell (p := ⟨p, 2, none⟩) np (by simp)).trans hp
  have hm1 := hm.keep k1 (by simp)
  have hl := hm1.look1 hok Tryz.underlying59 (zero36 w1)
  have hlook : (Instr.lookup 59 (.map (some cm)) (.agg #[.int .i64 l, .int .i64 i]) false).run Tryz.prog w1 = .ok (eC.val (cntOf g l i)) w1 := by
    have e : ((g (l, i)).map eC.val).getD (.agg #[.int .i64 0, .int .i64 0, .int .i64 0, .int .i64 0, .int .i64 0, .int .i64 0, .int .i64 0]) = eC.val (cntOf g l i) := by
      unfold cntOf
      cases g (l, i) <;> rfl
    rw [e] at hl
    exact hl
  obtain ⟨c, hcc⟩ : ∃ c, cntOf g l i = c := ⟨_, rfl⟩
  rw [hcc] at hlook hc
  rw [hcc]
  have hlook2 : (Instr.lookup 59 (.map (some cm)) (.agg #[.int .i64 l, .int .i64 i]) false).run Tryz.prog w1 = .ok (.agg #[.int .i64 c.l, .int .i64 c.i, .int .i64 c.runs, .int .i64 c.com, .int .i64 c.con, .int .i64 c.drp, .int .i64 c.str]) w1 := hlook
  have HM := Lib.hid hm1
  have BA := Lib.hid ba
  have K1 := Lib.hid k1
  have HOK := Lib.hid hok
  have HC := Lib.hid hc
  have HD := Lib.hid hd
  have HP := Lib.hid f2
  clear hl hlook hm hm1 ba k1 hcc hok hc hd hp
  go_enter Tryz.func49, Tryz.ntmps49
  go_wp2_with fail
  have KA : Hid (Keeps [] w1 (w1.alloc (.cells #[.int .i64 c.l, .int .i64 c.i, .int .i64 c.runs, .int .i64 c.com, .int .i64 c.con, .int .i64 c.drp, .int .i64 c.str] 84))) := Lib.hid ((Keeps.refl [] w1).alloc _)
  have BC := Lib.hid (Blk.new w1 84 #[.int .i64 c.l, .int .i64 c.i, .int .i64 c.runs, .int .i64 c.com, .int .i64 c.con, .int .i64 c.drp, .int .i64 c.str])
  have hpl : p < w1.heap.size := lt_of_cell f2
  refine cnt2_any _ p w.heap.size w1.heap.size cm n l i c ad g _ (fun W k => ⟨?_, BA.out.keep (KA.out.trans k (by simp)) (by simp), BC.out.keep k (by simp), HM.out.keep (KA.out.trans k (by simp)) (by simp)⟩) hn HOK.out HC.out.b0 HD.out.b0 HC.out.b1 HD.out.b1 HC.out.b2 HD.out.b2 HC.out.b3 HD.out.b3 HC.out.b4 HD.out.b4 _ _ _ _ _ _ _ _ _ _ _ _ _ _ _ _ _ _ _ _ _ _ _ _ _ _ _ _ _ _ _ _ _ _ _ _ _ _ _ _ _ _ _ _ _ _ _ ?_
  · exact ((KA.out.trans k (by simp)).cell (p := ⟨p, 2, none⟩) hpl (by simp)).trans HP.out
  intro v17 v18 v19 v20 v21 v22 v23 v24 v25 v26 v27 v28 v29 v30 v31 v32 v33 v34 v35 v36 v37 v38 v39 v40 v41 v42 v43 v44 v45 v46 v47 v48 v49 v50 v51 W hg kW
  have HG := Lib.hid hg
  have KW : Hid (Keeps [cm] w W) := Lib.hid (((K1.out.trans KA.out (by simp)).mono (by simp)).trans kW (by simp))
  clear hg kW
  go_wp2_with fail
  go_end0
  exact ⟨rfl, HG.out, KW.out⟩
end Go.Proofs.YtcopjjokhjealaaGreat
namespace Go.Proofs.YtcopjjokhjealaaGreat
open Go.RowKit

/-- A line. -/
structure Ln where
  par : Int
  pid : Int
  it : List Int
/-- A planner. -/
structure Pl where
  ln : Int → Option Ln
  li : List Rn
  ct : Int × Int → Option Ct
/-- Block g holds numbers. -/
def IntRow (w : World) (g : Nat) : Prop := ∃ cs fr, w.heap[g]? = some (.cells cs 3 fr)
def zs (L : List Int) : List Value := L.map (fun x => .int .i64 x)
/-- What the map holds is the line. -/
def LnAt (w : World) (x : Int) (v : LnV) (n : Ln) : Prop :=
  v.id = x ∧ v.par = n.par ∧ v.pid = n.pid ∧ v.n = n.it.length ∧ w.ownsRow 0 3 1 (.slice (v.b.map fun g => ⟨g, 0, none⟩) n.it.length v.c) n.it.length (zs n.it)
def LsAt (w : World) (f : Int → Option LnV) (s : Int → Option Ln) : Prop := ∀ x, (f x = none ∧ s x = none) ∨ ∃ v n, f x = some v ∧ s x = some n ∧ LnAt w x v n
structure PlAt (w : World) (F : List Nat) (p : Nat) (s : Pl) (lm cm nl nc : Nat) (A : Option Addr) (c : Nat) (f : Int → Option LnV) : Prop where
  fF : F = p :: lm :: cm :: fp (.slice A s.li.length c)
  b : Blk w p 61 #[.map (some lm), .slice A s.li.length c, .map (some cm)]
  ml : GMap kI eL w lm nl f
  mc : GMap kP eC w cm nc s.ct
  lc : lm ≠ cm
  o : w.ownsRow 0 69 4 (.slice A s.li.length c) s.li.length (rw rcs s.li)
  ls : LsAt w f s.ln
theorem own_int {w : World} {v : Value} {n : Nat} {xs : List Value} (h : w.ownsRow 0 3 1 v n xs) : ∀ g ∈ fp v, IntRow w g := by
  intro g hg
  rcases h.2 with ⟨rfl, _⟩ | ⟨g', cap, cur, rfl, _, hh, _⟩
  · simp at hg
  · simp at hg
    subst hg
    exact ⟨_, _, hh⟩
theorem PlAt.noInt {w : World} {F : List Nat} {p : Nat} {s : Pl} {lm cm nl nc : Nat} {A : Option Addr} {c : Nat} {f : Int → Option LnV} (h : PlAt w F p s lm cm nl nc A c f) : ∀ g ∈ F, ¬ IntRow w g := by
  intro g hg
  rw [h.fF] at hg
  rintro ⟨cs, fr, hr⟩
  rcases List.mem_cons.1 hg with rfl | hg
  · have hb := h.b
    unfold Blk at hb
    rw [hr] at hb
    cases hb
  rcases List.mem_cons.1 hg with rfl | hg
  · obtain ⟨D, ⟨es, clock, hh, _⟩, _⟩ := h.ml
    rw [hr] at hh
    cases hh
  rcases List.mem_cons.1 hg with rfl | hg
  · obtain ⟨D, ⟨es, clock, hh, _⟩, _⟩ := h.mc
    rw [hr] at hh
    cases hh
  rcases h.o.2 with ⟨he, _⟩ | ⟨g', cap, cur, he, _, hh, _⟩
  · rw [he] at hg; simp at hg
  · rw [he] at hg
    simp at hg
    subst hg
    rw [hr] at hh
    cases hh
theorem PlAt.lt {w : World} {F : List Nat} {p : Nat} {s : Pl} {lm cm nl nc : Nat} {A : Option Addr} {c : Nat} {f : Int → Option LnV} (h : PlAt w F p s lm cm nl nc A c f) : ∀ g ∈ F, g < w.heap.size := by
  intro g hg
  rw [h.fF] at hg
  rcases List.mem_cons.1 hg with rfl | hg
  · exact h.b.lt
  rcases List.mem_cons.1 hg with rfl | hg
  · exact h.ml.lt
  rcases List.mem_cons.1 hg with rfl | hg
  · exact h.mc.lt
  exact own_lt h.o hg
theorem LsAt.keep {w w' : World} {G : List Nat} {f : Int → Option LnV} {s : Int → Option Ln} (h : LsAt w f s) (hk : Keeps G w w') (hG : ∀ g ∈ G, ¬ IntRow w g) : LsAt w' f s := by
  intro x
  rcases h x with h | ⟨v, n, h1, h2, h3, h4, h5, h6, h7⟩
  · exact .inl h
  · exact .inr ⟨v, n, h1, h2, h3, h4, h5, h6, own_keep h7 hk (fun g hg hgG => hG g hgG (own_int h7 g hg))⟩
/-- The planner stands while blocks of others are written (none of them one of numbers). -/
theorem PlAt.keep {w w' : World} {F G : List Nat} {p : Nat} {s : Pl} {lm cm nl nc : Nat} {A : Option Addr} {c : Nat} {f : Int → Option LnV} (h : PlAt w F p s lm cm nl nc A c f) (hk : Keeps G w w') (hd : ∀ g ∈ F, g ∉ G) (hG : ∀ g ∈ G, ¬ IntRow w g) : PlAt w' F p s lm cm nl nc A c f := by
  have hf := h.fF
  exact ⟨hf, h.b.keep hk (hd p (by rw [hf]; simp)), h.ml.keep hk (hd lm (by rw [hf]; simp)), h.mc.keep hk (hd cm (by rw [hf]; simp)), h.lc, own_keep h.o hk (fun g hg => hd g (by rw [hf]; simp [hg])), h.ls.keep hk hG⟩
theorem PlAt.keep0 {w w' : World} {F : List Nat} {p : Nat} {s : Pl} {lm cm nl nc : Nat} {A : Option Addr} {c : Nat} {f : Int → Option LnV} (h : PlAt w F p s lm cm nl nc A c f) (hk : Keeps [] w w') : PlAt w' F p s lm cm nl nc A c f :=
  h.keep hk (fun _ _ => by simp) (fun _ hg => by cases hg)
end Go.Proofs.YtcopjjokhjealaaGreat
