/- Texts of the elder seat, turned to this one: W35 W36 W37 W38 W39. -/
import Derived.RangeFuncNested
import Derived.RangeFuncBound
import Derived.RangeFuncCalls
import Derived.RangeFuncLeaves
import Derived.RangeFuncFrom
import Derived.RangeFuncWrites
import Derived.Shelf.Abstract
import Derived.Shelf.RegionOpen
import Derived.WalkKit
import Derived.OwnWalkIn
import Derived.TacticsInMore
import Derived.LoopNIn
import Derived.LoopIn
import Derived.Test.YtcopjjokhjealaaGreatInr
import Derived.Test.YtcopjjokhjealaaGreatM9
namespace Go.Proofs.YtcopjjokhjealaaGreat
open Go.RowKit Go.Shelf
attribute [local go_sem] Oper.semAt_some

/-- What has come when the places from m on are over: from the back. -/
def bk (L : List Rn) (m : Nat) : List (Int × Rn) := ((L.drop m).zipIdx m).reverse.map (fun x => ((x.2 : Int), x.1))
theorem bk_end (L : List Rn) : bk L L.length = [] := by unfold bk; simp
theorem bk_step {L : List Rn} {m : Nat} (h : m < L.length) : bk L m = bk L (m + 1) ++ [((m : Int), L[m])] := by
  unfold bk
  rw [List.drop_eq_getElem_cons h, List.zipIdx_cons, List.reverse_cons, List.map_append]
  rfl
theorem bk_len (L : List Rn) (m : Nat) : (bk L m).length = L.length - m := by unfold bk; simp
/-- What a round keeps: what lay below n₀, and the captured list. -/
def Kb (n₀ Bs : Nat) (A B : World) : Prop := Below n₀ A B ∧ B.heap[Bs]? = A.heap[Bs]?
def encR (x : Int × Rn) : Array Value := #[.int .i64 x.1, .agg #[.int .i64 x.2.l, .int .i64 x.2.i, .int .i64 x.2.t, .bool x.2.d]]
theorem backward_any (w : World) (A : Option Addr) (n c : Nat) : Calls Tryz.prog 39 #[.slice A n c] w fun e w' => e = .returned (.func (.func 64) #[] #[.pointer (some ⟨w.heap.size, 0, none⟩)]) ∧ w' = w.alloc (.cells #[.slice A n c] 58) := by
  go_enter Tryz.func39, Tryz.ntmps39
  go_wp2
  go_ret
  exact ⟨rfl, rfl⟩
set_option maxRecDepth 100000 in
set_option maxHeartbeats 3200000 in
theorem back1_in (n : Nat) (hn : 1 ≤ n) (l Bs n₀ : Nat) (A : Option Addr) (L : List Rn) (c : Nat) (hL : L.length ≤ 1000) (hA : 0 < L.length → ∃ b off, A = some ⟨b, off, none⟩ ∧ b < n₀) (J Jx : List (Int × Rn) → World → Prop)
    (hY : ∀ pre x W, x.2 ∈ L → J pre W → pre.length < L.length → YieldAt Fence.wide (n - 1) Tryz.prog l (encR x) W fun e W' =>
      (e = .returned (.bool true) ∧ J (pre ++ [x]) W' ∧ Kb n₀ Bs W W') ∨ (e = .returned (.bool false) ∧ Jx (pre ++ [x]) W'))
    (W : World) (hBs : W.heap[Bs]? = some (.cells #[.slice A L.length c] 58 (0, 0))) (ha : AtR W A L) (h0 : J [] W) :
    CallsIn Fence.wide n Tryz.prog 64 #[.func (.yield l) #[] #[], .pointer (some ⟨Bs, 0, none⟩)] W fun e W' => (∃ v, e = .returned v) ∧
      ((∃ ys, ys = bk L 0 ∧ J ys W') ∨ (∃ pre, (∃ k, k ≤ L.length ∧ pre = bk L k) ∧ Jx pre W')) := by
  refine callsIn_of_wp Tryz.func64 rfl trivial ?_ rfl
  simp only [Tryz.ntmps64, List.size_toArray, List.length_cons, List.length_nil, Nat.reduceAdd, Nat.reduceSub, Array.replicate_succ, Array.replicate_zero, List.push_toArray, List.append_toArray, List.nil_append, List.cons_append]
  have hb0 : W.cell? ⟨Bs, 0, none⟩ = some (.slice A L.length c) := Blk.cell (w := W) (g := Bs) (t := 58) (cs := #[.slice A L.length c]) hBs 0
  have HBS := Lib.hid hBs
  have HA := Lib.hid ha
  have HAA := Lib.hid hA
  have HY := Lib.hid hY
  clear hBs ha hA hY
  gi_wp2
  gi_loopw [3] (fun i wr => ∃ m : Nat, m ≤ L.length ∧ i = .int .i64 ((m : Int) - 1) ∧ J (bk L m) wr ∧ Kb n₀ Bs W wr) (fun i _ => (intOf i + 1).toNat)
  case atStart => exact ⟨L.length, by omega, by go_num, by rw [bk_end]; exact h0, Below.refl _ _, rfl⟩
  case round =>
    obtain ⟨m, hm, rfl, hJs, hkb⟩ := hrel
    have HJ := Lib.hid hJs
    have HK := Lib.hid hkb
    clear hJs hkb
    have hbr : wr.cell? ⟨Bs, 0, none⟩ = some (.slice A L.length c) := Blk.cell (w := wr) (g := Bs) (t := 58) (cs := #[.slice A L.length c]) (HK.out.2.trans HBS.out) 0
    by_cases hlt : 0 < m
    · obtain ⟨k, rfl⟩ : ∃ k, m = k + 1 := ⟨m - 1, by omega⟩
      have hk : k < L.length := by omega
      obtain ⟨b, off, hAA, hb⟩ := HAA.out (by omega)
      obtain ⟨b', off', hAA', -, hc⟩ := HA.out.at_ (by omega)
      rw [hAA] at hAA'
      obtain ⟨rfl, rfl⟩ : b = b' ∧ off = off' := by injection hAA' with h; injection h with h1 h2; exact ⟨h1, h2⟩
      subst hAA
      obtain ⟨c0, c1, c2, c3⟩ := hc k hk
      have cc : ∀ j u, W.cell? ⟨b, off + k * 4 + j, none⟩ = some u → wr.cell? ⟨b, off + k * 4 + j, none⟩ = some u := fun j u hu => (HK.out.1.cell (p := ⟨b, off + k * 4 + j, none⟩) hb).trans hu
      have d0 := cc 0 _ c0
      have d1 := cc 1 _ c1
      have d2 := cc 2 _ c2
      have d3 := cc 3 _ c3
      rw [Nat.add_zero] at d0
      obtain ⟨fn, tmps, assign, body, hy, hR⟩ := HY.out _ ((k : Int), L[k]) wr (List.getElem_mem hk) HJ.out (by rw [bk_len]; omega)
      have hst := bk_step hk
      obtain ⟨r, hr⟩ : ∃ r, L[k] = r := ⟨_, rfl⟩
      rw [hr] at hst
      simp only [hr] at d0 d1 d2 d3 hy hR
      unfold encR at hy
      dsimp only at hy
      have HR := Lib.hid hR
      have HST := Lib.hid hst
      have i0 : (0 : Int) ≤ (k : Int) := by omega
      have i1 : (k : Int) < (L.length : Int) := by omega
      have ek : ((k + 1 : Nat) : Int) - 1 = (k : Int) := by omega
      rw [ek]
      clear hc c0 c1 c2 c3 cc hst hR HJ hr hAA' ek
      gi_wp2
      refine HR.out.mono ?_
      rintro e W3 (⟨rfl, hJ3, hk3⟩ | ⟨rfl, hJx3⟩)
      · have HJ3 := Lib.hid hJ3
        have HK3 : Hid (Kb n₀ Bs W W3) := Lib.hid ⟨HK.out.1.trans hk3.1, hk3.2.trans HK.out.2⟩
        clear hJ3 hk3 HR HK
        gi_wp2
        go_roundw
        case rel => exact ⟨k, by omega, rfl, by rw [HST.out]; exact HJ3.out, HK3.out⟩
        case measure => simp [intOf]
      · gi_wp2
        refine bodyPost_ret (results_none rfl _ _ _) rfl ?_
        exact ⟨⟨_, rfl⟩, .inr ⟨_, ⟨k, by omega, HST.out.symm⟩, hJx3⟩⟩
    · obtain rfl : m = 0 := by omega
      gi_wp2
      go_end0
      exact ⟨⟨_, rfl⟩, .inl ⟨_, rfl, HJ.out⟩⟩
end Go.Proofs.YtcopjjokhjealaaGreat
namespace Go.Proofs.YtcopjjokhjealaaGreat
open Go.RowKit Go.Shelf

theorem field66 (W : World) (a b c : Int) (A : Option Addr) (n k : Nat) : (Instr.field 56 (.agg #[.int .i64 a, .int .i64 b, .int .i64 c, .slice A n k]) 3).run Tryz.prog W = .ok (.slice A n k) W := by kernel_rfl
def theRegionR (k : Nat) : Code → Option Code
  | .region id ops d => if id == k then some (.region id ops d) else none
  | .seq a b => match theRegionR k a with
    | some c => some c
    | none => theRegionR k b
  | .cond _ a b => match theRegionR k a with
    | some c => some c
    | none => theRegionR k b
  | .block _ c => theRegionR k c
  | .loop c => theRegionR k c
  | .scope c => theRegionR k c
  | .rangeFunc _ _ a b => match theRegionR k a with
    | some c => some c
    | none => theRegionR k b
  | _ => none
noncomputable def vic3aC : Code := ((Tryz.f13.body.bind (theRegionR 3)).getD .skip)
set_option maxRecDepth 1000000 in
set_option maxHeartbeats 3200000 in
set_option linter.unusedSimpArgs false in
theorem vic3a_any (l0 nn : Nat) (w : World) (bp b7 : Nat) (xl xi xt : Int) (xd : Bool) (K : Exit → Act → World → Prop)
    (hS : ∀ W, Keeps [] w W → Blk W b7 69 #[.int .i64 xl, .int .i64 xi, .int .i64 xt, .bool xd]) (hx : xl ≠ 0)
    (u0 u2 u3 u4 u5 u6 u8 u9 u10 u11 u12 u13 u14 u15 u16 u17 u18 u19 u20 u21 u22 u23 u24 u25 u26 u27 u28 u29 u30 u31 u32 u33 u34 u35 u36 : Value)
    (hK : ∀ (v15 v16 v17 v18 v19 v20 v21 v22 v23 v24 v25 v26 v27 v28 v29 : Value) (W : World), Keeps [] w W → K .normal ⟨#[u0, .pointer (some ⟨bp, 0, none⟩), u2, u3, u4, u5, u6, .pointer (some ⟨b7, 0, none⟩), u8, u9, u10, u11, u12, u13, u14, v15, v16, v17, v18, v19, v20, v21, v22, v23, v24, v25, v26, v27, v28, v29, .bool true, u31, u32, u33, u34, u35, u36], []⟩ W) :
    Code.wpIn (Fence.wide.inRound l0) nn Tryz.prog vic3aC K ⟨#[u0, .pointer (some ⟨bp, 0, none⟩), u2, u3, u4, u5, u6, .pointer (some ⟨b7, 0, none⟩), u8, u9, u10, u11, u12, u13, u14, u15, u16, u17, u18, u19, u20, u21, u22, u23, u24, u25, u26, u27, u28, u29, u30, u31, u32, u33, u34, u35, u36], []⟩ w := by
  have HS := Lib.hid hS
  clear hS
  conv => arg 4; whnf
  try dsimp only at hK ⊢
  refine wpIn_region_last (S := fun W => Blk W b7 69 #[.int .i64 xl, .int .i64 xi, .int .i64 xt, .bool xd]) 15 (by kernel_rfl) (by kernel_rfl) (HS.out _ ((Keeps.refl [] w).drew)) (fun hHeld => ?_)
  obtain ⟨w0, hw0⟩ : ∃ w0, w.drew = w0 := ⟨_, rfl⟩
  try rw [hw0] at hHeld
  rw [hw0]
  have K0 : Keeps [] w w0 := by rw [← hw0]; exact (Keeps.refl [] w).drew
  clear hw0
  refine wpG_take (nx := [1, 2, 3, 4, 5, 14, 7, 8, 9, 10, 11, 12, 13, 14, 15]) (i := 0) (oi := ⟨some 15, Op.fieldAddr 69 (Operand.tmp 7) 0, 0, _, _, none⟩) (v := ?vq1) (by kernel_rfl) rfl (by decide) (by kernel_rfl) (by kernel_rfl) (by kernel_rfl) (fun _ _ _ h => h) (Or.inl ⟨by rfl, fun W hW => ?_⟩) (by assumption) ?_
  rotate_left
  · go_simp
    with_reducible rfl
  try simp only [Act.put, List.setIfInBounds_toArray, List.set_cons_zero, List.set_cons_succ]
  refine wpG_take (nx := [1, 2, 3, 4, 5, 14, 7, 8, 9, 10, 11, 12, 13, 14, 15]) (i := 1) (oi := ⟨some 16, Op.load 3 (Operand.tmp 15), 3, _, _, none⟩) (v := .int .i64 xl) (by kernel_rfl) rfl (by decide) (by kernel_rfl) (by kernel_rfl) (by kernel_rfl) (fun _ _ _ h => h) (Or.inl ⟨by rfl, fun W hW => ?_⟩) (by assumption) ?_
  · (have a0 := hW.cell 0; clear hW; go_simp)
  try simp only [Act.put, List.setIfInBounds_toArray, List.set_cons_zero, List.set_cons_succ]
  refine wpG_take (nx := [1, 2, 3, 4, 5, 14, 7, 8, 9, 10, 11, 12, 13, 14, 15]) (i := 2) (oi := ⟨some 17, Op.binOp BinOp.neq 3 (Operand.tmp 16) (Operand.const (Value.int IntKind.i64 0)) 3, 4, _, _, none⟩) (v := .bool true) (by kernel_rfl) rfl (by decide) (by kernel_rfl) (by kernel_rfl) (by kernel_rfl) (fun _ _ _ h => h) (Or.inl ⟨by rfl, fun W hW => ?_⟩) (by assumption) ?_
  · (first | (go_simp; done) | (go_simp; simp [hx]; done))
  try simp only [Act.put, List.setIfInBounds_toArray, List.set_cons_zero, List.set_cons_succ]
  refine wpG_take (nx := [1, 2, 3, 4, 5, 14, 7, 8, 9, 10, 11, 12, 13, 14, 15]) (i := 3) (oi := ⟨some 18, Op.move (Operand.tmp 17), 4, _, _, none⟩) (v := ?vq2) (by kernel_rfl) rfl (by decide) (by kernel_rfl) (by kernel_rfl) (by kernel_rfl) (fun _ _ _ h => h) (Or.inl ⟨by rfl, fun W hW => ?_⟩) (by assumption) ?_
  rotate_left
  · go_simp
    with_reducible rfl
  try simp only [Act.put, List.setIfInBounds_toArray, List.set_cons_zero, List.set_cons_succ]
  refine wpG_take (nx := [1, 2, 3, 4, 5, 14, 7, 8, 9, 10, 11, 12, 13, 14, 15]) (i := 4) (oi := ⟨some 19, Op.fieldAddr 69 (Operand.tmp 7) 1, 0, _, _, some (3, false)⟩) (v := undef) (by kernel_rfl) rfl (by decide) (by kernel_rfl) (by kernel_rfl) (by kernel_rfl) (fun _ _ _ h => h) (Or.inr ⟨by rfl, rfl⟩) (by assumption) ?_
  try simp only [Act.put, List.setIfInBounds_toArray, List.set_cons_zero, List.set_cons_succ]
  refine wpG_take (nx := [1, 2, 3, 4, 5, 14, 7, 8, 9, 10, 11, 12, 13, 14, 15]) (i := 5) (oi := ⟨some 20, Op.load 3 (Operand.tmp 19), 3, _, _, some (3, false)⟩) (v := undef) (by kernel_rfl) rfl (by decide) (by kernel_rfl) (by kernel_rfl) (by kernel_rfl) (fun _ _ _ h => h) (Or.inr ⟨by rfl, rfl⟩) (by assumption) ?_
  try simp only [Act.put, List.setIfInBounds_toArray, List.set_cons_zero, List.set_cons_succ]
  refine wpG_take (nx := [1, 2, 3, 4, 5, 14, 7, 8, 9, 10, 11, 12, 13, 14, 15]) (i := 6) (oi := ⟨some 21, Op.load 26 (Operand.tmp 1), 26, _, _, some (3, false)⟩) (v := undef) (by kernel_rfl) rfl (by decide) (by kernel_rfl) (by kernel_rfl) (by kernel_rfl) (fun _ _ _ h => h) (Or.inr ⟨by rfl, rfl⟩) (by assumption) ?_
  try simp only [Act.put, List.setIfInBounds_toArray, List.set_cons_zero, List.set_cons_succ]
  refine wpG_take (nx := [1, 2, 3, 4, 5, 14, 7, 8, 9, 10, 11, 12, 13, 14, 15]) (i := 7) (oi := ⟨some 22, Op.nilCheck (Operand.tmp 21), 0, _, _, some (3, false)⟩) (v := undef) (by kernel_rfl) rfl (by decide) (by kernel_rfl) (by kernel_rfl) (by kernel_rfl) (fun _ _ _ h => h) (Or.inr ⟨by rfl, rfl⟩) (by assumption) ?_
  try simp only [Act.put, List.setIfInBounds_toArray, List.set_cons_zero, List.set_cons_succ]
  refine wpG_take (nx := [1, 2, 3, 4, 5, 14, 7, 8, 9, 10, 11, 12, 13, 14, 15]) (i := 8) (oi := ⟨some 23, Op.fieldAddr 61 (Operand.tmp 22) 0, 0, _, _, some (3, false)⟩) (v := undef) (by kernel_rfl) rfl (by decide) (by kernel_rfl) (by kernel_rfl) (by kernel_rfl) (fun _ _ _ h => h) (Or.inr ⟨by rfl, rfl⟩) (by assumption) ?_
  try simp only [Act.put, List.setIfInBounds_toArray, List.set_cons_zero, List.set_cons_succ]
  refine wpG_take (nx := [1, 2, 3, 4, 5, 14, 7, 8, 9, 10, 11, 12, 13, 14, 15]) (i := 9) (oi := ⟨some 24, Op.load 57 (Operand.tmp 23), 57, _, _, some (3, false)⟩) (v := undef) (by kernel_rfl) rfl (by decide) (by kernel_rfl) (by kernel_rfl) (by kernel_rfl) (fun _ _ _ h => h) (Or.inr ⟨by rfl, rfl⟩) (by assumption) ?_
  try simp only [Act.put, List.setIfInBounds_toArray, List.set_cons_zero, List.set_cons_succ]
  refine wpG_take (nx := [1, 2, 3, 4, 5, 14, 7, 8, 9, 10, 11, 12, 13, 14, 15]) (i := 10) (oi := ⟨some 25, Op.lookup 57 (Operand.tmp 24) (Operand.const (Value.int IntKind.i64 0)) false, 56, _, _, some (3, false)⟩) (v := undef) (by kernel_rfl) rfl (by decide) (by kernel_rfl) (by kernel_rfl) (by kernel_rfl) (fun _ _ _ h => h) (Or.inr ⟨by rfl, rfl⟩) (by assumption) ?_
  try simp only [Act.put, List.setIfInBounds_toArray, List.set_cons_zero, List.set_cons_succ]
  refine wpG_take (nx := [1, 2, 3, 4, 5, 14, 7, 8, 9, 10, 11, 12, 13, 14, 15]) (i := 11) (oi := ⟨some 26, Op.field 56 (Operand.tmp 25) 3, 22, _, _, some (3, false)⟩) (v := undef) (by kernel_rfl) rfl (by decide) (by kernel_rfl) (by kernel_rfl) (by kernel_rfl) (fun _ _ _ h => h) (Or.inr ⟨by rfl, rfl⟩) (by assumption) ?_
  try simp only [Act.put, List.setIfInBounds_toArray, List.set_cons_zero, List.set_cons_succ]
  refine wpG_take (nx := [1, 2, 3, 4, 5, 14, 7, 8, 9, 10, 11, 12, 13, 14, 15]) (i := 12) (oi := ⟨some 27, Op.indexAddr 22 (Operand.tmp 26) (Operand.const (Value.int IntKind.i64 0)), 0, _, _, some (3, false)⟩) (v := undef) (by kernel_rfl) rfl (by decide) (by kernel_rfl) (by kernel_rfl) (by kernel_rfl) (fun _ _ _ h => h) (Or.inr ⟨by rfl, rfl⟩) (by assumption) ?_
  try simp only [Act.put, List.setIfInBounds_toArray, List.set_cons_zero, List.set_cons_succ]
  refine wpG_take (nx := [1, 2, 3, 4, 5, 14, 7, 8, 9, 10, 11, 12, 13, 14, 15]) (i := 13) (oi := ⟨some 28, Op.load 3 (Operand.tmp 27), 3, _, _, some (3, false)⟩) (v := undef) (by kernel_rfl) rfl (by decide) (by kernel_rfl) (by kernel_rfl) (by kernel_rfl) (fun _ _ _ h => h) (Or.inr ⟨by rfl, rfl⟩) (by assumption) ?_
  try simp only [Act.put, List.setIfInBounds_toArray, List.set_cons_zero, List.set_cons_succ]
  refine wpG_take (nx := [1, 2, 3, 4, 5, 14, 7, 8, 9, 10, 11, 12, 13, 14, 15]) (i := 14) (oi := ⟨some 29, Op.binOp BinOp.neq 3 (Operand.tmp 20) (Operand.tmp 28) 3, 4, _, _, some (3, false)⟩) (v := undef) (by kernel_rfl) rfl (by decide) (by kernel_rfl) (by kernel_rfl) (by kernel_rfl) (fun _ _ _ h => h) (Or.inr ⟨by rfl, rfl⟩) (by assumption) ?_
  try simp only [Act.put, List.setIfInBounds_toArray, List.set_cons_zero, List.set_cons_succ]
  refine wpG_ready (rs := [15]) (by kernel_rfl) (by simp) ?_
  refine AllG.last (o := ⟨some 30, Op.pick (Operand.tmp 18) (Operand.const (Value.bool true)) (Operand.tmp 29), 4, _, _, none⟩) rfl (fun KK hKK => ?_)
  have hW := hHeld
  go_simp
  refine hKK.out _ _ ?_
  clear hKK KK hHeld
  try simp only [Act.put, List.setIfInBounds_toArray, List.set_cons_zero, List.set_cons_succ]
  refine wpG_done (by kernel_rfl) ?_ _
  exact hK _ _ _ _ _ _ _ _ _ _ _ _ _ _ _ _ K0
set_option maxRecDepth 1000000 in
set_option maxHeartbeats 3200000 in
set_option linter.unusedSimpArgs false in
theorem vic3b_any (l0 nn : Nat) (w : World) (bp b7 p lm bi oi vn : Nat) (v : LnV) (xi xt y : Int) (xd : Bool) (K : Exit → Act → World → Prop)
    (hS : ∀ W, Keeps [] w W → Blk W b7 69 #[.int .i64 0, .int .i64 xi, .int .i64 xt, .bool xd] ∧ W.cell? ⟨bp, 0, none⟩ = some (.pointer (some ⟨p, 0, none⟩)) ∧ W.cell? ⟨p, 0, none⟩ = some (.map (some lm)) ∧ (Instr.lookup 57 (.map (some lm)) (.int .i64 0) false).run Tryz.prog W = .ok (.agg #[.int .i64 v.id, .int .i64 v.par, .int .i64 v.pid, .slice (some ⟨bi, oi, none⟩) vn v.c]) W ∧ W.cell? ⟨bi, oi, none⟩ = some (.int .i64 y)) (hvn : 0 < vn)
    (u0 u2 u3 u4 u5 u6 u8 u9 u10 u11 u12 u13 u14 u15 u16 u17 u18 u19 u20 u21 u22 u23 u24 u25 u26 u27 u28 u29 u30 u31 u32 u33 u34 u35 u36 : Value)
    (hK : ∀ (v15 v16 v17 v18 v19 v20 v21 v22 v23 v24 v25 v26 v27 v28 v29 : Value) (W : World), Keeps [] w W → K .normal ⟨#[u0, .pointer (some ⟨bp, 0, none⟩), u2, u3, u4, u5, u6, .pointer (some ⟨b7, 0, none⟩), u8, u9, u10, u11, u12, u13, u14, v15, v16, v17, v18, v19, v20, v21, v22, v23, v24, v25, v26, v27, v28, v29, .bool (!decide (xi = y)), u31, u32, u33, u34, u35, u36], []⟩ W) :
    Code.wpIn (Fence.wide.inRound l0) nn Tryz.prog vic3aC K ⟨#[u0, .pointer (some ⟨bp, 0, none⟩), u2, u3, u4, u5, u6, .pointer (some ⟨b7, 0, none⟩), u8, u9, u10, u11, u12, u13, u14, u15, u16, u17, u18, u19, u20, u21, u22, u23, u24, u25, u26, u27, u28, u29, u30, u31, u32, u33, u34, u35, u36], []⟩ w := by
  have HS := Lib.hid hS
  clear hS
  conv => arg 4; whnf
  try dsimp only at hK ⊢
  refine wpIn_region_last (S := fun W => Blk W b7 69 #[.int .i64 0, .int .i64 xi, .int .i64 xt, .bool xd] ∧ W.cell? ⟨bp, 0, none⟩ = some (.pointer (some ⟨p, 0, none⟩)) ∧ W.cell? ⟨p, 0, none⟩ = some (.map (some lm)) ∧ (Instr.lookup 57 (.map (some lm)) (.int .i64 0) false).run Tryz.prog W = .ok (.agg #[.int .i64 v.id, .int .i64 v.par, .int .i64 v.pid, .slice (some ⟨bi, oi, none⟩) vn v.c]) W ∧ W.cell? ⟨bi, oi, none⟩ = some (.int .i64 y)) 15 (by kernel_rfl) (by kernel_rfl) (HS.out _ ((Keeps.refl [] w).drew)) (fun hHeld => ?_)
  obtain ⟨w0, hw0⟩ : ∃ w0, w.drew = w0 := ⟨_, rfl⟩
  try rw [hw0] at hHeld
  rw [hw0]
  have K0 : Keeps [] w w0 := by rw [← hw0]; exact (Keeps.refl [] w).drew
  clear hw0
  refine wpG_take (nx := [1, 2, 3, 4, 5, 14, 7, 8, 9, 10, 11, 12, 13, 14, 15]) (i := 0) (oi := ⟨some 15, Op.fieldAddr 69 (Operand.tmp 7) 0, 0, _, _, none⟩) (v := ?vq3) (by kernel_rfl) rfl (by decide) (by kernel_rfl) (by kernel_rfl) (by kernel_rfl) (fun _ _ _ h => h) (Or.inl ⟨by rfl, fun W hW => ?_⟩) (by assumption) ?_
  rotate_left
  · go_simp
    with_reducible rfl
  try simp only [Act.put, List.setIfInBounds_toArray, List.set_cons_zero, List.set_cons_succ]
  refine wpG_take (nx := [1, 2, 3, 4, 5, 14, 7, 8, 9, 10, 11, 12, 13, 14, 15]) (i := 1) (oi := ⟨some 16, Op.load 3 (Operand.tmp 15), 3, _, _, none⟩) (v := .int .i64 0) (by kernel_rfl) rfl (by decide) (by kernel_rfl) (by kernel_rfl) (by kernel_rfl) (fun _ _ _ h => h) (Or.inl ⟨by rfl, fun W hW => ?_⟩) (by assumption) ?_
  · (have a0 := hW.1.cell 0; clear hW; go_simp)
  try simp only [Act.put, List.setIfInBounds_toArray, List.set_cons_zero, List.set_cons_succ]
  refine wpG_take (nx := [1, 2, 3, 4, 5, 14, 7, 8, 9, 10, 11, 12, 13, 14, 15]) (i := 2) (oi := ⟨some 17, Op.binOp BinOp.neq 3 (Operand.tmp 16) (Operand.const (Value.int IntKind.i64 0)) 3, 4, _, _, none⟩) (v := .bool false) (by kernel_rfl) rfl (by decide) (by kernel_rfl) (by kernel_rfl) (by kernel_rfl) (fun _ _ _ h => h) (Or.inl ⟨by rfl, fun W hW => ?_⟩) (by assumption) ?_
  · go_simp
  try simp only [Act.put, List.setIfInBounds_toArray, List.set_cons_zero, List.set_cons_succ]
  refine wpG_take (nx := [1, 2, 3, 4, 5, 14, 7, 8, 9, 10, 11, 12, 13, 14, 15]) (i := 3) (oi := ⟨some 18, Op.move (Operand.tmp 17), 4, _, _, none⟩) (v := ?vq4) (by kernel_rfl) rfl (by decide) (by kernel_rfl) (by kernel_rfl) (by kernel_rfl) (fun _ _ _ h => h) (Or.inl ⟨by rfl, fun W hW => ?_⟩) (by assumption) ?_
  rotate_left
  · go_simp
    with_reducible rfl
  try simp only [Act.put, List.setIfInBounds_toArray, List.set_cons_zero, List.set_cons_succ]
  refine wpG_take (nx := [1, 2, 3, 4, 5, 14, 7, 8, 9, 10, 11, 12, 13, 14, 15]) (i := 4) (oi := ⟨some 19, Op.fieldAddr 69 (Operand.tmp 7) 1, 0, _, _, some (3, false)⟩) (v := ?vq5) (by kernel_rfl) rfl (by decide) (by kernel_rfl) (by kernel_rfl) (by kernel_rfl) (fun _ _ _ h => h) (Or.inl ⟨by rfl, fun W hW => ?_⟩) (by assumption) ?_
  rotate_left
  · go_simp
    with_reducible rfl
  try simp only [Act.put, List.setIfInBounds_toArray, List.set_cons_zero, List.set_cons_succ]
  refine wpG_take (nx := [1, 2, 3, 4, 5, 14, 7, 8, 9, 10, 11, 12, 13, 14, 15]) (i := 5) (oi := ⟨some 20, Op.load 3 (Operand.tmp 19), 3, _, _, some (3, false)⟩) (v := .int .i64 xi) (by kernel_rfl) rfl (by decide) (by kernel_rfl) (by kernel_rfl) (by kernel_rfl) (fun _ _ _ h => h) (Or.inl ⟨by rfl, fun W hW => ?_⟩) (by assumption) ?_
  · (have a0 := hW.1.cell 1; clear hW; go_simp)
  try simp only [Act.put, List.setIfInBounds_toArray, List.set_cons_zero, List.set_cons_succ]
  refine wpG_take (nx := [1, 2, 3, 4, 5, 14, 7, 8, 9, 10, 11, 12, 13, 14, 15]) (i := 6) (oi := ⟨some 21, Op.load 26 (Operand.tmp 1), 26, _, _, some (3, false)⟩) (v := .pointer (some ⟨p, 0, none⟩)) (by kernel_rfl) rfl (by decide) (by kernel_rfl) (by kernel_rfl) (by kernel_rfl) (fun _ _ _ h => h) (Or.inl ⟨by rfl, fun W hW => ?_⟩) (by assumption) ?_
  · (have a0 := hW.2.1; clear hW; go_simp)
  try simp only [Act.put, List.setIfInBounds_toArray, List.set_cons_zero, List.set_cons_succ]
  refine wpG_take (nx := [1, 2, 3, 4, 5, 14, 7, 8, 9, 10, 11, 12, 13, 14, 15]) (i := 7) (oi := ⟨some 22, Op.nilCheck (Operand.tmp 21), 0, _, _, some (3, false)⟩) (v := ?vq6) (by kernel_rfl) rfl (by decide) (by kernel_rfl) (by kernel_rfl) (by kernel_rfl) (fun _ _ _ h => h) (Or.inl ⟨by rfl, fun W hW => ?_⟩) (by assumption) ?_
  rotate_left
  · go_simp
    with_reducible rfl
  try simp only [Act.put, List.setIfInBounds_toArray, List.set_cons_zero, List.set_cons_succ]
  refine wpG_take (nx := [1, 2, 3, 4, 5, 14, 7, 8, 9, 10, 11, 12, 13, 14, 15]) (i := 8) (oi := ⟨some 23, Op.fieldAddr 61 (Operand.tmp 22) 0, 0, _, _, some (3, false)⟩) (v := ?vq7) (by kernel_rfl) rfl (by decide) (by kernel_rfl) (by kernel_rfl) (by kernel_rfl) (fun _ _ _ h => h) (Or.inl ⟨by rfl, fun W hW => ?_⟩) (by assumption) ?_
  rotate_left
  · go_simp
    with_reducible rfl
  try simp only [Act.put, List.setIfInBounds_toArray, List.set_cons_zero, List.set_cons_succ]
  refine wpG_take (nx := [1, 2, 3, 4, 5, 14, 7, 8, 9, 10, 11, 12, 13, 14, 15]) (i := 9) (oi := ⟨some 24, Op.load 57 (Operand.tmp 23), 57, _, _, some (3, false)⟩) (v := .map (some lm)) (by kernel_rfl) rfl (by decide) (by kernel_rfl) (by kernel_rfl) (by kernel_rfl) (fun _ _ _ h => h) (Or.inl ⟨by rfl, fun W hW => ?_⟩) (by assumption) ?_
  · (have a0 := hW.2.2.1; clear hW; go_simp)
  try simp only [Act.put, List.setIfInBounds_toArray, List.set_cons_zero, List.set_cons_succ]
  refine wpG_take (nx := [1, 2, 3, 4, 5, 14, 7, 8, 9, 10, 11, 12, 13, 14, 15]) (i := 10) (oi := ⟨some 25, Op.lookup 57 (Operand.tmp 24) (Operand.const (Value.int IntKind.i64 0)) false, 56, _, _, some (3, false)⟩) (v := .agg #[.int .i64 v.id, .int .i64 v.par, .int .i64 v.pid, .slice (some ⟨bi, oi, none⟩) vn v.c]) (by kernel_rfl) rfl (by decide) (by kernel_rfl) (by kernel_rfl) (by kernel_rfl) (fun _ _ _ h => h) (Or.inl ⟨by rfl, fun W hW => ?_⟩) (by assumption) ?_
  · (have a0 := hW.2.2.2.1; clear hW; go_simp)
  try simp only [Act.put, List.setIfInBounds_toArray, List.set_cons_zero, List.set_cons_succ]
  refine wpG_take (nx := [1, 2, 3, 4, 5, 14, 7, 8, 9, 10, 11, 12, 13, 14, 15]) (i := 11) (oi := ⟨some 26, Op.field 56 (Operand.tmp 25) 3, 22, _, _, some (3, false)⟩) (v := .slice (some ⟨bi, oi, none⟩) vn v.c) (by kernel_rfl) rfl (by decide) (by kernel_rfl) (by kernel_rfl) (by kernel_rfl) (fun _ _ _ h => h) (Or.inl ⟨by rfl, fun W hW => ?_⟩) (by assumption) ?_
  · (have a0 := field66 W v.id v.par v.pid (some ⟨bi, oi, none⟩) vn v.c; clear hW; go_simp)
  try simp only [Act.put, List.setIfInBounds_toArray, List.set_cons_zero, List.set_cons_succ]
  refine wpG_take (nx := [1, 2, 3, 4, 5, 14, 7, 8, 9, 10, 11, 12, 13, 14, 15]) (i := 12) (oi := ⟨some 27, Op.indexAddr 22 (Operand.tmp 26) (Operand.const (Value.int IntKind.i64 0)), 0, _, _, some (3, false)⟩) (v := .pointer (some ⟨bi, oi, none⟩)) (by kernel_rfl) rfl (by decide) (by kernel_rfl) (by kernel_rfl) (by kernel_rfl) (fun _ _ _ h => h) (Or.inl ⟨by rfl, fun W hW => ?_⟩) (by assumption) ?_
  · go_simp
  try simp only [Act.put, List.setIfInBounds_toArray, List.set_cons_zero, List.set_cons_succ]
  refine wpG_take (nx := [1, 2, 3, 4, 5, 14, 7, 8, 9, 10, 11, 12, 13, 14, 15]) (i := 13) (oi := ⟨some 28, Op.load 3 (Operand.tmp 27), 3, _, _, some (3, false)⟩) (v := .int .i64 y) (by kernel_rfl) rfl (by decide) (by kernel_rfl) (by kernel_rfl) (by kernel_rfl) (fun _ _ _ h => h) (Or.inl ⟨by rfl, fun W hW => ?_⟩) (by assumption) ?_
  · (have a0 := hW.2.2.2.2; clear hW; go_simp)
  try simp only [Act.put, List.setIfInBounds_toArray, List.set_cons_zero, List.set_cons_succ]
  refine wpG_take (nx := [1, 2, 3, 4, 5, 14, 7, 8, 9, 10, 11, 12, 13, 14, 15]) (i := 14) (oi := ⟨some 29, Op.binOp BinOp.neq 3 (Operand.tmp 20) (Operand.tmp 28) 3, 4, _, _, some (3, false)⟩) (v := .bool (!decide (xi = y))) (by kernel_rfl) rfl (by decide) (by kernel_rfl) (by kernel_rfl) (by kernel_rfl) (fun _ _ _ h => h) (Or.inl ⟨by rfl, fun W hW => ?_⟩) (by assumption) ?_
  · (go_simp; rfl)
  try simp only [Act.put, List.setIfInBounds_toArray, List.set_cons_zero, List.set_cons_succ]
  refine wpG_ready (rs := [15]) (by kernel_rfl) (by simp) ?_
  refine AllG.last (o := ⟨some 30, Op.pick (Operand.tmp 18) (Operand.const (Value.bool true)) (Operand.tmp 29), 4, _, _, none⟩) rfl (fun KK hKK => ?_)
  have hW := hHeld
  go_simp
  refine hKK.out _ _ ?_
  clear hKK KK hHeld
  try simp only [Act.put, List.setIfInBounds_toArray, List.set_cons_zero, List.set_cons_succ]
  refine wpG_done (by kernel_rfl) ?_ _
  exact hK _ _ _ _ _ _ _ _ _ _ _ _ _ _ _ _ K0
end Go.Proofs.YtcopjjokhjealaaGreat
namespace Go.Proofs.YtcopjjokhjealaaGreat
open Go.RowKit Go.Shelf

noncomputable def vic4C : Code := ((Tryz.f13.body.bind (theRegionR 4)).getD .skip)
set_option maxRecDepth 1000000 in
set_option maxHeartbeats 3200000 in
set_option linter.unusedSimpArgs false in
theorem vic4_any (l0 nn : Nat) (w : World) (b2 b3 b4 b5 b7 : Nat) (xl xi xt : Int) (xd : Bool) (nb2b3 : b2 ≠ b3) (nb2b4 : b2 ≠ b4) (nb2b5 : b2 ≠ b5) (nb2b7 : b2 ≠ b7) (nb3b4 : b3 ≠ b4) (nb3b5 : b3 ≠ b5) (nb3b7 : b3 ≠ b7) (nb4b5 : b4 ≠ b5) (nb4b7 : b4 ≠ b7) (nb5b7 : b5 ≠ b7) (K : Exit → Act → World → Prop)
    (hS : ∀ W, Keeps [] w W → Blk W b7 69 #[.int .i64 xl, .int .i64 xi, .int .i64 xt, .bool xd] ∧ (∃ v, Blk W b2 3 #[v]) ∧ (∃ v, Blk W b3 3 #[v]) ∧ (∃ v, Blk W b4 3 #[v]) ∧ (∃ v, Blk W b5 4 #[v]))
    (u0 u1 u6 u8 u9 u10 u11 u12 u13 u14 u15 u16 u17 u18 u19 u20 u21 u22 u23 u24 u25 u26 u27 u28 u29 u30 u31 u32 u33 u34 u35 u36 : Value)
    (hK : ∀ (v31 v32 v33 v34 v35 v36 : Value) (W : World), Blk W b2 3 #[.int .i64 xl] → Blk W b3 3 #[.int .i64 xi] → Blk W b4 3 #[.int .i64 xt] → Blk W b5 4 #[.bool true] → Keeps [b2, b3, b4, b5] w W → K .normal ⟨#[u0, u1, .pointer (some ⟨b2, 0, none⟩), .pointer (some ⟨b3, 0, none⟩), .pointer (some ⟨b4, 0, none⟩), .pointer (some ⟨b5, 0, none⟩), u6, .pointer (some ⟨b7, 0, none⟩), u8, u9, u10, u11, u12, u13, u14, u15, u16, u17, u18, u19, u20, u21, u22, u23, u24, u25, u26, u27, u28, u29, u30, v31, v32, v33, v34, v35, v36], []⟩ W) :
    Code.wpIn (Fence.wide.inRound l0) nn Tryz.prog vic4C K ⟨#[u0, u1, .pointer (some ⟨b2, 0, none⟩), .pointer (some ⟨b3, 0, none⟩), .pointer (some ⟨b4, 0, none⟩), .pointer (some ⟨b5, 0, none⟩), u6, .pointer (some ⟨b7, 0, none⟩), u8, u9, u10, u11, u12, u13, u14, u15, u16, u17, u18, u19, u20, u21, u22, u23, u24, u25, u26, u27, u28, u29, u30, u31, u32, u33, u34, u35, u36], []⟩ w := by
  have HS := Lib.hid hS
  clear hS
  conv => arg 4; whnf
  try dsimp only at hK ⊢
  refine wpIn_region_last (S := fun W => Blk W b7 69 #[.int .i64 xl, .int .i64 xi, .int .i64 xt, .bool xd] ∧ (∃ v, Blk W b2 3 #[v]) ∧ (∃ v, Blk W b3 3 #[v]) ∧ (∃ v, Blk W b4 3 #[v]) ∧ (∃ v, Blk W b5 4 #[v])) 9 (by kernel_rfl) (by kernel_rfl) (HS.out _ ((Keeps.refl [] w).drew)) (fun hHeld => ?_)
  obtain ⟨w0, hw0⟩ : ∃ w0, w.drew = w0 := ⟨_, rfl⟩
  try rw [hw0] at hHeld
  rw [hw0]
  have K0 : Keeps [] w w0 := by rw [← hw0]; exact (Keeps.refl [] w).drew
  clear hw0
  obtain ⟨x7, ⟨v2, x2⟩, ⟨v3, x3⟩, ⟨v4, x4⟩, ⟨v5, x5⟩⟩ := hHeld
  have hHeld : Blk w0 b7 69 #[.int .i64 xl, .int .i64 xi, .int .i64 xt, .bool xd] ∧ (∃ v, Blk w0 b2 3 #[v]) ∧ (∃ v, Blk w0 b3 3 #[v]) ∧ (∃ v, Blk w0 b4 3 #[v]) ∧ (∃ v, Blk w0 b5 4 #[v]) := ⟨x7, ⟨_, x2⟩, ⟨_, x3⟩, ⟨_, x4⟩, ⟨_, x5⟩⟩
  have KI : Keeps [b2, b3, b4, b5] w w0 := K0.mono (by simp)
  refine wpG_take (nx := [1, 6, 3, 7, 5, 8, 7, 8, 9]) (i := 0) (oi := ⟨some 31, Op.fieldAddr 69 (Operand.tmp 7) 0, 0, _, _, none⟩) (v := ?vq8) (by kernel_rfl) rfl (by decide) (by kernel_rfl) (by kernel_rfl) (by kernel_rfl) (fun _ _ _ h => h) (Or.inl ⟨by rfl, fun W hW => ?_⟩) (by assumption) ?_
  rotate_left
  · go_simp
    with_reducible rfl
  try simp only [Act.put, List.setIfInBounds_toArray, List.set_cons_zero, List.set_cons_succ]
  refine wpG_take (nx := [1, 6, 3, 7, 5, 8, 7, 8, 9]) (i := 1) (oi := ⟨some 32, Op.load 3 (Operand.tmp 31), 3, _, _, none⟩) (v := .int .i64 xl) (by kernel_rfl) rfl (by decide) (by kernel_rfl) (by kernel_rfl) (by kernel_rfl) (fun _ _ _ h => h) (Or.inl ⟨by rfl, fun W hW => ?_⟩) (by assumption) ?_
  · (have a0 := hW.1.cell 0; clear hW; go_simp)
  try simp only [Act.put, List.setIfInBounds_toArray, List.set_cons_zero, List.set_cons_succ]
  refine wpG_take (nx := [1, 6, 3, 7, 5, 8, 7, 8, 9]) (i := 2) (oi := ⟨some 33, Op.fieldAddr 69 (Operand.tmp 7) 1, 0, _, _, none⟩) (v := ?vq9) (by kernel_rfl) rfl (by decide) (by kernel_rfl) (by kernel_rfl) (by kernel_rfl) (fun _ _ _ h => h) (Or.inl ⟨by rfl, fun W hW => ?_⟩) (by assumption) ?_
  rotate_left
  · go_simp
    with_reducible rfl
  try simp only [Act.put, List.setIfInBounds_toArray, List.set_cons_zero, List.set_cons_succ]
  refine wpG_take (nx := [1, 6, 3, 7, 5, 8, 7, 8, 9]) (i := 3) (oi := ⟨some 34, Op.load 3 (Operand.tmp 33), 3, _, _, none⟩) (v := .int .i64 xi) (by kernel_rfl) rfl (by decide) (by kernel_rfl) (by kernel_rfl) (by kernel_rfl) (fun _ _ _ h => h) (Or.inl ⟨by rfl, fun W hW => ?_⟩) (by assumption) ?_
  · (have a0 := hW.1.cell 1; clear hW; go_simp)
  try simp only [Act.put, List.setIfInBounds_toArray, List.set_cons_zero, List.set_cons_succ]
  refine wpG_take (nx := [1, 6, 3, 7, 5, 8, 7, 8, 9]) (i := 4) (oi := ⟨some 35, Op.fieldAddr 69 (Operand.tmp 7) 2, 0, _, _, none⟩) (v := ?vq10) (by kernel_rfl) rfl (by decide) (by kernel_rfl) (by kernel_rfl) (by kernel_rfl) (fun _ _ _ h => h) (Or.inl ⟨by rfl, fun W hW => ?_⟩) (by assumption) ?_
  rotate_left
  · go_simp
    with_reducible rfl
  try simp only [Act.put, List.setIfInBounds_toArray, List.set_cons_zero, List.set_cons_succ]
  refine wpG_take (nx := [1, 6, 3, 7, 5, 8, 7, 8, 9]) (i := 5) (oi := ⟨some 36, Op.load 3 (Operand.tmp 35), 3, _, _, none⟩) (v := .int .i64 xt) (by kernel_rfl) rfl (by decide) (by kernel_rfl) (by kernel_rfl) (by kernel_rfl) (fun _ _ _ h => h) (Or.inl ⟨by rfl, fun W hW => ?_⟩) (by assumption) ?_
  · (have a0 := hW.1.cell 2; clear hW; go_simp)
  try simp only [Act.put, List.setIfInBounds_toArray, List.set_cons_zero, List.set_cons_succ]
  refine wpG_ready (rs := [6]) (by kernel_rfl) (by simp) ?_
  refine AllG.cons (o := ⟨none, Op.store 3 (Operand.tmp 2) (Operand.tmp 32), 0, _, _, none⟩) rfl (fun KK hKK => ?_) AllG.nil
  have hc0 := x2.cell 0
  have hf0 := x2.frozen 0
  go_simp
  clear hc0 hf0
  obtain ⟨W11, e12⟩ : ∃ W, World.setCell w0 ⟨b2, 0, none⟩ (.int .i64 xl) = W := ⟨_, rfl⟩
  rw [e12]
  have K13 : Keeps [b2, b3, b4, b5] w W11 := by rw [← e12]; exact Keeps.setCell KI (.inl (by simp)) _
  have x14 : Blk W11 b2 3 #[.int .i64 xl] := by rw [← e12]; exact x2.set_ 0 _
  have x15 := (x3).far (p := ⟨b2, 0, none⟩) nb2b3.symm (.int .i64 xl)
  rw [e12] at x15
  have x16 := (x4).far (p := ⟨b2, 0, none⟩) nb2b4.symm (.int .i64 xl)
  rw [e12] at x16
  have x17 := (x5).far (p := ⟨b2, 0, none⟩) nb2b5.symm (.int .i64 xl)
  rw [e12] at x17
  have x18 := (x7).far (p := ⟨b2, 0, none⟩) nb2b7.symm (.int .i64 xl)
  rw [e12] at x18
  clear e12
  refine hKK.out _ _ ⟨x18, ⟨_, x14⟩, ⟨_, x15⟩, ⟨_, x16⟩, ⟨_, x17⟩⟩ (fun hHeld => ?_)
  clear hKK KK
  try simp only [Act.put, List.setIfInBounds_toArray, List.set_cons_zero, List.set_cons_succ]
  refine wpG_ready (rs := [7]) (by kernel_rfl) (by simp) ?_
  refine AllG.cons (o := ⟨none, Op.store 3 (Operand.tmp 3) (Operand.tmp 34), 0, _, _, none⟩) rfl (fun KK hKK => ?_) AllG.nil
  have hc0 := x15.cell 0
  have hf0 := x15.frozen 0
  go_simp
  clear hc0 hf0
  obtain ⟨W19, e20⟩ : ∃ W, World.setCell W11 ⟨b3, 0, none⟩ (.int .i64 xi) = W := ⟨_, rfl⟩
  rw [e20]
  have K21 : Keeps [b2, b3, b4, b5] w W19 := by rw [← e20]; exact Keeps.setCell K13 (.inl (by simp)) _
  have x22 := (x14).far (p := ⟨b3, 0, none⟩) nb2b3 (.int .i64 xi)
  rw [e20] at x22
  have x23 : Blk W19 b3 3 #[.int .i64 xi] := by rw [← e20]; exact x15.set_ 0 _
  have x24 := (x16).far (p := ⟨b3, 0, none⟩) nb3b4.symm (.int .i64 xi)
  rw [e20] at x24
  have x25 := (x17).far (p := ⟨b3, 0, none⟩) nb3b5.symm (.int .i64 xi)
  rw [e20] at x25
  have x26 := (x18).far (p := ⟨b3, 0, none⟩) nb3b7.symm (.int .i64 xi)
  rw [e20] at x26
  clear e20
  refine hKK.out _ _ ⟨x26, ⟨_, x22⟩, ⟨_, x23⟩, ⟨_, x24⟩, ⟨_, x25⟩⟩ (fun hHeld => ?_)
  clear hKK KK
  try simp only [Act.put, List.setIfInBounds_toArray, List.set_cons_zero, List.set_cons_succ]
  refine wpG_ready (rs := [8]) (by kernel_rfl) (by simp) ?_
  refine AllG.cons (o := ⟨none, Op.store 3 (Operand.tmp 4) (Operand.tmp 36), 0, _, _, none⟩) rfl (fun KK hKK => ?_) AllG.nil
  have hc0 := x24.cell 0
  have hf0 := x24.frozen 0
  go_simp
  clear hc0 hf0
  obtain ⟨W27, e28⟩ : ∃ W, World.setCell W19 ⟨b4, 0, none⟩ (.int .i64 xt) = W := ⟨_, rfl⟩
  rw [e28]
  have K29 : Keeps [b2, b3, b4, b5] w W27 := by rw [← e28]; exact Keeps.setCell K21 (.inl (by simp)) _
  have x30 := (x22).far (p := ⟨b4, 0, none⟩) nb2b4 (.int .i64 xt)
  rw [e28] at x30
  have x31 := (x23).far (p := ⟨b4, 0, none⟩) nb3b4 (.int .i64 xt)
  rw [e28] at x31
  have x32 : Blk W27 b4 3 #[.int .i64 xt] := by rw [← e28]; exact x24.set_ 0 _
  have x33 := (x25).far (p := ⟨b4, 0, none⟩) nb4b5.symm (.int .i64 xt)
  rw [e28] at x33
  have x34 := (x26).far (p := ⟨b4, 0, none⟩) nb4b7.symm (.int .i64 xt)
  rw [e28] at x34
  clear e28
  refine hKK.out _ _ ⟨x34, ⟨_, x30⟩, ⟨_, x31⟩, ⟨_, x32⟩, ⟨_, x33⟩⟩ (fun hHeld => ?_)
  clear hKK KK
  try simp only [Act.put, List.setIfInBounds_toArray, List.set_cons_zero, List.set_cons_succ]
  refine wpG_ready (rs := [9]) (by kernel_rfl) (by simp) ?_
  refine AllG.last (o := ⟨none, Op.store 4 (Operand.tmp 5) (Operand.const (Value.bool true)), 0, _, _, none⟩) rfl (fun KK hKK => ?_)
  have hc0 := x33.cell 0
  have hf0 := x33.frozen 0
  go_simp
  clear hc0 hf0
  obtain ⟨W35, e36⟩ : ∃ W, World.setCell W27 ⟨b5, 0, none⟩ (.bool true) = W := ⟨_, rfl⟩
  rw [e36]
  have K37 : Keeps [b2, b3, b4, b5] w W35 := by rw [← e36]; exact Keeps.setCell K29 (.inl (by simp)) _
  have x38 := (x30).far (p := ⟨b5, 0, none⟩) nb2b5 (.bool true)
  rw [e36] at x38
  have x39 := (x31).far (p := ⟨b5, 0, none⟩) nb3b5 (.bool true)
  rw [e36] at x39
  have x40 := (x32).far (p := ⟨b5, 0, none⟩) nb4b5 (.bool true)
  rw [e36] at x40
  have x41 : Blk W35 b5 4 #[.bool true] := by rw [← e36]; exact x33.set_ 0 _
  have x42 := (x34).far (p := ⟨b5, 0, none⟩) nb5b7.symm (.bool true)
  rw [e36] at x42
  clear e36
  refine hKK.out _ _ ?_
  clear hKK KK
  try simp only [Act.put, List.setIfInBounds_toArray, List.set_cons_zero, List.set_cons_succ]
  refine wpG_done (by kernel_rfl) ?_ _
  exact hK _ _ _ _ _ _ _ x38 x39 x40 x41 K37
end Go.Proofs.YtcopjjokhjealaaGreat
namespace Go.Proofs.YtcopjjokhjealaaGreat
open Go.RowKit Go.Shelf
attribute [local go_sem] Oper.semAt_some

/-- An item of the list, with its place. -/
abbrev At (L : List Rn) := { x : Int × Rn // x.2 ∈ L }
theorem back_stops (n : Nat) (hn : 1 ≤ n) (Bs n₀ : Nat) (A : Option Addr) (L : List Rn) (c : Nat) (hL : L.length ≤ 1000) (hA : 0 < L.length → ∃ b off, A = some ⟨b, off, none⟩ ∧ b < n₀) (w0 : World) (hBs : w0.heap[Bs]? = some (.cells #[.slice A L.length c] 58 (0, 0))) (ha : AtR w0 A L) :
    SeqStopsK Fence.wide n Tryz.prog 64 #[.pointer (some ⟨Bs, 0, none⟩)] (fun x : At L => encR x.1) (Kb n₀ Bs) (fun ys => ys.map (·.1) = bk L 0) (fun pre => ∃ k, k ≤ L.length ∧ pre.map (·.1) = bk L k) L.length w0 := fun l J Jx W hW hJ hJx hY h0 => by
  refine (back1_in n hn l Bs n₀ A L c hL hA (fun pre W => ∃ ys : List (At L), ys.map (·.1) = pre ∧ J ys W) (fun pre W => ∃ ys : List (At L), ys.map (·.1) = pre ∧ Jx ys W) ?_ W ((hW.block Bs (Array.getElem?_eq_some_iff.1 hBs).1).trans hBs) (ha.keep (Keeps.of_below hW [])) ⟨[], rfl, h0⟩).mono ?_
  · rintro pre x W1 hx ⟨ys, rfl, h2⟩ hlen
    have := hY ys ⟨x, hx⟩ W1 h2 (by simpa using hlen)
    obtain ⟨fn, tmps, assign, body, hy, hR⟩ := this
    refine ⟨fn, tmps, assign, body, hy, hR.mono ?_⟩
    rintro e W' (⟨he, hj, hk⟩ | ⟨he, hj⟩)
    · exact .inl ⟨he, ⟨ys ++ [⟨x, hx⟩], by simp, hj⟩, hk⟩
    · exact .inr ⟨he, ⟨ys ++ [⟨x, hx⟩], by simp, hj⟩⟩
  · rintro e W' ⟨hv, h⟩
    refine ⟨hv, ?_⟩
    rcases h with ⟨xs, rfl, ys, h1, h2⟩ | ⟨pre, ⟨k, hk, rfl⟩, ys, h1, h2⟩
    · exact .inl ⟨ys, h1, h2⟩
    · exact .inr ⟨ys, ⟨k, hk, h1⟩, h2⟩
/-- May the item give way? -/
def vicP (y : Int) (r : Rn) : Bool := !(decide (r.l = 0) && decide (r.i = y))
def vicV (s : Pl) (y : Int) : Option Rn := s.li.reverse.find? (vicP y)
theorem bk_all (L : List Rn) : (bk L 0).map (·.2) = L.reverse := by
  unfold bk
  rw [List.drop_zero, List.map_map, List.map_reverse]
  congr 1
  show (L.zipIdx 0).map (fun x => x.1) = L
  simp
theorem bk_suf {L : List Rn} {k : Nat} (hk : k ≤ L.length) : ∃ t, bk L 0 = bk L k ++ t := by
  induction k with
  | zero => exact ⟨[], by simp⟩
  | succ k ih =>
    obtain ⟨t, ht⟩ := ih (by omega)
    exact ⟨_, by rw [ht, bk_step (by omega), List.append_assoc]⟩
/-- The result's boxes. -/
structure VB (W : World) (B p : Nat) (l i t : Int) (ok : Bool) : Prop where
  b0 : Blk W B 26 #[.pointer (some ⟨p, 0, none⟩)]
  b1 : Blk W (B + 1) 3 #[.int .i64 l]
  b2 : Blk W (B + 2) 3 #[.int .i64 i]
  b3 : Blk W (B + 3) 3 #[.int .i64 t]
  b4 : Blk W (B + 4) 4 #[.bool ok]
theorem VB.grown {W W' : World} {B p : Nat} {l i t : Int} {ok : Bool} {row : Option Nat} (h : VB W B p l i t ok) (hg : W.grownBy W' row) (hr : ∀ r, row = some r → B + 5 ≤ r) : VB W' B p l i t ok := by
  have hne : ∀ g, g < B + 5 → some g ≠ row := fun g hg' e => by have := hr g e.symm; omega
  exact ⟨h.b0.grown hg (hne _ (by omega)), h.b1.grown hg (hne _ (by omega)), h.b2.grown hg (hne _ (by omega)), h.b3.grown hg (hne _ (by omega)), h.b4.grown hg (hne _ (by omega))⟩
theorem keepsFrom_of {B : Nat} {G : List Nat} {W W' : World} (h : Keeps G W W') (hG : ∀ g ∈ G, g < B) : KeepsFrom B W W' :=
  ⟨h.size, fun k o hB hk _ => (h.block k (Array.getElem?_eq_some_iff.1 hk).1 (fun hg => by have := hG k hg; omega)).trans hk⟩
theorem below_grown {B : Nat} {w W W' : World} {row : Option Nat} (h : Below B w W) (hg : W.grownBy W' row) (hB : B ≤ w.heap.size) (hr : ∀ r, row = some r → B ≤ r) : Below B w W' :=
  h.grown hg (Nat.le_trans hB h.size) hr
theorem vic_none {s : Pl} {y : Int} {ys : List (At s.li)} (h : ys.map (·.1) = bk s.li 0) (h3 : ∀ x ∈ ys, vicP y x.1.2 = false) : vicV s y = none := by
  unfold vicV
  rw [List.find?_eq_none]
  intro r hr
  rw [← bk_all, ← h, List.map_map] at hr
  obtain ⟨z, hz, rfl⟩ := List.mem_map.1 hr
  simp [h3 z hz]
theorem vic_some {s : Pl} {y : Int} {ini : List (At s.li)} {x : At s.li} {k : Nat} (hk : k ≤ s.li.length) (h : (ini ++ [x]).map (·.1) = bk s.li k) (h3 : ∀ z ∈ ini, vicP y z.1.2 = false) (h4 : vicP y x.1.2 = true) : vicV s y = some x.1.2 := by
  unfold vicV
  rw [List.find?_eq_some_iff_append]
  obtain ⟨t, ht⟩ := bk_suf hk
  refine ⟨h4, ini.map (fun z => z.1.2), t.map (·.2), ?_, fun r hr => ?_⟩
  · rw [← bk_all, ht, ← h]
    simp
  · obtain ⟨z, hz, rfl⟩ := List.mem_map.1 hr
    simp [h3 z hz]
set_option maxHeartbeats 6400000 in
set_option maxRecDepth 100000 in
theorem victim_any (w : World) (F : List Nat) (p : Nat) (s : Pl) (lm cm nl nc : Nat) (A : Option Addr) (c : Nat) (f : Int → Option LnV) (h : PlAt w F p s lm cm nl nc A c f) (hl : s.li.length ≤ 1000) (y : Int)
    (h0 : ∀ r ∈ s.li, r.l = 0 → ∃ n, s.ln 0 = some n ∧ n.it.head? = some y) :
    Calls Tryz.prog 13 #[.pointer (some ⟨p, 0, none⟩)] w fun e w' => e = .returned (.tuple #[.int .i64 (((vicV s y).map (·.l)).getD 0), .int .i64 (((vicV s y).map (·.i)).getD 0), .int .i64 (((vicV s y).map (·.t)).getD 0), .bool (vicV s y).isSome]) ∧ Keeps [] w w' := by
  have HH := Lib.hid h
  have f1 : w.cell? ⟨p, 1, none⟩ = some (.slice A s.li.length c) := h.b.cell 1
  have hpl := h.b.lt
  have HA := Lib.hid (AtR.of_own h.o (by omega))
  have H0 := Lib.hid h0
  clear h h0
  suffices hsuf : Calls Tryz.prog 13 #[.pointer (some ⟨p, 0, none⟩)] w fun e w' => e = .returned (.tuple #[.int .i64 (((vicV s y).map (·.l)).getD 0), .int .i64 (((vicV s y).map (·.i)).getD 0), .int .i64 (((vicV s y).map (·.t)).getD 0), .bool (vicV s y).isSome]) ∧ Below w.heap.size w w' from
    hsuf.mono (fun e w' h => ⟨h.1, Keeps.of_below h.2 []⟩)
  have k5 : Keeps [] w (((((w.alloc (.cells #[.pointer (some ⟨p, 0, none⟩)] 26)).alloc (.cells #[.int .i64 0] 3)).alloc (.cells #[.int .i64 0] 3)).alloc (.cells #[.int .i64 0] 3)).alloc (.cells #[.bool false] 4)) := (((((Keeps.refl [] w).alloc _).alloc _).alloc _).alloc _).alloc _
  have f15 : (((((w.alloc (.cells #[.pointer (some ⟨p, 0, none⟩)] 26)).alloc (.cells #[.int .i64 0] 3)).alloc (.cells #[.int .i64 0] 3)).alloc (.cells #[.int .i64 0] 3)).alloc (.cells #[.bool false] 4)).cell? ⟨p, 1, none⟩ = some (.slice A s.li.length c) := (k5.cell (p := ⟨p, 1, none⟩) hpl (by simp)).trans f1
  clear k5
  refine (callsIn_wide (n := 5)).1 ?_
  refine callsIn_of_wp_marks Tryz.func13 rfl trivial ?_ rfl
  simp only [Tryz.ntmps13, List.size_toArray, List.length_cons, List.length_nil, Nat.reduceAdd, Nat.reduceSub, Array.replicate_succ, Array.replicate_zero, List.push_toArray, List.append_toArray, List.nil_append, List.cons_append]
  gi_wp2_with fail
  refine ⟨trivial, ?_⟩
  refine (callsIn_wide.2 (backward_any _ A s.li.length c)).mono ?_
  rintro e w' ⟨rfl, rfl⟩
  gi_wp2_with fail
  simp only [Nat.add_assoc, Nat.reduceAdd]
  have kb : Below w.heap.size w ((((((w.alloc (.cells #[.pointer (some ⟨p, 0, none⟩)] 26)).alloc (.cells #[.int .i64 0] 3)).alloc (.cells #[.int .i64 0] 3)).alloc (.cells #[.int .i64 0] 3)).alloc (.cells #[.bool false] 4)).alloc (.cells #[.slice A s.li.length c] 58)) := ((((((Below.refl _ w).alloc (Nat.le_refl _) _).alloc (by simp) _).alloc (by simp; omega) _).alloc (by simp; omega) _).alloc (by simp; omega) _).alloc (by simp; omega) _
  have vb : VB ((((((w.alloc (.cells #[.pointer (some ⟨p, 0, none⟩)] 26)).alloc (.cells #[.int .i64 0] 3)).alloc (.cells #[.int .i64 0] 3)).alloc (.cells #[.int .i64 0] 3)).alloc (.cells #[.bool false] 4)).alloc (.cells #[.slice A s.li.length c] 58)) w.heap.size p 0 0 0 false := by
    have e1 : (w.alloc (.cells #[.pointer (some ⟨p, 0, none⟩)] 26)).heap.size = w.heap.size + 1 := by simp
    have e2 : ((w.alloc (.cells #[.pointer (some ⟨p, 0, none⟩)] 26)).alloc (.cells #[.int .i64 0] 3)).heap.size = w.heap.size + 2 := by simp
    have e3 : (((w.alloc (.cells #[.pointer (some ⟨p, 0, none⟩)] 26)).alloc (.cells #[.int .i64 0] 3)).alloc (.cells #[.int .i64 0] 3)).heap.size = w.heap.size + 3 := by simp
    have e4 : ((((w.alloc (.cells #[.pointer (some ⟨p, 0, none⟩)] 26)).alloc (.cells #[.int .i64 0] 3)).alloc (.cells #[.int .i64 0] 3)).alloc (.cells #[.int .i64 0] 3)).heap.size = w.heap.size + 4 := by simp
    have x0 := (((((Blk.new w 26 #[.pointer (some ⟨p, 0, none⟩)]).alloc (.cells #[.int .i64 0] 3)).alloc (.cells #[.int .i64 0] 3)).alloc (.cells #[.int .i64 0] 3)).alloc (.cells #[.bool false] 4)).alloc (.cells #[.slice A s.li.length c] 58)
    have x1 := ((((Blk.new (w.alloc (.cells #[.pointer (some ⟨p, 0, none⟩)] 26)) 3 #[.int .i64 0]).alloc (.cells #[.int .i64 0] 3)).alloc (.cells #[.int .i64 0] 3)).alloc (.cells #[.bool false] 4)).alloc (.cells #[.slice A s.li.length c] 58)
    have x2 := (((Blk.new ((w.alloc (.cells #[.pointer (some ⟨p, 0, none⟩)] 26)).alloc (.cells #[.int .i64 0] 3)) 3 #[.int .i64 0]).alloc (.cells #[.int .i64 0] 3)).alloc (.cells #[.bool false] 4)).alloc (.cells #[.slice A s.li.length c] 58)
    have x3 := ((Blk.new (((w.alloc (.cells #[.pointer (some ⟨p, 0, none⟩)] 26)).alloc (.cells #[.int .i64 0] 3)).alloc (.cells #[.int .i64 0] 3)) 3 #[.int .i64 0]).alloc (.cells #[.bool false] 4)).alloc (.cells #[.slice A s.li.length c] 58)
    have x4 := (Blk.new ((((w.alloc (.cells #[.pointer (some ⟨p, 0, none⟩)] 26)).alloc (.cells #[.int .i64 0] 3)).alloc (.cells #[.int .i64 0] 3)).alloc (.cells #[.int .i64 0] 3)) 4 #[.bool false]).alloc (.cells #[.slice A s.li.length c] 58)
    rw [e1] at x1
    rw [e2] at x2
    rw [e3] at x3
    rw [e4] at x4
    exact ⟨x0, x1, x2, x3, x4⟩
  have hbs : ((((((w.alloc (.cells #[.pointer (some ⟨p, 0, none⟩)] 26)).alloc (.cells #[.int .i64 0] 3)).alloc (.cells #[.int .i64 0] 3)).alloc (.cells #[.int .i64 0] 3)).alloc (.cells #[.bool false] 4)).alloc (.cells #[.slice A s.li.length c] 58)).heap[w.heap.size + 5]? = some (.cells #[.slice A s.li.length c] 58 (0, 0)) := by
    have h := Blk.new (((((w.alloc (.cells #[.pointer (some ⟨p, 0, none⟩)] 26)).alloc (.cells #[.int .i64 0] 3)).alloc (.cells #[.int .i64 0] 3)).alloc (.cells #[.int .i64 0] 3)).alloc (.cells #[.bool false] 4)) 58 #[.slice A s.li.length c]
    have e5 : (((((w.alloc (.cells #[.pointer (some ⟨p, 0, none⟩)] 26)).alloc (.cells #[.int .i64 0] 3)).alloc (.cells #[.int .i64 0] 3)).alloc (.cells #[.int .i64 0] 3)).alloc (.cells #[.bool false] 4)).heap.size = w.heap.size + 5 := by simp
    rw [e5] at h
    exact h
  have hsz : ((((((w.alloc (.cells #[.pointer (some ⟨p, 0, none⟩)] 26)).alloc (.cells #[.int .i64 0] 3)).alloc (.cells #[.int .i64 0] 3)).alloc (.cells #[.int .i64 0] 3)).alloc (.cells #[.bool false] 4)).alloc (.cells #[.slice A s.li.length c] 58)).heap.size = w.heap.size + 6 := by simp
  have hAb : 0 < s.li.length → ∃ b off, A = some ⟨b, off, none⟩ ∧ b < w.heap.size := fun h => by
    obtain ⟨b, off, h1, h2, _⟩ := HA.out.at_ h
    exact ⟨b, off, h1, h2⟩
  have HAb := Lib.hid hAb
  have haw := HA.out.keep (Keeps.of_below kb [])
  obtain ⟨W0, hW0⟩ : ∃ W0, ((((((w.alloc (.cells #[.pointer (some ⟨p, 0, none⟩)] 26)).alloc (.cells #[.int .i64 0] 3)).alloc (.cells #[.int .i64 0] 3)).alloc (.cells #[.int .i64 0] 3)).alloc (.cells #[.bool false] 4)).alloc (.cells #[.slice A s.li.length c] 58)) = W0 := ⟨_, rfl⟩
  rw [hW0] at kb vb hbs hsz haw ⊢
  clear hW0 f15 hAb f1
  obtain ⟨B, hB⟩ : ∃ B, w.heap.size = B := ⟨_, rfl⟩
  have HBw := Lib.hid hB
  rw [hB] at kb vb hbs hsz HAb ⊢
  refine wpIn_rangeFunc_ownH rfl (by omega) (gf := 64) (lb := #[.pointer (some ⟨B + 5, 0, none⟩)]) rfl trivial (enters_of Tryz.func64 (by kernel_rfl) rfl)
    (back_stops 4 (by omega) (B + 5) B A s.li c hl HAb.out W0 hbs haw) (fun h k => ⟨h.1.trans k.1, k.2.trans h.2⟩) (fun W l o o' hl' h ho hw => ⟨belowK_b (w := W0) (by omega) W l o o' hl' h ho hw, World.putObj_heap_other (by omega)⟩) (Below.refl _ _) (fun _ => rfl)
    (fun pre W => VB W B p 0 0 0 false ∧ Below B w W ∧ (∀ x ∈ pre, vicP y x.1.2 = false) ∧ B + 6 ≤ W.heap.size) (fun cd pre W => cd = .ret ∧ ∃ ini x, pre = ini ++ [x] ∧ VB W B p x.1.2.l x.1.2.i x.1.2.t true ∧ Below B w W ∧ (∀ z ∈ ini, vicP y z.1.2 = false) ∧ vicP y x.1.2 = true)
    ?own1 ?own2 ⟨vb, kb, by simp, by omega⟩ (fun x a' W => ∃ Bx, B + 6 ≤ Bx ∧ Blk W Bx 69 #[.int .i64 x.1.2.l, .int .i64 x.1.2.i, .int .i64 x.1.2.t, .bool x.1.2.d] ∧ a' = { tmps := #[.pointer (some ⟨p, 0, none⟩), .pointer (some ⟨B, 0, none⟩), .pointer (some ⟨B + 1, 0, none⟩), .pointer (some ⟨B + 2, 0, none⟩), .pointer (some ⟨B + 3, 0, none⟩), .pointer (some ⟨B + 4, 0, none⟩), undef, .pointer (some ⟨Bx, 0, none⟩), .pointer (some ⟨p, 0, none⟩), .pointer (some ⟨p, 0, none⟩), .pointer (some ⟨p, 1, none⟩), .slice A s.li.length c, .func (.func 64) #[] #[.pointer (some ⟨B + 5, 0, none⟩)], .int .i64 x.1.1, .agg #[.int .i64 x.1.2.l, .int .i64 x.1.2.i, .int .i64 x.1.2.t, .bool x.1.2.d], undef, undef, undef, undef, undef, undef, undef, undef, undef, undef, undef, undef, undef, undef, undef, undef, undef, undef, undef, undef, undef, undef], defers := [] }) ?own3 ?assign ?body ?done ?stop
  case own1 =>
    rintro pre W W' row ⟨h1, h2, h3, h4⟩ hg hr
    exact ⟨h1.grown hg (fun r e => by have := (hr r e).1; omega), below_grown h2 hg (by rw [HBw.out]; exact Nat.le_refl _) (fun r e => by have := (hr r e).1; omega), h3, Nat.le_trans h4 hg.size⟩
  case own2 =>
    rintro cd pre W W' row ⟨h0, ini, x, h1, h2, h3, h4⟩ hg hr
    exact ⟨h0, ini, x, h1, h2.grown hg (fun r e => by have := (hr r e).1; omega), below_grown h3 hg (by rw [HBw.out]; exact Nat.le_refl _) (fun r e => by have := (hr r e).1; omega), h4⟩
  case own3 =>
    rintro x a' _ W W' row ⟨Bx, h1, h2, h3⟩ hg hr
    refine ⟨Bx, h1, h2.grown hg (fun e => ?_), h3⟩
    obtain ⟨o, ho1, ho2⟩ := (hr _ e.symm).2
    unfold Blk at h2
    rw [h2] at ho1
    injection ho1 with ho1
    subst ho1
    simp [Obj.isCells] at ho2
  case assign =>
    rintro l pre ⟨⟨xi, xr⟩, hxm⟩ W K ⟨h1, h2, h3, h4⟩ hK
    unfold encR
    gi_wp2
    have hg := World.grownBy_alloc W (.cells #[.int .i64 xr.l, .int .i64 xr.i, .int .i64 xr.t, .bool xr.d] 69) none
    exact hK _ _ ((KeepsOthers.alloc _ _).from _) ⟨(Below.refl _ W).alloc (by omega) _, Below.heap_alloc _ _ _ (by omega)⟩
      ⟨h1.grown hg (fun r e => by cases e), below_grown h2 hg (by rw [HBw.out]; exact Nat.le_refl _) (fun r e => by cases e), h3, by simp; omega⟩ ⟨W.heap.size, h4, Blk.new _ _ _, rfl⟩
  case body =>
    rintro l pre ⟨⟨xi, xr⟩, hxm⟩ a' W hl' ⟨rr, hrr⟩ ⟨h1, h2, h3, h4⟩ ⟨Bx, hBx, hbx, rfl⟩ hlen
    dsimp only
    refine wpIn_block ?_
    refine wpIn_seq ?_
    have hkw : Keeps [] w W := Keeps.of_below (by rw [HBw.out]; exact h2) []
    by_cases hne : xr.l = 0
    · obtain ⟨n, hn, hy⟩ := H0.out xr hxm hne
      have hp := HH.out.keep0 hkw
      have hlk := fun (W' : World) (k : Keeps [] W W') => (hp.keep0 k).ml.look1 (kI_ok (x := 0) (by omega) (by omega)) Tryz.underlying57 (zero66 W')
      rcases hp.ls 0 with ⟨_, e2⟩ | ⟨v, n', e1, e2, e3, e4, e5, e6, e7⟩
      · rw [e2] at hn; cases hn
      obtain rfl : n = n' := by rw [hn] at e2; injection e2
      rw [e1] at hlk
      obtain ⟨rest, hit⟩ : ∃ rest, n.it = y :: rest := by
        cases hx : n.it with
        | nil => rw [hx] at hy; cases hy
        | cons z rest => rw [hx] at hy; injection hy with hy; subst hy; exact ⟨rest, rfl⟩
      have hvn : 0 < v.n := by rw [e6, hit]; simp
      obtain ⟨g, hg⟩ : ∃ g, v.b = some g := by
        obtain ⟨_, _, hv, -, -, hA⟩ := own_shape e7
        obtain ⟨g, hg⟩ := hA (by rw [hit]; simp)
        injection hv with hv
        rw [hg] at hv
        cases hb : v.b with
        | none => rw [hb] at hv; cases hv
        | some g' => exact ⟨g', rfl⟩
      have hc0 : ∀ W', Keeps [] W W' → W'.cell? ⟨g, 0, none⟩ = some (.int .i64 y) := fun W' k => by
        have e8 := own_keep e7 k (by simp)
        rw [hg] at e8
        exact own_cell e8 (by rw [hit]; rfl)
      have hl' : ∀ W', Keeps [] W W' → (Instr.lookup 57 (.map (some lm)) (.int .i64 0) false).run Tryz.prog W' = .ok (.agg #[.int .i64 v.id, .int .i64 v.par, .int .i64 v.pid, .slice (some ⟨g, 0, none⟩) v.n v.c]) W' := fun W' k => by
        have h := hlk W' k
        have e : (Option.map eL.val (some v)).getD (.agg #[.int .i64 0, .int .i64 0, .int .i64 0, .slice none 0 0]) = .agg #[.int .i64 v.id, .int .i64 v.par, .int .i64 v.pid, .slice (some ⟨g, 0, none⟩) v.n v.c] := by
          show Value.agg #[.int .i64 v.id, .int .i64 v.par, .int .i64 v.pid, .slice (v.b.map fun g => ⟨g, 0, none⟩) v.n v.c] = _
          rw [hg]; rfl
        rw [e] at h
        exact h
      have hbx' : Blk W Bx 69 #[.int .i64 0, .int .i64 xr.i, .int .i64 xr.t, .bool xr.d] := by rw [← hne]; exact hbx
      have f0 := fun (W' : World) (k : Keeps [] W W') => (hp.keep0 k).b.cell 0
      refine vic3b_any l _ W B Bx p lm g 0 v.n v xr.i xr.t y xr.d _ (fun W' k => ⟨hbx'.keep k (by simp), (h1.b0.keep k (by simp)).cell 0, f0 W' k, hl' W' k, hc0 W' k⟩) hvn _ _ _ _ _ _ _ _ _ _ _ _ _ _ _ _ _ _ _ _ _ _ _ _ _ _ _ _ _ _ _ _ _ _ _ ?_
      intro v15 v16 v17 v18 v19 v20 v21 v22 v23 v24 v25 v26 v27 v28 v29 W1 k1
      by_cases hxy : xr.i = y
      · rw [decide_eq_true hxy]
        have hv : vicP y xr = false := by unfold vicP; rw [decide_eq_true hne, decide_eq_true hxy]; rfl
        refine wpIn_cond_false rfl ?_
        refine wpIn_skip ?_
        refine ⟨keepsFrom_of k1 (by simp), ⟨k1.belowB (by omega) (by simp), k1.block _ (by omega) (by simp)⟩, ⟨h1.b0.keep k1 (by simp), h1.b1.keep k1 (by simp), h1.b2.keep k1 (by simp), h1.b3.keep k1 (by simp), h1.b4.keep k1 (by simp)⟩, h2.trans (k1.belowB (by omega) (by simp)), fun z hz => ?_, Nat.le_trans h4 k1.size⟩
        rcases List.mem_append.1 hz with hz | hz
        · exact h3 z hz
        · rw [List.mem_singleton.1 hz]; exact hv
      · rw [decide_eq_false hxy]
        have hv : vicP y xr = true := by unfold vicP; rw [decide_eq_false hxy, Bool.and_false]; rfl
        refine wpIn_cond_true rfl ?_
        refine wpIn_seq ?_
        refine vic4_any l _ W1 (B + 1) (B + 2) (B + 3) (B + 4) Bx xr.l xr.i xr.t xr.d (by omega) (by omega) (by omega) (by omega) (by omega) (by omega) (by omega) (by omega) (by omega) (by omega) _ (fun W' k => ⟨(hbx.keep k1 (by simp)).keep k (by simp), ⟨_, (h1.b1.keep k1 (by simp)).keep k (by simp)⟩, ⟨_, (h1.b2.keep k1 (by simp)).keep k (by simp)⟩, ⟨_, (h1.b3.keep k1 (by simp)).keep k (by simp)⟩, ⟨_, (h1.b4.keep k1 (by simp)).keep k (by simp)⟩⟩) _ _ _ _ _ _ _ _ _ _ _ _ _ _ _ _ _ _ _ _ _ _ _ _ _ _ _ _ _ _ _ _ ?_
        intro v31 v32 v33 v34 v35 v36 W2 x1 x2 x3 x4 k2
        have kk : Keeps [B + 1, B + 2, B + 3, B + 4] W W2 := (k1.mono (by simp)).trans k2 (fun g hg => .inl hg)
        refine wpIn_ret ?_
        exact ⟨keepsFrom_of kk (fun g hg => by simp at hg; omega), rfl, pre, ⟨(xi, xr), hxm⟩, rfl, ⟨h1.b0.keep kk (by simp), x1, x2, x3, x4⟩, h2.trans (kk.belowB (by omega) (fun g hg => by simp at hg; omega)), h3, hv⟩
    · refine vic3a_any l _ W B Bx xr.l xr.i xr.t xr.d _ (fun W' k => hbx.keep k (by simp)) hne _ _ _ _ _ _ _ _ _ _ _ _ _ _ _ _ _ _ _ _ _ _ _ _ _ _ _ _ _ _ _ _ _ _ _ ?_
      intro v15 v16 v17 v18 v19 v20 v21 v22 v23 v24 v25 v26 v27 v28 v29 W1 k1
      have hv : vicP y xr = true := by unfold vicP; rw [decide_eq_false hne]; rfl
      refine wpIn_cond_true rfl ?_
      refine wpIn_seq ?_
      refine vic4_any l _ W1 (B + 1) (B + 2) (B + 3) (B + 4) Bx xr.l xr.i xr.t xr.d (by omega) (by omega) (by omega) (by omega) (by omega) (by omega) (by omega) (by omega) (by omega) (by omega) _ (fun W' k => ⟨(hbx.keep k1 (by simp)).keep k (by simp), ⟨_, (h1.b1.keep k1 (by simp)).keep k (by simp)⟩, ⟨_, (h1.b2.keep k1 (by simp)).keep k (by simp)⟩, ⟨_, (h1.b3.keep k1 (by simp)).keep k (by simp)⟩, ⟨_, (h1.b4.keep k1 (by simp)).keep k (by simp)⟩⟩) _ _ _ _ _ _ _ _ _ _ _ _ _ _ _ _ _ _ _ _ _ _ _ _ _ _ _ _ _ _ _ _ ?_
      intro v31 v32 v33 v34 v35 v36 W2 x1 x2 x3 x4 k2
      have kk : Keeps [B + 1, B + 2, B + 3, B + 4] W W2 := (k1.mono (by simp)).trans k2 (fun g hg => .inl hg)
      refine wpIn_ret ?_
      exact ⟨keepsFrom_of kk (fun g hg => by simp at hg; omega), rfl, pre, ⟨(xi, xr), hxm⟩, rfl, ⟨h1.b0.keep kk (by simp), x1, x2, x3, x4⟩, h2.trans (kk.belowB (by omega) (fun g hg => by simp at hg; omega)), h3, hv⟩
  case done =>
    rintro D ys W hD hys ⟨h1, h2, h3, h4⟩ hK
    have c1 : W.cell? ⟨B + 1, 0, none⟩ = some (.int .i64 0) := h1.b1.cell 0
    have c2 : W.cell? ⟨B + 2, 0, none⟩ = some (.int .i64 0) := h1.b2.cell 0
    have c3 : W.cell? ⟨B + 3, 0, none⟩ = some (.int .i64 0) := h1.b3.cell 0
    have c4 : W.cell? ⟨B + 4, 0, none⟩ = some (.bool false) := h1.b4.cell 0
    have g1 : W.frozen? ⟨B + 1, 0, none⟩ = false := h1.b1.frozen 0
    have g2 : W.frozen? ⟨B + 2, 0, none⟩ = false := h1.b2.frozen 0
    have g3 : W.frozen? ⟨B + 3, 0, none⟩ = false := h1.b3.frozen 0
    have g4 : W.frozen? ⟨B + 4, 0, none⟩ = false := h1.b4.frozen 0
    gi_wp2
    have kk : Keeps [B + 1, B + 2, B + 3, B + 4] W ((((W.setCell ⟨B + 1, 0, none⟩ (.int .i64 0)).setCell ⟨B + 2, 0, none⟩ (.int .i64 0)).setCell ⟨B + 3, 0, none⟩ (.int .i64 0)).setCell ⟨B + 4, 0, none⟩ (.bool false)) :=
      ((((Keeps.refl _ W).setCell (.inl (by simp)) _).setCell (.inl (by simp)) _).setCell (.inl (by simp)) _).setCell (.inl (by simp)) _
    have vb4 : VB ((((W.setCell ⟨B + 1, 0, none⟩ (.int .i64 0)).setCell ⟨B + 2, 0, none⟩ (.int .i64 0)).setCell ⟨B + 3, 0, none⟩ (.int .i64 0)).setCell ⟨B + 4, 0, none⟩ (.bool false)) B p 0 0 0 false :=
      ⟨h1.b0.keep kk (by simp), (((h1.b1.set_ 0 _).far (by simp) _).far (by simp) _).far (by simp) _, (((h1.b2.far (by simp) _).set_ 0 _).far (by simp) _).far (by simp) _, (((h1.b3.far (by simp) _).far (by simp) _).set_ 0 _).far (by simp) _, (((h1.b4.far (by simp) _).far (by simp) _).far (by simp) _).set_ 0 _⟩
    have hDl : D < W.heap.size := (Array.getElem?_eq_some_iff.1 hK).1
    have hK4 := (kk.block D hDl (by simp; omega)).trans hK
    have hb4 := h2.trans (kk.belowB (B := B) (by omega) (fun g hg => by simp at hg; omega))
    rw [vic_none hys h3]
    generalize ((((W.setCell ⟨B + 1, 0, none⟩ (.int .i64 0)).setCell ⟨B + 2, 0, none⟩ (.int .i64 0)).setCell ⟨B + 3, 0, none⟩ (.int .i64 0)).setCell ⟨B + 4, 0, none⟩ (.bool false)) = W4 at vb4 hK4 hb4 ⊢
    clear kk h1 h2 h3 h4 c1 c2 c3 c4 g1 g2 g3 g4 hK hDl
    refine ⟨by simp, .inl ⟨_, _, rfl, run_takeDeferred hK4, ?_⟩⟩
    have v5 := vb4.grown (grownBy_putObj' W4 D (.deferred none)) (fun r e => by cases e; omega)
    have q1 : (W4.putObj D (.deferred none)).cell? ⟨B + 1, 0, none⟩ = some (.int .i64 0) := v5.b1.cell 0
    have q2 : (W4.putObj D (.deferred none)).cell? ⟨B + 2, 0, none⟩ = some (.int .i64 0) := v5.b2.cell 0
    have q3 : (W4.putObj D (.deferred none)).cell? ⟨B + 3, 0, none⟩ = some (.int .i64 0) := v5.b3.cell 0
    have q4 : (W4.putObj D (.deferred none)).cell? ⟨B + 4, 0, none⟩ = some (.bool false) := v5.b4.cell 0
    refine ⟨.tuple #[.int .i64 0, .int .i64 0, .int .i64 0, .bool false], ?_, rfl, ?_⟩
    · simp [results, Tryz.f13, go_sem, q1, q2, q3, q4, Result.andThen]
    · rw [HBw.out]
      exact below_grown hb4 (grownBy_putObj' W4 D (.deferred none)) (by omega) (fun r e => by cases e; omega)
  case stop =>
    rintro D cd pre W hD ⟨k, hk, hpre⟩ ⟨rfl, ini, x, hx, h1, h2, h3, h4⟩ hK
    gi_wp2
    subst hx
    rw [vic_some hk hpre h3 h4]
    refine ⟨by simp, .inl ⟨_, _, rfl, run_takeDeferred hK, ?_⟩⟩
    have v5 := h1.grown (grownBy_putObj' W D (.deferred none)) (fun r e => by cases e; omega)
    have q1 : (W.putObj D (.deferred none)).cell? ⟨B + 1, 0, none⟩ = some (.int .i64 x.1.2.l) := v5.b1.cell 0
    have q2 : (W.putObj D (.deferred none)).cell? ⟨B + 2, 0, none⟩ = some (.int .i64 x.1.2.i) := v5.b2.cell 0
    have q3 : (W.putObj D (.deferred none)).cell? ⟨B + 3, 0, none⟩ = some (.int .i64 x.1.2.t) := v5.b3.cell 0
    have q4 : (W.putObj D (.deferred none)).cell? ⟨B + 4, 0, none⟩ = some (.bool true) := v5.b4.cell 0
    refine ⟨.tuple #[.int .i64 x.1.2.l, .int .i64 x.1.2.i, .int .i64 x.1.2.t, .bool true], ?_, rfl, ?_⟩
    · simp [results, Tryz.f13, go_sem, q1, q2, q3, q4, Result.andThen]
    · rw [HBw.out]
      exact below_grown h2 (grownBy_putObj' W D (.deferred none)) (by omega) (fun r e => by cases e; omega)
end Go.Proofs.YtcopjjokhjealaaGreat
namespace Go.Proofs.YtcopjjokhjealaaGreat
open Go.RowKit

theorem info56 : (Tryz.prog.info? 56).map (fun i => (i.zero, i.size, i.bytes)) = some (some (.agg #[.int .i64 0, .int .i64 0, .int .i64 0, .slice none 0 0]), 4, 48) := by kernel_rfl
def lcs (v : LnV) : List Value := [.int .i64 v.id, .int .i64 v.par, .int .i64 v.pid, .slice (v.b.map fun g => ⟨g, 0, none⟩) v.n v.c]
theorem lcs_len (x : LnV) : (lcs x).length = 4 := rfl
theorem lcs_one (x : LnV) : ∀ u ∈ lcs x, u.oneCell' = true := by intro u hu; simp [lcs] at hu; rcases hu with rfl | rfl | rfl | rfl <;> rfl
/-- The lines told lie in memory. -/
def VsAt (s : Pl) (w : World) (vs : List LnV) : Prop := ∀ v ∈ vs, ∃ n, s.ln v.id = some n ∧ LnAt w v.id v n
theorem LnAt.keep {w w' : World} {G : List Nat} {x : Int} {v : LnV} {n : Ln} (h : LnAt w x v n) (hk : Keeps G w w') (hG : ∀ g ∈ G, ¬ IntRow w g) : LnAt w' x v n := by
  obtain ⟨h3, h4, h5, h6, h7⟩ := h
  exact ⟨h3, h4, h5, h6, own_keep h7 hk (fun g hg hgG => hG g hgG (own_int h7 g hg))⟩
theorem VsAt.keep {s : Pl} {w w' : World} {G : List Nat} {vs : List LnV} (h : VsAt s w vs) (hk : Keeps G w w') (hG : ∀ g ∈ G, ¬ IntRow w g) : VsAt s w' vs := fun v hv => by
  obtain ⟨n, h1, h2⟩ := h v hv
  exact ⟨n, h1, h2.keep hk hG⟩
theorem row_noInt {w : World} {e size n : Nat} {v : Value} {xs : List Value} (h : w.ownsRow 0 e size v n xs) (he : e ≠ 3) : ∀ g ∈ fp v, ¬ IntRow w g := by
  rintro g hg ⟨cs, fr, hr⟩
  rcases h.2 with ⟨rfl, _⟩ | ⟨g', cap, cur, rfl, _, hh, _⟩
  · simp at hg
  · simp at hg
    subst hg
    rw [hr] at hh
    injection hh with hh
    injection hh with _ hh
    exact he hh.symm
theorem blk_noInt {w : World} {g t : Nat} {cs : Array Value} (h : Blk w g t cs) (ht : t ≠ 3) : ¬ IntRow w g := by
  rintro ⟨cs', fr, hr⟩
  unfold Blk at h
  rw [hr] at h
  injection h with h
  injection h with _ h
  exact ht h.symm
set_option maxRecDepth 100000 in
set_option maxHeartbeats 6400000 in
theorem lines_any (w : World) (F : List Nat) (p : Nat) (s : Pl) (lm cm nl nc : Nat) (A : Option Addr) (c : Nat) (f : Int → Option LnV) (h : PlAt w F p s lm cm nl nc A c f) (hnl : nl ≤ 1000) (hs : ∀ x n, s.ln x = some n → kI.ok x) (hi : ∀ x n, s.ln x = some n → n.it.length ≤ 1000) :
    Calls Tryz.prog 41 #[.pointer (some ⟨p, 0, none⟩)] w fun e w' => ∃ v vs, e = .returned v ∧ Asc (vs.map (·.id)) ∧ (∀ x, x ∈ vs.map (·.id) ↔ (s.ln x).isSome = true) ∧ w'.ownsRow 0 56 4 v vs.length (rw lcs vs) ∧ VsAt s w' vs ∧ Keeps [] w w' ∧ (∀ g ∈ fp v, w.heap.size ≤ g) ∧ vs.length ≤ 1000 := by
  have f0 : w.cell? ⟨p, 0, none⟩ = some (.map (some lm)) := h.b.cell 0
  have hpl := h.b.lt
  have HH := Lib.hid h
  have HS := Lib.hid hs
  have HIL := Lib.hid hi
  have HI := Lib.hid info56
  have kb : Keeps [] w (w.alloc (.cells #[.map (some lm)] 57)) := (Keeps.refl _ _).alloc _
  have B1 : Blk (w.alloc (.cells #[.map (some lm)] 57)) w.heap.size 57 #[.map (some lm)] := Blk.new w 57 _
  have SO := Lib.hid (sorted_gm _ lm nl w.heap.size f (h.ml.keep kb (by simp)) (by omega) B1)
  have KB := Lib.hid kb
  clear h hs hi kb B1
  go_enter Tryz.func41, Tryz.ntmps41
  go_wp2_with fail
  refine (keys_any _ _).mono ?_
  rintro e w1 ⟨rfl, rfl⟩
  go_wp2_with fail
  refine SO.out.mono ?_
  rintro e w2 ⟨v2, ids, rfl, ha, hm, hln, ho, k2, f2⟩
  obtain ⟨A2, c2, rfl, -, -, hA⟩ := own_shape ho
  have hil : ids.length ≤ 1000 := by omega
  have hma : ∀ x, x ∈ ids ↔ (s.ln x).isSome = true := fun x => by
    rw [hm x, HH.out.ls.some_iff x]
    constructor
    · exact fun h => h.2
    · intro hx
      obtain ⟨n, hn⟩ := Option.isSome_iff_exists.1 hx
      exact ⟨HS.out x n hn, hx⟩
  have HMA := Lib.hid hma
  have HAS := Lib.hid ha
  have HO := Lib.hid ho
  have K2 := Lib.hid (KB.out.trans k2 (by simp))
  have hz2 := K2.out.size
  have HOK : Hid (∀ x ∈ ids, kI.ok x) := Lib.hid (fun x hx => ((hm x).1 hx).1)
  clear ha hm hln ho k2 f2 hma SO KB
  go_wp2_with fail
  go_loopw [3, 14] (fun v iv wr => ∃ (k : Nat) (vs : List LnV), k ≤ ids.length ∧ iv = .int .i64 k ∧ vs.map (·.id) = ids.take k ∧ wr.ownsRow 0 56 4 v vs.length (rw lcs vs) ∧ VsAt s wr vs ∧ Keeps [] w2 wr ∧ (∀ g ∈ fp v, w2.heap.size ≤ g)) (fun _ iv _ => ids.length - (intOf iv).toNat)
  case atStart => exact ⟨0, [], by omega, rfl, by simp, World.ownsRow_nil _ _ _ _, fun v hv => (by cases hv), Keeps.refl _ _, by simp⟩
  case round =>
    obtain ⟨k, vs, hk, rfl, hmp, ho3, hvs, k3, f3⟩ := hrel
    have HMP := Lib.hid hmp
    have HO3 := Lib.hid ho3
    have HVS := Lib.hid hvs
    have K3 := Lib.hid k3
    have F3 := Lib.hid f3
    obtain ⟨q, hq⟩ : ∃ q, vs.length = q := ⟨_, rfl⟩
    have hvl : vs.length = k := by have := congrArg List.length hmp; simp at this; omega
    obtain rfl : q = k := hq.symm.trans hvl
    clear hvl
    have HQ := Lib.hid hq
    rw [hq] at ho3
    replace HO3 := Lib.hid ho3
    obtain ⟨A3, c3, rfl, -, -, -⟩ := own_shape ho3
    clear hmp ho3 hvs k3 f3 hq
    by_cases hlt : q < ids.length
    rotate_left
    · obtain rfl : q = ids.length := by omega
      have hmp := HMP.out
      rw [List.take_length] at hmp
      have HMQ := Lib.hid hmp
      have HKF := Lib.hid (K2.out.trans K3.out (by simp))
      clear hmp HMP
      go_wp2_with fail
      go_ret
      exact ⟨_, vs, rfl, by rw [HMQ.out]; exact HAS.out, fun x => by rw [HMQ.out]; exact HMA.out x, by rw [HQ.out]; exact HO3.out, HVS.out, HKF.out, fun g hg => Nat.le_trans hz2 (F3.out g hg), by rw [HQ.out]; omega⟩
    · obtain ⟨g2, rfl⟩ := hA (by omega)
      have hx := HH.out.keep0 (K2.out.trans K3.out (by simp))
      have e0 := hx.b.cell 0
      have hxm : ids[q] ∈ ids := List.getElem_mem hlt
      have hso := (HMA.out ids[q]).1 hxm
      have hok := HOK.out _ hxm
      have hdt := List.take_succ_eq_append_getElem hlt
      have ow := own_keep HO.out K3.out (by simp)
      have y0 := own_cell ow (j := q) (u := .int .i64 ids[q]) (by unfold zs; rw [List.getElem?_map, List.getElem?_eq_getElem hlt]; rfl)
      obtain ⟨x, hxe⟩ : ∃ x, ids[q] = x := ⟨_, rfl⟩
      rw [hxe] at hso hok hdt y0
      have HDT := Lib.hid hdt
      have hlk := hx.ml.look1 hok Tryz.underlying57 (zero66 wr)
      rcases hx.ls x with ⟨_, e2⟩ | ⟨v, n, e1, e2, e3, e4, e5, e6, e7⟩
      · rw [e2] at hso; cases hso
      rw [e1] at hlk
      have hnl' := HIL.out x n e2
      obtain ⟨vid, vpar, vpid, vb, vn0, vc⟩ := v
      dsimp only at e3 e4 e5 e6 e7
      replace e3 := e3.symm
      subst e3 e4 e5
      have hl' : (Instr.lookup 57 (.map (some lm)) (.int .i64 x) false).run Tryz.prog wr = .ok (.agg #[.int .i64 x, .int .i64 n.par, .int .i64 n.pid, .slice (vb.map fun g => ⟨g, 0, none⟩) vn0 vc]) wr := hlk
      rw [e6] at hl'
      obtain ⟨Ai, hAi⟩ : ∃ Ai, (vb.map fun g => (⟨g, 0, none⟩ : Addr)) = Ai := ⟨_, rfl⟩
      rw [hAi] at hl' e7
      have HZ := Lib.hid (AtZ.of_own e7 (by omega))
      have HE2 := Lib.hid e2
      have KA : Hid (Keeps [] wr (wr.alloc (.cells #[.int .i64 x, .int .i64 n.par, .int .i64 n.pid, .slice Ai n.it.length vc] 56))) := Lib.hid ((Keeps.refl _ _).alloc _)
      have BQ : Hid (Blk (wr.alloc (.cells #[.int .i64 x, .int .i64 n.par, .int .i64 n.pid, .slice Ai n.it.length vc] 56)) wr.heap.size 56 #[.int .i64 x, .int .i64 n.par, .int .i64 n.pid, .slice Ai n.it.length vc]) := Lib.hid (Blk.new _ _ _)
      have CI := Lib.hid (cloneI_any _ Ai n.it vc (HZ.out.keep KA.out))
      have i0 : (0 : Int) ≤ (q : Int) := by omega
      have i1 : (q : Int) < (ids.length : Int) := by omega
      clear hx hso hok hdt ow hxe hlk e1 e2 e6 e7 hAi hxm hnl'
      go_wp2_with fail
      refine CI.out.mono ?_
      rintro e w5 ⟨v5, rfl, o5, k5, f5⟩
      obtain ⟨g5, c5, hv5, -⟩ := own_opt o5
      subst hv5
      have bq5 := BQ.out.keep k5 (by simp)
      have q0 : w5.cell? ⟨wr.heap.size, 0, none⟩ = some (.int .i64 x) := bq5.cell 0
      have q1 : w5.cell? ⟨wr.heap.size, 1, none⟩ = some (.int .i64 n.par) := bq5.cell 1
      have q2 : w5.cell? ⟨wr.heap.size, 2, none⟩ = some (.int .i64 n.pid) := bq5.cell 2
      have q3 : w5.cell? ⟨wr.heap.size, 3, none⟩ = some (.slice Ai n.it.length vc) := bq5.cell 3
      have qf : w5.frozen? ⟨wr.heap.size, 3, none⟩ = false := bq5.frozen 3
      have hqi := blk_noInt bq5 (by decide)
      have K5 := Lib.hid (KA.out.trans k5 (by simp))
      have hz5 := K5.out.size
      have hwr : wr.heap.size < w5.heap.size := bq5.lt
      have OV5 := Lib.hid (own_keep HO3.out K5.out (by simp))
      have hqv : wr.heap.size ∉ fp (.slice A3 q c3) := fun hg => Nat.lt_irrefl _ (own_lt HO3.out hg)
      obtain ⟨V5, hV5⟩ : ∃ V5, (g5.map fun g => (⟨g, 0, none⟩ : Addr)) = V5 := ⟨_, rfl⟩
      have HV5 := Lib.hid hV5
      rw [hV5] at o5 ⊢
      have kq : Keeps [wr.heap.size] w5 (w5.setCell ⟨wr.heap.size, 3, none⟩ (.slice V5 n.it.length c5)) := (Keeps.refl _ _).setCell (.inl (by simp)) _
      have O6 := Lib.hid (own_keep o5 kq (fun y hy hyq => by rw [List.mem_singleton.1 hyq] at hy; exact hqi (own_int o5 _ hy)))
      have VS6 := Lib.hid ((HVS.out.keep K5.out (by simp)).keep kq (fun y hy => by rw [List.mem_singleton.1 hy]; exact hqi))
      have OV6 := Lib.hid (own_keep OV5.out kq (fun y hy hyq => by rw [List.mem_singleton.1 hyq] at hy; exact hqv hy))
      have K6 : Hid (Keeps [] w2 (w5.setCell ⟨wr.heap.size, 3, none⟩ (.slice V5 n.it.length c5))) := Lib.hid ((K3.out.trans K5.out (by simp)).trans kq (fun y hy => .inr (by rw [List.mem_singleton.1 hy]; exact K3.out.size)))
      have BQ6 : Hid (Blk (w5.setCell ⟨wr.heap.size, 3, none⟩ (.slice V5 n.it.length c5)) wr.heap.size 56 #[.int .i64 x, .int .i64 n.par, .int .i64 n.pid, .slice V5 n.it.length c5]) := Lib.hid (bq5.set_ 3 _)
      clear o5 k5 f5 bq5 kq hqi hV5 hqv OV5 K5 HVS HO3 BQ KA CI HZ
      have OV7 : Hid (((w5.setCell ⟨wr.heap.size, 3, none⟩ (.slice V5 n.it.length c5)).alloc (.cells #[.int .i64 x, .int .i64 n.par, .int .i64 n.pid, .slice V5 n.it.length c5] 56)).ownsRow 0 56 4 (.slice A3 q c3) q (rw lcs vs)) := Lib.hid (own_keep OV6.out ((Keeps.refl [] _).alloc _) (by simp))
      have HRD : Hid (Reads ((w5.setCell ⟨wr.heap.size, 3, none⟩ (.slice V5 n.it.length c5)).alloc (.cells #[.int .i64 x, .int .i64 n.par, .int .i64 n.pid, .slice V5 n.it.length c5] 56)) (w5.heap.size + 1) 4 (some ⟨w5.heap.size, 0, none⟩) 1 [.int .i64 x, .int .i64 n.par, .int .i64 n.pid, .slice V5 n.it.length c5]) := Lib.hid (by
        have h := reads_cells (w5.setCell ⟨wr.heap.size, 3, none⟩ (.slice V5 n.it.length c5)) #[.int .i64 x, .int .i64 n.par, .int .i64 n.pid, .slice V5 n.it.length c5] 1 4 56 rfl
        have e : (w5.setCell ⟨wr.heap.size, 3, none⟩ (.slice V5 n.it.length c5)).heap.size = w5.heap.size := by simp [World.setCell]
        rw [e] at h
        exact h)
      go_wp2_with (at_builtin; refine wpList_app _ rfl (.tmp 28) (.tmp 30) _ rfl 56 (.agg #[.int .i64 0, .int .i64 0, .int .i64 0, .slice none 0 0]) 4 48 Tryz.underlying62 HI.out rfl (by omega) (.slice A3 q c3) _ _ rfl OV7.out _ _ _ _ [.int .i64 x, .int .i64 n.par, .int .i64 n.pid, .slice V5 n.it.length c5] rfl HRD.out (by simp [Value.oneCell']) (by unfold maxLen; omega) (by omega) ?_)
      intro v8 w8 o8 k8 f8
      have hzs : (w5.setCell ⟨wr.heap.size, 3, none⟩ (.slice V5 n.it.length c5)).heap.size = w5.heap.size := by simp [World.setCell]
      have k68 : Keeps (fp (.slice A3 q c3)) (w5.setCell ⟨wr.heap.size, 3, none⟩ (.slice V5 n.it.length c5)) w8 := (((Keeps.refl [] _).alloc _).mono (by simp)).trans k8 (fun g hg => .inl hg)
      have hni := row_noInt OV6.out (by decide)
      have VS8 : Hid (VsAt s w8 (vs ++ [LnV.mk x n.par n.pid g5 n.it.length c5])) := Lib.hid (fun z hz => by
        rcases List.mem_append.1 hz with hz | hz
        · exact VS6.out.keep k68 hni z hz
        · rw [List.mem_singleton.1 hz]
          refine ⟨n, HE2.out, rfl, rfl, rfl, rfl, ?_⟩
          show w8.ownsRow 0 3 1 (.slice (g5.map fun g => ⟨g, 0, none⟩) n.it.length c5) n.it.length (zs n.it)
          rw [HV5.out]
          exact own_keep O6.out k68 (fun g hg hgA => hni g hgA (own_int O6.out g hg)))
      have O8 : Hid (w8.ownsRow 0 56 4 v8 (vs ++ [LnV.mk x n.par n.pid g5 n.it.length c5]).length (rw lcs (vs ++ [LnV.mk x n.par n.pid g5 n.it.length c5]))) := Lib.hid (by
        rw [List.length_append, HQ.out, rw_append, show rw lcs [LnV.mk x n.par n.pid g5 n.it.length c5] = [.int .i64 x, .int .i64 n.par, .int .i64 n.pid, .slice V5 n.it.length c5] by simp [rw, lcs, ← HV5.out]]
        exact o8)
      have K8 : Hid (Keeps [] w2 w8) := Lib.hid (K6.out.trans k68 (fun g hg => .inr (F3.out g hg)))
      have F8 : Hid (∀ g ∈ fp v8, w2.heap.size ≤ g) := Lib.hid (fun g hg => (f8 g hg).elim (F3.out g) (fun h => by
        have h1 := K3.out.size
        omega))
      have M8 : Hid ((vs ++ [LnV.mk x n.par n.pid g5 n.it.length c5]).map (·.id) = ids.take (q + 1)) := Lib.hid (by
        rw [List.map_append, HMP.out, HDT.out]; rfl)
      clear o8 k8 f8 k68 hni OV6 OV7 VS6 O6 K6 BQ6 HRD HV5
      go_wp2_with fail
      go_roundw
      case rel => exact ⟨q + 1, _, by omega, by go_num, M8.out, O8.out, VS8.out, K8.out, F8.out⟩
      case measure => simp [intOf]; omega
end Go.Proofs.YtcopjjokhjealaaGreat
