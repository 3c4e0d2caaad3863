/- A world of sheets: Load (ld4 printed by w20gen.py). -/
import Derived.Test.YtiffjaociblboaaW19
namespace Go.Proofs.Ytiffjaociblboaa
open Go.RowKit

noncomputable def ld4C : Code := ((Try.f57.body.bind (theRegion 4)).getD .skip)
set_option maxRecDepth 1000000 in
set_option maxHeartbeats 1600000 in
set_option linter.unusedSimpArgs false in
theorem ld4_any (w : World) (tb xb fb : Nat) (K : Exit → Act → World → Prop)
    (hS : ∀ W, Keeps [] w W → W.cell? ⟨tb, 0, none⟩ = some (.iface 42 (.pointer (some ⟨fb, 0, none⟩))) ∧ Blk W xb 24 (acs xA).toArray)
    (hC : ∀ W, Keeps [] w W → Calls Try.prog 61 #[.pointer (some ⟨fb, 0, none⟩), .string ⟨#[97]⟩, .int .i64 135] W fun e w' => e = .returned (.int .u8 9) ∧ w' = W)
    (u0 u1 u4 u5 u6 u7 u9 u10 u11 u12 u13 u14 u15 u16 u17 u18 u19 u20 u21 u22 u23 u24 u25 u26 u27 u28 u29 u30 u31 u32 : Value)
    (hK : ∀ (v23 v24 v25 v26 v27 v28 v29 v30 v31 v32 : Value) (W : World), Keeps [] w W → K .normal ⟨#[u0, u1, .int .i64 647, .pointer (some ⟨tb, 0, none⟩), u4, u5, .int .u8 9, .bool true, .pointer (some ⟨xb, 0, none⟩), u9, u10, u11, u12, u13, u14, u15, u16, u17, u18, u19, u20, u21, u22, v23, v24, v25, v26, v27, v28, v29, v30, v31, v32], []⟩ W) :
    Code.wp Try.prog ld4C K ⟨#[u0, u1, .int .i64 647, .pointer (some ⟨tb, 0, none⟩), u4, u5, u6, u7, .pointer (some ⟨xb, 0, none⟩), u9, u10, u11, u12, u13, u14, u15, u16, u17, u18, u19, u20, u21, u22, u23, u24, u25, u26, u27, u28, u29, u30, u31, u32], []⟩ w := by
  have HS := Lib.hid hS
  have HC := Lib.hid hC
  clear hS hC
  conv => arg 2; whnf
  dsimp only at hK ⊢
  refine wp_region_noPanic ?_
  refine wp_region_held_drew (S := fun W => W.cell? ⟨tb, 0, none⟩ = some (.iface 42 (.pointer (some ⟨fb, 0, none⟩))) ∧ Blk W xb 24 (acs xA).toArray) (by kernel_rfl) (HS.out _ ((Keeps.refl [] w).drew)) (fun hHeld => ?_)
  obtain ⟨w0, hw0⟩ : ∃ w0, w.drew = w0 := ⟨_, rfl⟩
  try rw [hw0] at hHeld
  rw [hw0]
  have K0 : Keeps [] w w0 := by rw [← hw0]; exact (Keeps.refl [] w).drew
  clear hw0
  refine wpAnyH_take (i := 0) (oi := ⟨some 23, Op.fieldAddr 77 (Operand.tmp 3) 0, 0, _, _, none⟩) (v := ?vq1) rfl (by kernel_rfl) (by kernel_rfl) (by kernel_rfl) (fun _ _ _ h => h) (Or.inl ⟨by rfl, fun W hW => ?_⟩) (by assumption) ?_
  rotate_left
  · go_simp
    with_reducible rfl
  try simp only [Act.put, List.setIfInBounds_toArray, List.set_cons_zero, List.set_cons_succ]
  refine wpAnyH_take (i := 1) (oi := ⟨some 24, Op.load 75 (Operand.tmp 23), 75, _, _, none⟩) (v := .iface 42 (.pointer (some ⟨fb, 0, none⟩))) rfl (by kernel_rfl) (by kernel_rfl) (by kernel_rfl) (fun _ _ _ h => h) (Or.inl ⟨by rfl, fun W hW => ?_⟩) (by assumption) ?_
  · (have a0 := hW.1; clear hW; go_simp)
  try simp only [Act.put, List.setIfInBounds_toArray, List.set_cons_zero, List.set_cons_succ]
  refine wpAnyH_take (i := 2) (oi := ⟨some 25, Op.load 24 (Operand.tmp 8), 24, _, _, none⟩) (v := .agg #[.int .i64 10, .int .i64 5, .string ⟨#[97]⟩, .int .i64 2, .bool false, .bool true]) rfl (by kernel_rfl) (by kernel_rfl) (by kernel_rfl) (fun _ _ _ h => h) (Or.inl ⟨by rfl, fun W hW => ?_⟩) (by assumption) ?_
  · (have hW := hW.2; have a0 := hW.cell 0; have a1 := hW.cell 1; have a2 := hW.cell 2; have a3 := hW.cell 3; have a4 := hW.cell 4; have a5 := hW.cell 5; clear hW; simp only [acs, xA] at a0 a1 a2 a3 a4 a5; go_simp)
  try simp only [Act.put, List.setIfInBounds_toArray, List.set_cons_zero, List.set_cons_succ]
  refine wpAnyH_take (i := 3) (oi := ⟨some 26, Op.move (Operand.tmp 2), 3, _, _, none⟩) (v := ?vq2) rfl (by kernel_rfl) (by kernel_rfl) (by kernel_rfl) (fun _ _ _ h => h) (Or.inl ⟨by rfl, fun W hW => ?_⟩) (by assumption) ?_
  rotate_left
  · go_simp
    with_reducible rfl
  try simp only [Act.put, List.setIfInBounds_toArray, List.set_cons_zero, List.set_cons_succ]
  refine wpAnyH_take (i := 7) (oi := ⟨some 30, Op.nilCheck (Operand.tmp 24), 75, _, _, none⟩) (v := ?vq3) rfl (by kernel_rfl) (by kernel_rfl) (by kernel_rfl) (fun _ _ _ h => h) (Or.inl ⟨by rfl, fun W hW => ?_⟩) (by assumption) ?_
  rotate_left
  · go_simp
    with_reducible rfl
  try simp only [Act.put, List.setIfInBounds_toArray, List.set_cons_zero, List.set_cons_succ]
  refine wpAnyH_take (i := 8) (oi := ⟨some 31, Op.move (Operand.tmp 24), 75, _, _, none⟩) (v := ?vq4) rfl (by kernel_rfl) (by kernel_rfl) (by kernel_rfl) (fun _ _ _ h => h) (Or.inl ⟨by rfl, fun W hW => ?_⟩) (by assumption) ?_
  rotate_left
  · go_simp
    with_reducible rfl
  try simp only [Act.put, List.setIfInBounds_toArray, List.set_cons_zero, List.set_cons_succ]
  refine wpAnyH_ready (rs := [4]) (by kernel_rfl) (by simp) ?_
  refine AllReadyH.cons (o := ⟨some 27, Op.call { callee := Callee.value (Operand.func 59), args := #[Operand.tmp 25, Operand.tmp 26], argTypes := #[24, 3] }, 105, _, _, none⟩) rfl (fun KK hKK => ?_) AllReadyH.nil
  refine step_callW (by rfl) 59 _ _ rfl #[.agg #[.int .i64 10, .int .i64 5, .string ⟨#[97]⟩, .int .i64 2, .bool false, .bool true], .int .i64 647] (by first | (simp [Act.eval]; done) | (simp [Act.eval, Act.put]; done)) (enters_of Try.func59 (by kernel_rfl) rfl) (place_any _) ?_
  rintro e W5 ⟨rfl, k6⟩
  refine ⟨_, rfl, ?_⟩
  have K7 : Keeps [] w W5 := K0.trans k6 (by simp)
  refine hKK.out _ _ (HS.out _ K7) (fun hHeld => ?_)
  clear hKK KK
  try simp only [Act.put, List.setIfInBounds_toArray, List.set_cons_zero, List.set_cons_succ]
  refine wpAnyH_take (i := 5) (oi := ⟨some 28, Op.extract (Operand.tmp 27) 0, 9, _, _, none⟩) (v := ?vq8) rfl (by kernel_rfl) (by kernel_rfl) (by kernel_rfl) (fun _ _ _ h => h) (Or.inl ⟨by rfl, fun W hW => ?_⟩) (by assumption) ?_
  rotate_left
  · go_simp
    with_reducible rfl
  try simp only [Act.put, List.setIfInBounds_toArray, List.set_cons_zero, List.set_cons_succ]
  refine wpAnyH_take (i := 6) (oi := ⟨some 29, Op.extract (Operand.tmp 27) 1, 3, _, _, none⟩) (v := ?vq9) rfl (by kernel_rfl) (by kernel_rfl) (by kernel_rfl) (fun _ _ _ h => h) (Or.inl ⟨by rfl, fun W hW => ?_⟩) (by assumption) ?_
  rotate_left
  · go_simp
    with_reducible rfl
  try simp only [Act.put, List.setIfInBounds_toArray, List.set_cons_zero, List.set_cons_succ]
  refine wpAnyH_ready (rs := [9]) (by kernel_rfl) (by simp) ?_
  refine AllReadyH.cons (o := ⟨some 32, Op.call { callee := Callee.invoke (Operand.tmp 31) "Byte", args := #[Operand.tmp 28, Operand.tmp 29], argTypes := #[9, 3] }, 5, _, _, none⟩) rfl (fun KK hKK => ?_) AllReadyH.nil
  refine step_invokeW (by rfl) _ _ _ _ rfl (.iface 42 (.pointer (some ⟨fb, 0, none⟩))) #[.string ⟨#[97]⟩, .int .i64 135] (by first | (simp [Act.eval]; done) | (simp [Act.eval, Act.put]; done)) (by first | (simp [Act.eval]; done) | (simp [Act.eval, Act.put]; done)) 61 _ (invoke_byte _ _ _ _) (HC.out _ K7) ?_
  rintro e W10 ⟨rfl, k11⟩
  refine ⟨_, rfl, ?_⟩
  have K12 : Keeps [] w W10 := by rw [k11]; exact K7
  refine hKK.out _ _ (HS.out _ K12) (fun hHeld => ?_)
  clear hKK KK
  try simp only [Act.put, List.setIfInBounds_toArray, List.set_cons_zero, List.set_cons_succ]
  refine wpAnyH_take (i := 10) (oi := ⟨some 6, Op.assign (Operand.tmp 32), 5, _, _, none⟩) (v := ?vq13) rfl (by kernel_rfl) (by kernel_rfl) (by kernel_rfl) (fun _ _ _ h => h) (Or.inl ⟨by rfl, fun W hW => ?_⟩) (by assumption) ?_
  rotate_left
  · go_simp
    with_reducible rfl
  try simp only [Act.put, List.setIfInBounds_toArray, List.set_cons_zero, List.set_cons_succ]
  refine wpAnyH_take (i := 11) (oi := ⟨some 7, Op.assign (Operand.const (Value.bool true)), 4, _, _, none⟩) (v := ?vq14) rfl (by kernel_rfl) (by kernel_rfl) (by kernel_rfl) (fun _ _ _ h => h) (Or.inl ⟨by rfl, fun W hW => ?_⟩) (by assumption) ?_
  rotate_left
  · go_simp
    with_reducible rfl
  try simp only [Act.put, List.setIfInBounds_toArray, List.set_cons_zero, List.set_cons_succ]
  refine wpAnyH_done (by kernel_rfl) ?_ _
  refine NoPanic.normal ?_
  exact hK _ _ _ _ _ _ _ _ _ _ _ K12
set_option maxRecDepth 100000 in
set_option maxHeartbeats 3200000 in
theorem load_yes (w : World) (fb m1 m2 m3 m4 c : Nat) (A : Option Addr) (pc : Array Value) (hb : Blk w fb 68 (wcs m1 m2 m3)) (hm : MO w m2 #[⟨.string ⟨#[97]⟩, .map (some m4), 0⟩] 1) (hm4 : MO w m4 #[⟨.int .i64 2, .agg sc9, 0⟩] 1)
    (ha : AtL w A [xA]) (hp : pc[19]? = some (.slice A 1 c)) :
    Calls Try.prog 57 #[.agg #[.iface 42 (.pointer (some ⟨fb, 0, none⟩))], .agg pc, .int .i64 647] w fun e w' => e = .returned (.tuple #[.int .u8 9, .bool true]) ∧ Keeps [] w w' := by
  have k0 : Keeps [] w ((w.alloc (.cells #[.iface 42 (.pointer (some ⟨fb, 0, none⟩))] 77)).alloc (.cells pc 60)) := ((Keeps.refl [] w).alloc _).alloc _
  have b77 := (Blk.new w 77 #[.iface 42 (.pointer (some ⟨fb, 0, none⟩))]).alloc (.cells pc 60)
  have b60 := Blk.new (w.alloc (.cells #[.iface 42 (.pointer (some ⟨fb, 0, none⟩))] 77)) 60 pc
  obtain ⟨w1, hw1⟩ : ∃ w1, (w.alloc (.cells #[.iface 42 (.pointer (some ⟨fb, 0, none⟩))] 77)).alloc (.cells pc 60) = w1 := ⟨_, rfl⟩
  rw [hw1] at k0 b77 b60
  have c19 : w1.cell? ⟨w.heap.size + 1, 19, none⟩ = some (.slice A 1 c) := by have h := b60.cell 19; rw [hp] at h; simpa using h
  have hvd : Vds [xA] := by intro x hx; simp at hx; subst hx; exact vld_iff.1 (by kernel_rfl)
  have hcan := can_any w1 A [xA] c 647 1 false (ha.keep k0) hvd
  rw [show canB [xA] 647 1 false = true by kernel_rfl] at hcan
  have hfind : ∀ W, Keeps [] w1 W → _ := fun W k => find_any W A [xA] c 10 ((ha.keep k0).keep k) hvd
  rw [show fndV [xA] 10 = xA by kernel_rfl, show (fnd [xA] 10).isSome = true by kernel_rfl] at hfind
  have hbyte : ∀ W, Keeps [] w1 W → _ := fun W k => byte_any W fb m1 m2 m3 m4 ((hb.keep k0 (by simp)).keep k (by simp)) ((hm.keep k0 (by simp)).keep k (by simp)) ((hm4.keep k0 (by simp)).keep k (by simp))
  have HCAN := Lib.hid hcan
  have HFIND := Lib.hid hfind
  have HBYTE := Lib.hid hbyte
  have HB77 := Lib.hid b77
  have HB60 := Lib.hid b60
  have HK0 := Lib.hid k0
  have n1 : w.heap.size + 1 < w1.heap.size := by have h := b60.lt; simpa using h
  have HN := Lib.hid n1
  clear hcan hfind hbyte b77 b60 k0 hb hm hm4 ha hvd hp n1
  go_enter Try.func57, Try.ntmps57
  go_upto_region 1 with fail
  clear hw1
  go_wp2_with fail
  refine HCAN.out.mono ?_
  rintro e w2 ⟨rfl, k2⟩
  have c19b : w2.cell? ⟨w.heap.size + 1, 19, none⟩ = some (.slice A 1 c) := (k2.cell (p := ⟨w.heap.size + 1, 19, none⟩) HN.out (by simp)).trans c19
  have HF2 := Lib.hid (HFIND.out w2 k2)
  unfold Ar.v xA at HF2
  have HK2 := Lib.hid k2
  clear k2 c19 HCAN
  go_wp2_with fail
  refine HF2.out.mono ?_
  rintro e w3 ⟨rfl, k3⟩
  have HK3 := Lib.hid (HK2.out.trans k3 (by simp))
  clear k3 HF2 c19b
  go_upto_region 4 with fail
  refine ld4_any _ w.heap.size w3.heap.size fb _ (fun W k => ?_) (fun W k => ?_) _ _ _ _ _ _ _ _ _ _ _ _ _ _ _ _ _ _ _ _ _ _ _ _ _ _ _ _ _ _ ?_
  · have k4 : Keeps [] w1 W := (HK3.out.alloc _).trans k (by simp)
    exact ⟨(HB77.out.keep k4 (by simp)).cell 0, (Blk.new w3 24 (acs xA).toArray).keep k (by simp)⟩
  · exact HBYTE.out W ((HK3.out.alloc _).trans k (by simp))
  intro v23 v24 v25 v26 v27 v28 v29 v30 v31 v32 W kW
  have HKW : Hid (Keeps [] w W) := Lib.hid (HK0.out.trans ((HK3.out.alloc _).trans kW (by simp)) (by simp))
  clear kW
  go_wp2_with fail
  go_ret2
  exact ⟨rfl, HKW.out⟩
set_option maxRecDepth 100000 in
set_option maxHeartbeats 3200000 in
theorem load_no (w : World) (v : Value) (c : Nat) (A : Option Addr) (pc : Array Value) (ha : AtL w A [xA]) (hp : pc[19]? = some (.slice A 1 c)) :
    Calls Try.prog 57 #[.agg #[.iface 42 v], .agg pc, .int .i64 960] w fun e w' => e = .returned (.tuple #[.int .u8 0, .bool false]) ∧ Keeps [] w w' := by
  have k0 : Keeps [] w ((w.alloc (.cells #[.iface 42 v] 77)).alloc (.cells pc 60)) := ((Keeps.refl [] w).alloc _).alloc _
  have b60 := Blk.new (w.alloc (.cells #[.iface 42 v] 77)) 60 pc
  obtain ⟨w1, hw1⟩ : ∃ w1, (w.alloc (.cells #[.iface 42 v] 77)).alloc (.cells pc 60) = w1 := ⟨_, rfl⟩
  rw [hw1] at k0 b60
  have c19 : w1.cell? ⟨w.heap.size + 1, 19, none⟩ = some (.slice A 1 c) := by have h := b60.cell 19; rw [hp] at h; simpa using h
  have hvd : Vds [xA] := by intro x hx; simp at hx; subst hx; exact vld_iff.1 (by kernel_rfl)
  have hcan := can_any w1 A [xA] c 960 1 false (ha.keep k0) hvd
  rw [show canB [xA] 960 1 false = false by kernel_rfl] at hcan
  have HCAN := Lib.hid hcan
  have HK0 := Lib.hid k0
  clear hcan b60 k0 ha hvd hp
  go_enter Try.func57, Try.ntmps57
  go_upto_region 1 with fail
  clear hw1
  go_wp2_with fail
  refine HCAN.out.mono ?_
  rintro e w2 ⟨rfl, k2⟩
  have HKW : Hid (Keeps [] w w2) := Lib.hid (HK0.out.trans k2 (by simp))
  clear k2
  go_wp2_with fail
  go_ret2
  exact ⟨rfl, HKW.out⟩
end Go.Proofs.Ytiffjaociblboaa
