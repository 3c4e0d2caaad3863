/- The reference: Note's drawn statements (printed by t17gen.py). -/
import Derived.Test.YtbllmpcpfmlemaaGreatT16
import Derived.StillTailTactics
import Derived.Deep.QuietTactic
import Derived.BigQuiet
import Derived.Test.YtbllmpcpfmlemaaGreatSh
namespace Go.Proofs.YtbllmpcpfmlemaaGreat
open Go.RowKit
noncomputable def no4C : Code := ((Tryz.f53.body.bind (theRegion 4)).getD .skip)
set_option maxRecDepth 1000000 in
set_option maxHeartbeats 1600000 in
set_option linter.unusedSimpArgs false in
theorem no4_any (w : World) (d q g n cap j n1 n2 n3 p1 p2 p3 : Nat) (A1 A2 A3 : Option Addr) (zi zp kd : Int) (ky : Str) (V : Str) (B : Bool) (K : Exit → Act → World → Prop)
    (hS : ∀ W, Keeps [] w W → W.cell? ⟨d, 0, none⟩ = some (.slice (some ⟨g, 0, none⟩) n cap) ∧ W.cell? ⟨g, j * 5, none⟩ = some (.int .i64 zi) ∧ W.cell? ⟨g, j * 5 + 1, none⟩ = some (.int .i64 zp) ∧ W.cell? ⟨g, j * 5 + 2, none⟩ = some (.slice A1 n1 p1) ∧ W.cell? ⟨g, j * 5 + 3, none⟩ = some (.slice A2 n2 p2) ∧ W.cell? ⟨g, j * 5 + 4, none⟩ = some (.slice A3 n3 p3) ∧ W.cell? ⟨q, 0, none⟩ = some (.int .i64 kd) ∧ W.cell? ⟨q, 1, none⟩ = some (sv ky))
    (hC : ∀ W, Keeps [] w W → Calls Tryz.prog 61 #[.agg #[.int .i64 zi, .int .i64 zp, .slice A1 n1 p1, .slice A2 n2 p2, .slice A3 n3 p3], sv ky] W fun e w' => e = .returned (.tuple #[sv V, .bool B]) ∧ Keeps [] W w')
    (i0 : (0 : Int) ≤ (j : Int)) (i1 : (j : Int) < (n : Int))
    (u1 u2 u3 u4 u7 u8 u9 u10 u11 u12 u13 u14 u15 u16 u17 u18 u19 u20 u21 u22 u23 u24 u25 u26 u27 u28 u29 u30 u31 u32 u33 u34 u35 u36 u37 u38 u39 u40 u41 u42 u43 u44 u45 u46 u47 u48 u49 u50 u51 u52 u53 u54 u55 u56 u57 u58 u59 u60 u61 u62 u63 u64 u65 u66 u67 u68 u69 u70 u71 u72 u73 u74 u75 u76 u77 u78 u79 u80 u81 u82 u83 u84 u85 u86 u87 u88 u89 u90 u91 u92 u93 u94 u95 u96 u97 u98 u99 u100 u101 u102 u103 u104 u105 u106 u107 u108 u109 u110 u111 u112 u113 u114 : Value)
    (hK : ∀ (v18 v19 v20 v21 v22 v23 v24 v25 v26 v27 v28 v29 v30 : Value) (W : World), Keeps [] w W → K .normal ⟨#[.pointer (some ⟨d, 0, none⟩), u1, u2, u3, u4, .pointer (some ⟨q, 0, none⟩), .int .i64 (j : Nat), sv V, .bool B, u9, u10, u11, u12, u13, u14, u15, u16, u17, v18, v19, v20, v21, v22, v23, v24, v25, v26, v27, v28, v29, v30, u31, u32, u33, u34, u35, u36, u37, u38, u39, u40, u41, u42, u43, u44, u45, u46, u47, u48, u49, u50, u51, u52, u53, u54, u55, u56, u57, u58, u59, u60, u61, u62, u63, u64, u65, u66, u67, u68, u69, u70, u71, u72, u73, u74, u75, u76, u77, u78, u79, u80, u81, u82, u83, u84, u85, u86, u87, u88, u89, u90, u91, u92, u93, u94, u95, u96, u97, u98, u99, u100, u101, u102, u103, u104, u105, u106, u107, u108, u109, u110, u111, u112, u113, u114], []⟩ W) :
    Code.wp Tryz.prog no4C K ⟨#[.pointer (some ⟨d, 0, none⟩), u1, u2, u3, u4, .pointer (some ⟨q, 0, none⟩), .int .i64 (j : Nat), u7, u8, u9, u10, u11, u12, u13, u14, u15, u16, u17, u18, u19, u20, u21, u22, u23, u24, u25, u26, u27, u28, u29, u30, u31, u32, u33, u34, u35, u36, u37, u38, u39, u40, u41, u42, u43, u44, u45, u46, u47, u48, u49, u50, u51, u52, u53, u54, u55, u56, u57, u58, u59, u60, u61, u62, u63, u64, u65, u66, u67, u68, u69, u70, u71, u72, u73, u74, u75, u76, u77, u78, u79, u80, u81, u82, u83, u84, u85, u86, u87, u88, u89, u90, u91, u92, u93, u94, u95, u96, u97, u98, u99, u100, u101, u102, u103, u104, u105, u106, u107, u108, u109, u110, u111, u112, u113, u114], []⟩ w := by
  have HS := Lib.hid hS
  have HC := Lib.hid hC
  clear hS hC
  conv => arg 2; whnf
  try dsimp only at hK ⊢
  refine wp_region_noPanic ?_
  refine wp_region_held_drew (S := fun W => W.cell? ⟨d, 0, none⟩ = some (.slice (some ⟨g, 0, none⟩) n cap) ∧ W.cell? ⟨g, j * 5, none⟩ = some (.int .i64 zi) ∧ W.cell? ⟨g, j * 5 + 1, none⟩ = some (.int .i64 zp) ∧ W.cell? ⟨g, j * 5 + 2, none⟩ = some (.slice A1 n1 p1) ∧ W.cell? ⟨g, j * 5 + 3, none⟩ = some (.slice A2 n2 p2) ∧ W.cell? ⟨g, j * 5 + 4, none⟩ = some (.slice A3 n3 p3) ∧ W.cell? ⟨q, 0, none⟩ = some (.int .i64 kd) ∧ W.cell? ⟨q, 1, none⟩ = some (sv ky)) (by kernel_rfl) (HS.out _ ((Keeps.refl [] w).drew)) (fun hHeld => ?_)
  obtain ⟨w0, hw0⟩ : ∃ w0, w.drew = w0 := ⟨_, rfl⟩
  try rw [hw0] at hHeld
  rw [hw0]
  have K0 : Keeps [] w w0 := by rw [← hw0]; exact (Keeps.refl [] w).drew
  clear hw0
  refine wpAnyH_take (i := 0) (oi := ⟨some 19, .move (.tmp 0), 26, _, _, none⟩) (v := ?vq1) rfl (by kernel_rfl) (by kernel_rfl) (by kernel_rfl) (fun _ _ _ h => h) (Or.inl ⟨by rfl, fun W hW => ?_⟩) (by assumption) ?_
  rotate_left
  · go_simp
    with_reducible rfl
  try simp only [Act.put, lA, l0, lS]
  refine wpAnyH_take (i := 1) (oi := ⟨some 20, .nilCheck (.tmp 19), 0, _, _, none⟩) (v := ?vq2) rfl (by kernel_rfl) (by kernel_rfl) (by kernel_rfl) (fun _ _ _ h => h) (Or.inl ⟨by rfl, fun W hW => ?_⟩) (by assumption) ?_
  rotate_left
  · go_simp
    with_reducible rfl
  try simp only [Act.put, lA, l0, lS]
  refine wpAnyH_take (i := 2) (oi := ⟨some 21, .fieldAddr 71 (.tmp 20) 0, 0, _, _, none⟩) (v := ?vq3) rfl (by kernel_rfl) (by kernel_rfl) (by kernel_rfl) (fun _ _ _ h => h) (Or.inl ⟨by rfl, fun W hW => ?_⟩) (by assumption) ?_
  rotate_left
  · go_simp
    with_reducible rfl
  try simp only [Act.put, lA, l0, lS]
  refine wpAnyH_take (i := 3) (oi := ⟨some 22, .load 69 (.tmp 21), 69, _, _, none⟩) (v := .slice (some ⟨g, 0, none⟩) n cap) rfl (by kernel_rfl) (by kernel_rfl) (by kernel_rfl) (fun _ _ _ h => h) (Or.inl ⟨by rfl, fun W hW => ?_⟩) (by assumption) ?_
  · (obtain ⟨a0, a1, a2, a3, a4, a5, a6, a7⟩ := hW; go_simp)
  try simp only [Act.put, lA, l0, lS]
  refine wpAnyH_take (i := 4) (oi := ⟨some 23, .move (.tmp 6), 3, _, _, none⟩) (v := ?vq4) rfl (by kernel_rfl) (by kernel_rfl) (by kernel_rfl) (fun _ _ _ h => h) (Or.inl ⟨by rfl, fun W hW => ?_⟩) (by assumption) ?_
  rotate_left
  · go_simp
    with_reducible rfl
  try simp only [Act.put, lA, l0, lS]
  refine wpAnyH_take (i := 5) (oi := ⟨some 24, .indexAddr 69 (.tmp 22) (.tmp 23), 0, _, _, none⟩) (v := ?vq5) rfl (by kernel_rfl) (by kernel_rfl) (by kernel_rfl) (fun _ _ _ h => h) (Or.inl ⟨by rfl, fun W hW => ?_⟩) (by assumption) ?_
  rotate_left
  · go_simp
    with_reducible rfl
  try simp only [Act.put, lA, l0, lS]
  refine wpAnyH_take (i := 6) (oi := ⟨some 25, .load 68 (.tmp 24), 68, _, _, none⟩) (v := .agg #[.int .i64 zi, .int .i64 zp, .slice A1 n1 p1, .slice A2 n2 p2, .slice A3 n3 p3]) rfl (by kernel_rfl) (by kernel_rfl) (by kernel_rfl) (fun _ _ _ h => h) (Or.inl ⟨by rfl, fun W hW => ?_⟩) (by assumption) ?_
  · (obtain ⟨a0, a1, a2, a3, a4, a5, a6, a7⟩ := hW; go_simp)
  try simp only [Act.put, lA, l0, lS]
  refine wpAnyH_take (i := 7) (oi := ⟨some 26, .fieldAddr 34 (.tmp 5) 1, 0, _, _, none⟩) (v := ?vq6) rfl (by kernel_rfl) (by kernel_rfl) (by kernel_rfl) (fun _ _ _ h => h) (Or.inl ⟨by rfl, fun W hW => ?_⟩) (by assumption) ?_
  rotate_left
  · go_simp
    with_reducible rfl
  try simp only [Act.put, lA, l0, lS]
  refine wpAnyH_take (i := 8) (oi := ⟨some 27, .load 9 (.tmp 26), 9, _, _, none⟩) (v := sv ky) rfl (by kernel_rfl) (by kernel_rfl) (by kernel_rfl) (fun _ _ _ h => h) (Or.inl ⟨by rfl, fun W hW => ?_⟩) (by assumption) ?_
  · (obtain ⟨a0, a1, a2, a3, a4, a5, a6, a7⟩ := hW; go_simp)
  try simp only [Act.put, lA, l0, lS]
  refine wpAnyH_ready (rs := [9]) (by kernel_rfl) (by simp) ?_
  refine AllReadyH.cons (o := ⟨some 28, .call { callee := .value (.func 61), args := #[.tmp 25, .tmp 27], argTypes := #[68, 9] }, 83, _, _, none⟩) rfl (fun KK hKK => ?_) AllReadyH.nil
  refine step_callW (by rfl) 61 _ _ rfl #[.agg #[.int .i64 zi, .int .i64 zp, .slice A1 n1 p1, .slice A2 n2 p2, .slice A3 n3 p3], sv ky] (by first | (simp [Act.eval]; done) | (simp [Act.eval, Act.put]; done)) (enters_of Tryz.func61 (by kernel_rfl) rfl) (HC.out _ K0) ?_
  rintro e W9 ⟨rfl, k9⟩
  refine ⟨_, rfl, ?_⟩
  have K9 := K0.trans k9 (by simp)
  refine hKK.out _ _ (HS.out _ K9) (fun hHeld => ?_)
  clear hKK KK
  try simp only [Act.put, lA, l0, lS]
  refine wpAnyH_take (i := 10) (oi := ⟨some 18, .move (.tmp 28), 83, _, _, none⟩) (v := ?vq7) rfl (by kernel_rfl) (by kernel_rfl) (by kernel_rfl) (fun _ _ _ h => h) (Or.inl ⟨by rfl, fun W hW => ?_⟩) (by assumption) ?_
  rotate_left
  · go_simp
    with_reducible rfl
  try simp only [Act.put, lA, l0, lS]
  refine wpAnyH_take (i := 11) (oi := ⟨some 29, .extract (.tmp 18) 0, 9, _, _, none⟩) (v := ?vq8) rfl (by kernel_rfl) (by kernel_rfl) (by kernel_rfl) (fun _ _ _ h => h) (Or.inl ⟨by rfl, fun W hW => ?_⟩) (by assumption) ?_
  rotate_left
  · go_simp
    with_reducible rfl
  try simp only [Act.put, lA, l0, lS]
  refine wpAnyH_take (i := 12) (oi := ⟨some 30, .extract (.tmp 18) 1, 4, _, _, none⟩) (v := ?vq9) rfl (by kernel_rfl) (by kernel_rfl) (by kernel_rfl) (fun _ _ _ h => h) (Or.inl ⟨by rfl, fun W hW => ?_⟩) (by assumption) ?_
  rotate_left
  · go_simp
    with_reducible rfl
  try simp only [Act.put, lA, l0, lS]
  refine wpAnyH_take (i := 13) (oi := ⟨some 7, .assign (.tmp 29), 9, _, _, none⟩) (v := ?vq10) rfl (by kernel_rfl) (by kernel_rfl) (by kernel_rfl) (fun _ _ _ h => h) (Or.inl ⟨by rfl, fun W hW => ?_⟩) (by assumption) ?_
  rotate_left
  · go_simp
    with_reducible rfl
  try simp only [Act.put, lA, l0, lS]
  refine wpAnyH_take (i := 14) (oi := ⟨some 8, .assign (.tmp 30), 4, _, _, none⟩) (v := ?vq11) rfl (by kernel_rfl) (by kernel_rfl) (by kernel_rfl) (fun _ _ _ h => h) (Or.inl ⟨by rfl, fun W hW => ?_⟩) (by assumption) ?_
  rotate_left
  · go_simp
    with_reducible rfl
  try simp only [Act.put, lA, l0, lS]
  refine wpAnyH_done (by kernel_rfl) ?_ _
  refine NoPanic.normal ?_
  exact hK _ _ _ _ _ _ _ _ _ _ _ _ _ _ K9
noncomputable def no5C : Code := ((Tryz.f53.body.bind (theRegion 5)).getD .skip)
set_option maxRecDepth 1000000 in
set_option maxHeartbeats 1600000 in
set_option linter.unusedSimpArgs false in
theorem no5_any (w : World) (d q g n cap j n1 n2 n3 p1 p2 p3 : Nat) (A1 A2 A3 : Option Addr) (zi zp kd : Int) (ky : Str) (rx : Int) (rb : Bool) (K : Exit → Act → World → Prop)
    (hS : ∀ W, Keeps [] w W → W.cell? ⟨d, 0, none⟩ = some (.slice (some ⟨g, 0, none⟩) n cap) ∧ W.cell? ⟨g, j * 5, none⟩ = some (.int .i64 zi) ∧ W.cell? ⟨g, j * 5 + 1, none⟩ = some (.int .i64 zp) ∧ W.cell? ⟨g, j * 5 + 2, none⟩ = some (.slice A1 n1 p1) ∧ W.cell? ⟨g, j * 5 + 3, none⟩ = some (.slice A2 n2 p2) ∧ W.cell? ⟨g, j * 5 + 4, none⟩ = some (.slice A3 n3 p3) ∧ W.cell? ⟨q, 0, none⟩ = some (.int .i64 kd) ∧ W.cell? ⟨q, 1, none⟩ = some (sv ky))
    (hC : ∀ W, Keeps [] w W → Calls Tryz.prog 62 #[.agg #[.int .i64 zi, .int .i64 zp, .slice A1 n1 p1, .slice A2 n2 p2, .slice A3 n3 p3], .int .i64 0, sv ky] W fun e w' => e = .returned (.int .i64 rx) ∧ Keeps [] W w')
    (i0 : (0 : Int) ≤ (j : Int)) (i1 : (j : Int) < (n : Int))
    (hrb : decide (rx < 0) = rb)
    (u1 u2 u3 u4 u7 u9 u10 u11 u12 u13 u14 u15 u16 u17 u18 u19 u20 u21 u22 u23 u24 u25 u26 u27 u28 u29 u30 u31 u32 u33 u34 u35 u36 u37 u38 u39 u40 u41 u42 u43 u44 u45 u46 u47 u48 u49 u50 u51 u52 u53 u54 u55 u56 u57 u58 u59 u60 u61 u62 u63 u64 u65 u66 u67 u68 u69 u70 u71 u72 u73 u74 u75 u76 u77 u78 u79 u80 u81 u82 u83 u84 u85 u86 u87 u88 u89 u90 u91 u92 u93 u94 u95 u96 u97 u98 u99 u100 u101 u102 u103 u104 u105 u106 u107 u108 u109 u110 u111 u112 u113 u114 : Value)
    (hK : ∀ (v31 v32 v33 v34 v35 v36 v37 v38 v39 v40 v41 v42 v43 v44 : Value) (W : World), Keeps [] w W → K .normal ⟨#[.pointer (some ⟨d, 0, none⟩), u1, u2, u3, u4, .pointer (some ⟨q, 0, none⟩), .int .i64 (j : Nat), u7, .bool false, u9, u10, u11, u12, u13, u14, u15, u16, u17, u18, u19, u20, u21, u22, u23, u24, u25, u26, u27, u28, u29, u30, v31, v32, v33, v34, v35, v36, v37, v38, v39, v40, v41, v42, v43, v44, .bool rb, u46, u47, u48, u49, u50, u51, u52, u53, u54, u55, u56, u57, u58, u59, u60, u61, u62, u63, u64, u65, u66, u67, u68, u69, u70, u71, u72, u73, u74, u75, u76, u77, u78, u79, u80, u81, u82, u83, u84, u85, u86, u87, u88, u89, u90, u91, u92, u93, u94, u95, u96, u97, u98, u99, u100, u101, u102, u103, u104, u105, u106, u107, u108, u109, u110, u111, u112, u113, u114], []⟩ W) :
    Code.wp Tryz.prog no5C K ⟨#[.pointer (some ⟨d, 0, none⟩), u1, u2, u3, u4, .pointer (some ⟨q, 0, none⟩), .int .i64 (j : Nat), u7, .bool false, u9, u10, u11, u12, u13, u14, u15, u16, u17, u18, u19, u20, u21, u22, u23, u24, u25, u26, u27, u28, u29, u30, u31, u32, u33, u34, u35, u36, u37, u38, u39, u40, u41, u42, u43, u44, u45, u46, u47, u48, u49, u50, u51, u52, u53, u54, u55, u56, u57, u58, u59, u60, u61, u62, u63, u64, u65, u66, u67, u68, u69, u70, u71, u72, u73, u74, u75, u76, u77, u78, u79, u80, u81, u82, u83, u84, u85, u86, u87, u88, u89, u90, u91, u92, u93, u94, u95, u96, u97, u98, u99, u100, u101, u102, u103, u104, u105, u106, u107, u108, u109, u110, u111, u112, u113, u114], []⟩ w := by
  have HS := Lib.hid hS
  have HC := Lib.hid hC
  clear hS hC
  subst hrb
  conv => arg 2; whnf
  try dsimp only at hK ⊢
  refine wp_region_noPanic ?_
  refine wp_region_held_drew (S := fun W => W.cell? ⟨d, 0, none⟩ = some (.slice (some ⟨g, 0, none⟩) n cap) ∧ W.cell? ⟨g, j * 5, none⟩ = some (.int .i64 zi) ∧ W.cell? ⟨g, j * 5 + 1, none⟩ = some (.int .i64 zp) ∧ W.cell? ⟨g, j * 5 + 2, none⟩ = some (.slice A1 n1 p1) ∧ W.cell? ⟨g, j * 5 + 3, none⟩ = some (.slice A2 n2 p2) ∧ W.cell? ⟨g, j * 5 + 4, none⟩ = some (.slice A3 n3 p3) ∧ W.cell? ⟨q, 0, none⟩ = some (.int .i64 kd) ∧ W.cell? ⟨q, 1, none⟩ = some (sv ky)) (by kernel_rfl) (HS.out _ ((Keeps.refl [] w).drew)) (fun hHeld => ?_)
  obtain ⟨w0, hw0⟩ : ∃ w0, w.drew = w0 := ⟨_, rfl⟩
  try rw [hw0] at hHeld
  rw [hw0]
  have K0 : Keeps [] w w0 := by rw [← hw0]; exact (Keeps.refl [] w).drew
  clear hw0
  refine wpAnyH_take (i := 0) (oi := ⟨some 31, .move (.tmp 8), 4, _, _, none⟩) (v := ?vq12) rfl (by kernel_rfl) (by kernel_rfl) (by kernel_rfl) (fun _ _ _ h => h) (Or.inl ⟨by rfl, fun W hW => ?_⟩) (by assumption) ?_
  rotate_left
  · go_simp
    with_reducible rfl
  try simp only [Act.put, lA, l0, lS]
  refine wpAnyH_take (i := 1) (oi := ⟨some 32, .unOp .not 4 (.tmp 31), 4, _, _, none⟩) (v := ?vq13) rfl (by kernel_rfl) (by kernel_rfl) (by kernel_rfl) (fun _ _ _ h => h) (Or.inl ⟨by rfl, fun W hW => ?_⟩) (by assumption) ?_
  rotate_left
  · go_simp
    with_reducible rfl
  try simp only [Act.put, lA, l0, lS]
  refine wpAnyH_take (i := 2) (oi := ⟨some 33, .move (.tmp 32), 4, _, _, none⟩) (v := ?vq14) rfl (by kernel_rfl) (by kernel_rfl) (by kernel_rfl) (fun _ _ _ h => h) (Or.inl ⟨by rfl, fun W hW => ?_⟩) (by assumption) ?_
  rotate_left
  · go_simp
    with_reducible rfl
  try simp only [Act.put, lA, l0, lS]
  refine wpAnyH_take (i := 3) (oi := ⟨some 34, .move (.tmp 0), 26, _, _, some (2, true)⟩) (v := ?vq15) rfl (by kernel_rfl) (by kernel_rfl) (by kernel_rfl) (fun _ _ _ h => h) (Or.inl ⟨by rfl, fun W hW => ?_⟩) (by assumption) ?_
  rotate_left
  · go_simp
    with_reducible rfl
  try simp only [Act.put, lA, l0, lS]
  refine wpAnyH_take (i := 4) (oi := ⟨some 35, .nilCheck (.tmp 34), 0, _, _, some (2, true)⟩) (v := ?vq16) rfl (by kernel_rfl) (by kernel_rfl) (by kernel_rfl) (fun _ _ _ h => h) (Or.inl ⟨by rfl, fun W hW => ?_⟩) (by assumption) ?_
  rotate_left
  · go_simp
    with_reducible rfl
  try simp only [Act.put, lA, l0, lS]
  refine wpAnyH_take (i := 5) (oi := ⟨some 36, .fieldAddr 71 (.tmp 35) 0, 0, _, _, some (2, true)⟩) (v := ?vq17) rfl (by kernel_rfl) (by kernel_rfl) (by kernel_rfl) (fun _ _ _ h => h) (Or.inl ⟨by rfl, fun W hW => ?_⟩) (by assumption) ?_
  rotate_left
  · go_simp
    with_reducible rfl
  try simp only [Act.put, lA, l0, lS]
  refine wpAnyH_take (i := 6) (oi := ⟨some 37, .load 69 (.tmp 36), 69, _, _, some (2, true)⟩) (v := .slice (some ⟨g, 0, none⟩) n cap) rfl (by kernel_rfl) (by kernel_rfl) (by kernel_rfl) (fun _ _ _ h => h) (Or.inl ⟨by rfl, fun W hW => ?_⟩) (by assumption) ?_
  · (obtain ⟨a0, a1, a2, a3, a4, a5, a6, a7⟩ := hW; go_simp)
  try simp only [Act.put, lA, l0, lS]
  refine wpAnyH_take (i := 7) (oi := ⟨some 38, .move (.tmp 6), 3, _, _, some (2, true)⟩) (v := ?vq18) rfl (by kernel_rfl) (by kernel_rfl) (by kernel_rfl) (fun _ _ _ h => h) (Or.inl ⟨by rfl, fun W hW => ?_⟩) (by assumption) ?_
  rotate_left
  · go_simp
    with_reducible rfl
  try simp only [Act.put, lA, l0, lS]
  refine wpAnyH_take (i := 8) (oi := ⟨some 39, .indexAddr 69 (.tmp 37) (.tmp 38), 0, _, _, some (2, true)⟩) (v := ?vq19) rfl (by kernel_rfl) (by kernel_rfl) (by kernel_rfl) (fun _ _ _ h => h) (Or.inl ⟨by rfl, fun W hW => ?_⟩) (by assumption) ?_
  rotate_left
  · go_simp
    with_reducible rfl
  try simp only [Act.put, lA, l0, lS]
  refine wpAnyH_take (i := 9) (oi := ⟨some 40, .load 68 (.tmp 39), 68, _, _, some (2, true)⟩) (v := .agg #[.int .i64 zi, .int .i64 zp, .slice A1 n1 p1, .slice A2 n2 p2, .slice A3 n3 p3]) rfl (by kernel_rfl) (by kernel_rfl) (by kernel_rfl) (fun _ _ _ h => h) (Or.inl ⟨by rfl, fun W hW => ?_⟩) (by assumption) ?_
  · (obtain ⟨a0, a1, a2, a3, a4, a5, a6, a7⟩ := hW; go_simp)
  try simp only [Act.put, lA, l0, lS]
  refine wpAnyH_take (i := 10) (oi := ⟨some 41, .fieldAddr 34 (.tmp 5) 1, 0, _, _, some (2, true)⟩) (v := ?vq20) rfl (by kernel_rfl) (by kernel_rfl) (by kernel_rfl) (fun _ _ _ h => h) (Or.inl ⟨by rfl, fun W hW => ?_⟩) (by assumption) ?_
  rotate_left
  · go_simp
    with_reducible rfl
  try simp only [Act.put, lA, l0, lS]
  refine wpAnyH_take (i := 11) (oi := ⟨some 42, .load 9 (.tmp 41), 9, _, _, some (2, true)⟩) (v := sv ky) rfl (by kernel_rfl) (by kernel_rfl) (by kernel_rfl) (fun _ _ _ h => h) (Or.inl ⟨by rfl, fun W hW => ?_⟩) (by assumption) ?_
  · (obtain ⟨a0, a1, a2, a3, a4, a5, a6, a7⟩ := hW; go_simp)
  try simp only [Act.put, lA, l0, lS]
  refine wpAnyH_ready (rs := [12]) (by kernel_rfl) (by simp) ?_
  refine AllReadyH.cons (o := ⟨some 43, .call { callee := .value (.func 62), args := #[.tmp 40, .const (Value.int IntKind.i64 0), .tmp 42], argTypes := #[68, 3, 9] }, 3, _, _, some (2, true)⟩) rfl (fun KK hKK => ?_) AllReadyH.nil
  refine step_callW (by rfl) 62 _ _ rfl #[.agg #[.int .i64 zi, .int .i64 zp, .slice A1 n1 p1, .slice A2 n2 p2, .slice A3 n3 p3], .int .i64 0, sv ky] (by first | (simp [Act.eval]; done) | (simp [Act.eval, Act.put]; done)) (enters_of Tryz.func62 (by kernel_rfl) rfl) (HC.out _ K0) ?_
  rintro e W9 ⟨rfl, k9⟩
  refine ⟨_, rfl, ?_⟩
  have K9 := K0.trans k9 (by simp)
  refine hKK.out _ _ (HS.out _ K9) (fun hHeld => ?_)
  clear hKK KK
  try simp only [Act.put, lA, l0, lS]
  refine wpAnyH_take (i := 13) (oi := ⟨some 44, .binOp .lss 3 (.tmp 43) (.const (Value.int IntKind.i64 0)) 3, 4, _, _, some (2, true)⟩) (v := ?vq21) rfl (by kernel_rfl) (by kernel_rfl) (by kernel_rfl) (fun _ _ _ h => h) (Or.inl ⟨by rfl, fun W hW => ?_⟩) (by assumption) ?_
  rotate_left
  · go_simp
    with_reducible rfl
  try simp only [Act.put, lA, l0, lS]
  refine wpAnyH_take (i := 14) (oi := ⟨some 45, .pick (.tmp 33) (.tmp 44) (.const (Value.bool false)), 4, _, _, none⟩) (v := ?vq22) rfl (by kernel_rfl) (by kernel_rfl) (by kernel_rfl) (fun _ _ _ h => h) (Or.inl ⟨by rfl, fun W hW => ?_⟩) (by assumption) ?_
  rotate_left
  · go_simp
    with_reducible rfl
  try simp only [Act.put, lA, l0, lS]
  refine wpAnyH_done (by kernel_rfl) ?_ _
  refine NoPanic.normal ?_
  exact hK _ _ _ _ _ _ _ _ _ _ _ _ _ _ _ K9
noncomputable def no5tC : Code := ((Tryz.f53.body.bind (theRegion 5)).getD .skip)
set_option maxRecDepth 1000000 in
set_option maxHeartbeats 3200000 in
set_option linter.unusedSimpArgs false in
theorem no5t_any (w : World) (d q j : Nat) (K : Exit → Act → World → Prop)
    (u1 u2 u3 u4 u7 u9 u10 u11 u12 u13 u14 u15 u16 u17 u18 u19 u20 u21 u22 u23 u24 u25 u26 u27 u28 u29 u30 u31 u32 u33 u34 u35 u36 u37 u38 u39 u40 u41 u42 u43 u44 u45 u46 u47 u48 u49 u50 u51 u52 u53 u54 u55 u56 u57 u58 u59 u60 u61 u62 u63 u64 u65 u66 u67 u68 u69 u70 u71 u72 u73 u74 u75 u76 u77 u78 u79 u80 u81 u82 u83 u84 u85 u86 u87 u88 u89 u90 u91 u92 u93 u94 u95 u96 u97 u98 u99 u100 u101 u102 u103 u104 u105 u106 u107 u108 u109 u110 u111 u112 u113 u114 : Value)
    (hK : ∀ (v31 v32 v33 v34 v35 v36 v37 v38 v39 v40 v41 v42 v43 v44 : Value) (nq : Nat), K .normal ⟨#[.pointer (some ⟨d, 0, none⟩), u1, u2, u3, u4, .pointer (some ⟨q, 0, none⟩), .int .i64 (j : Nat), u7, .bool true, u9, u10, u11, u12, u13, u14, u15, u16, u17, u18, u19, u20, u21, u22, u23, u24, u25, u26, u27, u28, u29, u30, v31, v32, v33, v34, v35, v36, v37, v38, v39, v40, v41, v42, v43, v44, .bool false, u46, u47, u48, u49, u50, u51, u52, u53, u54, u55, u56, u57, u58, u59, u60, u61, u62, u63, u64, u65, u66, u67, u68, u69, u70, u71, u72, u73, u74, u75, u76, u77, u78, u79, u80, u81, u82, u83, u84, u85, u86, u87, u88, u89, u90, u91, u92, u93, u94, u95, u96, u97, u98, u99, u100, u101, u102, u103, u104, u105, u106, u107, u108, u109, u110, u111, u112, u113, u114], []⟩ (w.drewN nq)) :
    Code.wp Tryz.prog no5tC K ⟨#[.pointer (some ⟨d, 0, none⟩), u1, u2, u3, u4, .pointer (some ⟨q, 0, none⟩), .int .i64 (j : Nat), u7, .bool true, u9, u10, u11, u12, u13, u14, u15, u16, u17, u18, u19, u20, u21, u22, u23, u24, u25, u26, u27, u28, u29, u30, u31, u32, u33, u34, u35, u36, u37, u38, u39, u40, u41, u42, u43, u44, u45, u46, u47, u48, u49, u50, u51, u52, u53, u54, u55, u56, u57, u58, u59, u60, u61, u62, u63, u64, u65, u66, u67, u68, u69, u70, u71, u72, u73, u74, u75, u76, u77, u78, u79, u80, u81, u82, u83, u84, u85, u86, u87, u88, u89, u90, u91, u92, u93, u94, u95, u96, u97, u98, u99, u100, u101, u102, u103, u104, u105, u106, u107, u108, u109, u110, u111, u112, u113, u114], []⟩ w := by
  conv => arg 2; whnf
  try dsimp only at hK ⊢
  go_quiet (fail)
  exact hK _ _ _ _ _ _ _ _ _ _ _ _ _ _ nq
noncomputable def no7C : Code := ((Tryz.f53.body.bind (theRegion 7)).getD .skip)
set_option maxRecDepth 1000000 in
set_option maxHeartbeats 1600000 in
set_option linter.unusedSimpArgs false in
theorem no7_any (w : World) (d q g n cap j n1 n2 n3 p1 p2 p3 : Nat) (A1 A2 A3 : Option Addr) (zi zp kd : Int) (ky : Str) (rx : Int) (rb : Bool) (K : Exit → Act → World → Prop)
    (hS : ∀ W, Keeps [] w W → W.cell? ⟨d, 0, none⟩ = some (.slice (some ⟨g, 0, none⟩) n cap) ∧ W.cell? ⟨g, j * 5, none⟩ = some (.int .i64 zi) ∧ W.cell? ⟨g, j * 5 + 1, none⟩ = some (.int .i64 zp) ∧ W.cell? ⟨g, j * 5 + 2, none⟩ = some (.slice A1 n1 p1) ∧ W.cell? ⟨g, j * 5 + 3, none⟩ = some (.slice A2 n2 p2) ∧ W.cell? ⟨g, j * 5 + 4, none⟩ = some (.slice A3 n3 p3) ∧ W.cell? ⟨q, 0, none⟩ = some (.int .i64 kd) ∧ W.cell? ⟨q, 1, none⟩ = some (sv ky))
    (hC : ∀ W, Keeps [] w W → Calls Tryz.prog 62 #[.agg #[.int .i64 zi, .int .i64 zp, .slice A1 n1 p1, .slice A2 n2 p2, .slice A3 n3 p3], .int .i64 1, sv ky] W fun e w' => e = .returned (.int .i64 rx) ∧ Keeps [] W w')
    (i0 : (0 : Int) ≤ (j : Int)) (i1 : (j : Int) < (n : Int))
    (hkd : (kd == 1) = true) (hrb : decide (rx < 0) = rb)
    (u1 u2 u3 u4 u7 u8 u9 u10 u11 u12 u13 u14 u15 u16 u17 u18 u19 u20 u21 u22 u23 u24 u25 u26 u27 u28 u29 u30 u31 u32 u33 u34 u35 u36 u37 u38 u39 u40 u41 u42 u43 u44 u45 u46 u47 u48 u49 u50 u51 u52 u53 u54 u55 u56 u57 u58 u59 u60 u61 u62 u63 u64 u65 u66 u67 u68 u69 u70 u71 u72 u73 u74 u75 u76 u77 u78 u79 u80 u81 u82 u83 u84 u85 u86 u87 u88 u89 u90 u91 u92 u93 u94 u95 u96 u97 u98 u99 u100 u101 u102 u103 u104 u105 u106 u107 u108 u109 u110 u111 u112 u113 u114 : Value)
    (hK : ∀ (v54 v55 v56 v57 v58 v59 v60 v61 v62 v63 v64 v65 v66 v67 v68 : Value) (W : World), Keeps [] w W → K .normal ⟨#[.pointer (some ⟨d, 0, none⟩), u1, u2, u3, u4, .pointer (some ⟨q, 0, none⟩), .int .i64 (j : Nat), u7, u8, u9, u10, u11, u12, u13, u14, u15, u16, u17, u18, u19, u20, u21, u22, u23, u24, u25, u26, u27, u28, u29, u30, u31, u32, u33, u34, u35, u36, u37, u38, u39, u40, u41, u42, u43, u44, u45, u46, u47, u48, u49, u50, u51, u52, u53, v54, v55, v56, v57, v58, v59, v60, v61, v62, v63, v64, v65, v66, v67, v68, .bool rb, u70, u71, u72, u73, u74, u75, u76, u77, u78, u79, u80, u81, u82, u83, u84, u85, u86, u87, u88, u89, u90, u91, u92, u93, u94, u95, u96, u97, u98, u99, u100, u101, u102, u103, u104, u105, u106, u107, u108, u109, u110, u111, u112, u113, u114], []⟩ W) :
    Code.wp Tryz.prog no7C K ⟨#[.pointer (some ⟨d, 0, none⟩), u1, u2, u3, u4, .pointer (some ⟨q, 0, none⟩), .int .i64 (j : Nat), u7, u8, u9, u10, u11, u12, u13, u14, u15, u16, u17, u18, u19, u20, u21, u22, u23, u24, u25, u26, u27, u28, u29, u30, u31, u32, u33, u34, u35, u36, u37, u38, u39, u40, u41, u42, u43, u44, u45, u46, u47, u48, u49, u50, u51, u52, u53, u54, u55, u56, u57, u58, u59, u60, u61, u62, u63, u64, u65, u66, u67, u68, u69, u70, u71, u72, u73, u74, u75, u76, u77, u78, u79, u80, u81, u82, u83, u84, u85, u86, u87, u88, u89, u90, u91, u92, u93, u94, u95, u96, u97, u98, u99, u100, u101, u102, u103, u104, u105, u106, u107, u108, u109, u110, u111, u112, u113, u114], []⟩ w := by
  have HS := Lib.hid hS
  have HC := Lib.hid hC
  clear hS hC
  subst hrb
  have HKD := Lib.hid hkd
  clear hkd
  conv => arg 2; whnf
  try dsimp only at hK ⊢
  refine wp_region_noPanic ?_
  refine wp_region_held_drew (S := fun W => W.cell? ⟨d, 0, none⟩ = some (.slice (some ⟨g, 0, none⟩) n cap) ∧ W.cell? ⟨g, j * 5, none⟩ = some (.int .i64 zi) ∧ W.cell? ⟨g, j * 5 + 1, none⟩ = some (.int .i64 zp) ∧ W.cell? ⟨g, j * 5 + 2, none⟩ = some (.slice A1 n1 p1) ∧ W.cell? ⟨g, j * 5 + 3, none⟩ = some (.slice A2 n2 p2) ∧ W.cell? ⟨g, j * 5 + 4, none⟩ = some (.slice A3 n3 p3) ∧ W.cell? ⟨q, 0, none⟩ = some (.int .i64 kd) ∧ W.cell? ⟨q, 1, none⟩ = some (sv ky)) (by kernel_rfl) (HS.out _ ((Keeps.refl [] w).drew)) (fun hHeld => ?_)
  obtain ⟨w0, hw0⟩ : ∃ w0, w.drew = w0 := ⟨_, rfl⟩
  try rw [hw0] at hHeld
  rw [hw0]
  have K0 : Keeps [] w w0 := by rw [← hw0]; exact (Keeps.refl [] w).drew
  clear hw0
  refine wpAnyH_take (i := 0) (oi := ⟨some 54, .fieldAddr 34 (.tmp 5) 0, 0, _, _, none⟩) (v := ?vq23) rfl (by kernel_rfl) (by kernel_rfl) (by kernel_rfl) (fun _ _ _ h => h) (Or.inl ⟨by rfl, fun W hW => ?_⟩) (by assumption) ?_
  rotate_left
  · go_simp
    with_reducible rfl
  try simp only [Act.put, lA, l0, lS]
  refine wpAnyH_take (i := 1) (oi := ⟨some 55, .load 3 (.tmp 54), 3, _, _, none⟩) (v := .int .i64 kd) rfl (by kernel_rfl) (by kernel_rfl) (by kernel_rfl) (fun _ _ _ h => h) (Or.inl ⟨by rfl, fun W hW => ?_⟩) (by assumption) ?_
  · (obtain ⟨a0, a1, a2, a3, a4, a5, a6, a7⟩ := hW; go_simp)
  try simp only [Act.put, lA, l0, lS]
  refine wpAnyH_take (i := 2) (oi := ⟨some 56, .binOp .eql 3 (.tmp 55) (.const (Value.int IntKind.i64 1)) 3, 4, _, _, none⟩) (v := .bool true) rfl (by kernel_rfl) (by kernel_rfl) (by kernel_rfl) (fun _ _ _ h => h) (Or.inl ⟨by rfl, fun W hW => ?_⟩) (by assumption) ?_
  · (have a0 := HKD.out; go_simp)
  try simp only [Act.put, lA, l0, lS]
  refine wpAnyH_take (i := 3) (oi := ⟨some 57, .move (.tmp 56), 4, _, _, none⟩) (v := ?vq24) rfl (by kernel_rfl) (by kernel_rfl) (by kernel_rfl) (fun _ _ _ h => h) (Or.inl ⟨by rfl, fun W hW => ?_⟩) (by assumption) ?_
  rotate_left
  · go_simp
    with_reducible rfl
  try simp only [Act.put, lA, l0, lS]
  refine wpAnyH_take (i := 4) (oi := ⟨some 58, .move (.tmp 0), 26, _, _, some (3, true)⟩) (v := ?vq25) rfl (by kernel_rfl) (by kernel_rfl) (by kernel_rfl) (fun _ _ _ h => h) (Or.inl ⟨by rfl, fun W hW => ?_⟩) (by assumption) ?_
  rotate_left
  · go_simp
    with_reducible rfl
  try simp only [Act.put, lA, l0, lS]
  refine wpAnyH_take (i := 5) (oi := ⟨some 59, .nilCheck (.tmp 58), 0, _, _, some (3, true)⟩) (v := ?vq26) rfl (by kernel_rfl) (by kernel_rfl) (by kernel_rfl) (fun _ _ _ h => h) (Or.inl ⟨by rfl, fun W hW => ?_⟩) (by assumption) ?_
  rotate_left
  · go_simp
    with_reducible rfl
  try simp only [Act.put, lA, l0, lS]
  refine wpAnyH_take (i := 6) (oi := ⟨some 60, .fieldAddr 71 (.tmp 59) 0, 0, _, _, some (3, true)⟩) (v := ?vq27) rfl (by kernel_rfl) (by kernel_rfl) (by kernel_rfl) (fun _ _ _ h => h) (Or.inl ⟨by rfl, fun W hW => ?_⟩) (by assumption) ?_
  rotate_left
  · go_simp
    with_reducible rfl
  try simp only [Act.put, lA, l0, lS]
  refine wpAnyH_take (i := 7) (oi := ⟨some 61, .load 69 (.tmp 60), 69, _, _, some (3, true)⟩) (v := .slice (some ⟨g, 0, none⟩) n cap) rfl (by kernel_rfl) (by kernel_rfl) (by kernel_rfl) (fun _ _ _ h => h) (Or.inl ⟨by rfl, fun W hW => ?_⟩) (by assumption) ?_
  · (obtain ⟨a0, a1, a2, a3, a4, a5, a6, a7⟩ := hW; go_simp)
  try simp only [Act.put, lA, l0, lS]
  refine wpAnyH_take (i := 8) (oi := ⟨some 62, .move (.tmp 6), 3, _, _, some (3, true)⟩) (v := ?vq28) rfl (by kernel_rfl) (by kernel_rfl) (by kernel_rfl) (fun _ _ _ h => h) (Or.inl ⟨by rfl, fun W hW => ?_⟩) (by assumption) ?_
  rotate_left
  · go_simp
    with_reducible rfl
  try simp only [Act.put, lA, l0, lS]
  refine wpAnyH_take (i := 9) (oi := ⟨some 63, .indexAddr 69 (.tmp 61) (.tmp 62), 0, _, _, some (3, true)⟩) (v := ?vq29) rfl (by kernel_rfl) (by kernel_rfl) (by kernel_rfl) (fun _ _ _ h => h) (Or.inl ⟨by rfl, fun W hW => ?_⟩) (by assumption) ?_
  rotate_left
  · go_simp
    with_reducible rfl
  try simp only [Act.put, lA, l0, lS]
  refine wpAnyH_take (i := 10) (oi := ⟨some 64, .load 68 (.tmp 63), 68, _, _, some (3, true)⟩) (v := .agg #[.int .i64 zi, .int .i64 zp, .slice A1 n1 p1, .slice A2 n2 p2, .slice A3 n3 p3]) rfl (by kernel_rfl) (by kernel_rfl) (by kernel_rfl) (fun _ _ _ h => h) (Or.inl ⟨by rfl, fun W hW => ?_⟩) (by assumption) ?_
  · (obtain ⟨a0, a1, a2, a3, a4, a5, a6, a7⟩ := hW; go_simp)
  try simp only [Act.put, lA, l0, lS]
  refine wpAnyH_take (i := 11) (oi := ⟨some 65, .fieldAddr 34 (.tmp 5) 1, 0, _, _, some (3, true)⟩) (v := ?vq30) rfl (by kernel_rfl) (by kernel_rfl) (by kernel_rfl) (fun _ _ _ h => h) (Or.inl ⟨by rfl, fun W hW => ?_⟩) (by assumption) ?_
  rotate_left
  · go_simp
    with_reducible rfl
  try simp only [Act.put, lA, l0, lS]
  refine wpAnyH_take (i := 12) (oi := ⟨some 66, .load 9 (.tmp 65), 9, _, _, some (3, true)⟩) (v := sv ky) rfl (by kernel_rfl) (by kernel_rfl) (by kernel_rfl) (fun _ _ _ h => h) (Or.inl ⟨by rfl, fun W hW => ?_⟩) (by assumption) ?_
  · (obtain ⟨a0, a1, a2, a3, a4, a5, a6, a7⟩ := hW; go_simp)
  try simp only [Act.put, lA, l0, lS]
  refine wpAnyH_ready (rs := [13]) (by kernel_rfl) (by simp) ?_
  refine AllReadyH.cons (o := ⟨some 67, .call { callee := .value (.func 62), args := #[.tmp 64, .const (Value.int IntKind.i64 1), .tmp 66], argTypes := #[68, 3, 9] }, 3, _, _, some (3, true)⟩) rfl (fun KK hKK => ?_) AllReadyH.nil
  refine step_callW (by rfl) 62 _ _ rfl #[.agg #[.int .i64 zi, .int .i64 zp, .slice A1 n1 p1, .slice A2 n2 p2, .slice A3 n3 p3], .int .i64 1, sv ky] (by first | (simp [Act.eval]; done) | (simp [Act.eval, Act.put]; done)) (enters_of Tryz.func62 (by kernel_rfl) rfl) (HC.out _ K0) ?_
  rintro e W9 ⟨rfl, k9⟩
  refine ⟨_, rfl, ?_⟩
  have K9 := K0.trans k9 (by simp)
  refine hKK.out _ _ (HS.out _ K9) (fun hHeld => ?_)
  clear hKK KK
  try simp only [Act.put, lA, l0, lS]
  refine wpAnyH_take (i := 14) (oi := ⟨some 68, .binOp .lss 3 (.tmp 67) (.const (Value.int IntKind.i64 0)) 3, 4, _, _, some (3, true)⟩) (v := ?vq31) rfl (by kernel_rfl) (by kernel_rfl) (by kernel_rfl) (fun _ _ _ h => h) (Or.inl ⟨by rfl, fun W hW => ?_⟩) (by assumption) ?_
  rotate_left
  · go_simp
    with_reducible rfl
  try simp only [Act.put, lA, l0, lS]
  refine wpAnyH_take (i := 15) (oi := ⟨some 69, .pick (.tmp 57) (.tmp 68) (.const (Value.bool false)), 4, _, _, none⟩) (v := ?vq32) rfl (by kernel_rfl) (by kernel_rfl) (by kernel_rfl) (fun _ _ _ h => h) (Or.inl ⟨by rfl, fun W hW => ?_⟩) (by assumption) ?_
  rotate_left
  · go_simp
    with_reducible rfl
  try simp only [Act.put, lA, l0, lS]
  refine wpAnyH_done (by kernel_rfl) ?_ _
  refine NoPanic.normal ?_
  exact hK _ _ _ _ _ _ _ _ _ _ _ _ _ _ _ _ K9
noncomputable def no7tC : Code := ((Tryz.f53.body.bind (theRegion 7)).getD .skip)
set_option maxRecDepth 1000000 in
set_option maxHeartbeats 3200000 in
set_option linter.unusedSimpArgs false in
theorem no7t_any (w : World) (d q j : Nat) (kd : Int) (K : Exit → Act → World → Prop)
    (a0 : w.cell? ⟨q, 0, none⟩ = some (.int .i64 kd)) (hkd : (kd == 1) = false)
    (u1 u2 u3 u4 u7 u8 u9 u10 u11 u12 u13 u14 u15 u16 u17 u18 u19 u20 u21 u22 u23 u24 u25 u26 u27 u28 u29 u30 u31 u32 u33 u34 u35 u36 u37 u38 u39 u40 u41 u42 u43 u44 u45 u46 u47 u48 u49 u50 u51 u52 u53 u54 u55 u56 u57 u58 u59 u60 u61 u62 u63 u64 u65 u66 u67 u68 u69 u70 u71 u72 u73 u74 u75 u76 u77 u78 u79 u80 u81 u82 u83 u84 u85 u86 u87 u88 u89 u90 u91 u92 u93 u94 u95 u96 u97 u98 u99 u100 u101 u102 u103 u104 u105 u106 u107 u108 u109 u110 u111 u112 u113 u114 : Value)
    (hK : ∀ (v54 v55 v56 v57 v58 v59 v60 v61 v62 v63 v64 v65 v66 v67 v68 : Value) (nq : Nat), K .normal ⟨#[.pointer (some ⟨d, 0, none⟩), u1, u2, u3, u4, .pointer (some ⟨q, 0, none⟩), .int .i64 (j : Nat), u7, u8, u9, u10, u11, u12, u13, u14, u15, u16, u17, u18, u19, u20, u21, u22, u23, u24, u25, u26, u27, u28, u29, u30, u31, u32, u33, u34, u35, u36, u37, u38, u39, u40, u41, u42, u43, u44, u45, u46, u47, u48, u49, u50, u51, u52, u53, v54, v55, v56, v57, v58, v59, v60, v61, v62, v63, v64, v65, v66, v67, v68, .bool false, u70, u71, u72, u73, u74, u75, u76, u77, u78, u79, u80, u81, u82, u83, u84, u85, u86, u87, u88, u89, u90, u91, u92, u93, u94, u95, u96, u97, u98, u99, u100, u101, u102, u103, u104, u105, u106, u107, u108, u109, u110, u111, u112, u113, u114], []⟩ (w.drewN nq)) :
    Code.wp Tryz.prog no7tC K ⟨#[.pointer (some ⟨d, 0, none⟩), u1, u2, u3, u4, .pointer (some ⟨q, 0, none⟩), .int .i64 (j : Nat), u7, u8, u9, u10, u11, u12, u13, u14, u15, u16, u17, u18, u19, u20, u21, u22, u23, u24, u25, u26, u27, u28, u29, u30, u31, u32, u33, u34, u35, u36, u37, u38, u39, u40, u41, u42, u43, u44, u45, u46, u47, u48, u49, u50, u51, u52, u53, u54, u55, u56, u57, u58, u59, u60, u61, u62, u63, u64, u65, u66, u67, u68, u69, u70, u71, u72, u73, u74, u75, u76, u77, u78, u79, u80, u81, u82, u83, u84, u85, u86, u87, u88, u89, u90, u91, u92, u93, u94, u95, u96, u97, u98, u99, u100, u101, u102, u103, u104, u105, u106, u107, u108, u109, u110, u111, u112, u113, u114], []⟩ w := by
  conv => arg 2; whnf
  try dsimp only at hK ⊢
  go_quiet (fail)
  exact hK _ _ _ _ _ _ _ _ _ _ _ _ _ _ _ nq
noncomputable def no11fC : Code := ((Tryz.f53.body.bind (theRegion 11)).getD .skip)
set_option maxRecDepth 1000000 in
set_option maxHeartbeats 1600000 in
set_option linter.unusedSimpArgs false in
theorem no11f_any (w : World) (q bl off m p4 k : Nat) (ky y : Str)  (K : Exit → Act → World → Prop)
    (hS : ∀ W, Keeps [] w W → W.cell? ⟨q, 1, none⟩ = some (sv ky) ∧ W.cell? ⟨q, 3, none⟩ = some (.slice (some ⟨bl, off, none⟩) m p4) ∧ W.cell? ⟨bl, off + k, none⟩ = some (sv y))
    (hC : ∀ W, Calls Tryz.prog 63 #[sv y, sv ky] W fun e w' => e = .returned (.bool false) ∧ w' = W)
    (i0 : (0 : Int) ≤ (k : Int)) (i1 : (k : Int) < (m : Int))
    (u0 u1 u2 u3 u4 u6 u7 u8 u10 u11 u12 u13 u14 u15 u16 u17 u18 u19 u20 u21 u22 u23 u24 u25 u26 u27 u28 u29 u30 u31 u32 u33 u34 u35 u36 u37 u38 u39 u40 u41 u42 u43 u44 u45 u46 u47 u48 u49 u50 u51 u52 u53 u54 u55 u56 u57 u58 u59 u60 u61 u62 u63 u64 u65 u66 u67 u68 u69 u70 u71 u72 u73 u74 u75 u76 u77 u78 u79 u80 u81 u82 u83 u84 u85 u86 u87 u88 u89 u90 u91 u92 u93 u94 u95 u96 u97 u98 u99 u100 u101 u102 u103 u104 u105 u106 u107 u108 u109 u110 u111 u112 u113 u114 : Value)
    (hK : ∀ (v77 v78 v79 v80 v81 v82 v83 v84 v85 v86 v87 v88 v89 v90 v91 v92 v93 v94 v95 v96 v97 v98 v99 v100 v101 v102 v103 : Value) (W : World), Keeps [] w W → K .normal ⟨#[u0, u1, u2, u3, u4, .pointer (some ⟨q, 0, none⟩), u6, u7, u8, .int .i64 (k : Nat), u10, u11, u12, u13, u14, u15, u16, u17, u18, u19, u20, u21, u22, u23, u24, u25, u26, u27, u28, u29, u30, u31, u32, u33, u34, u35, u36, u37, u38, u39, u40, u41, u42, u43, u44, u45, u46, u47, u48, u49, u50, u51, u52, u53, u54, u55, u56, u57, u58, u59, u60, u61, u62, u63, u64, u65, u66, u67, u68, u69, u70, u71, u72, u73, u74, u75, u76, v77, v78, v79, v80, v81, v82, v83, v84, v85, v86, v87, v88, v89, v90, v91, v92, v93, v94, v95, v96, v97, v98, v99, v100, v101, v102, v103, .bool true, u105, u106, u107, u108, u109, u110, u111, u112, u113, u114], []⟩ W) :
    Code.wp Tryz.prog no11fC K ⟨#[u0, u1, u2, u3, u4, .pointer (some ⟨q, 0, none⟩), u6, u7, u8, .int .i64 (k : Nat), u10, u11, u12, u13, u14, u15, u16, u17, u18, u19, u20, u21, u22, u23, u24, u25, u26, u27, u28, u29, u30, u31, u32, u33, u34, u35, u36, u37, u38, u39, u40, u41, u42, u43, u44, u45, u46, u47, u48, u49, u50, u51, u52, u53, u54, u55, u56, u57, u58, u59, u60, u61, u62, u63, u64, u65, u66, u67, u68, u69, u70, u71, u72, u73, u74, u75, u76, u77, u78, u79, u80, u81, u82, u83, u84, u85, u86, u87, u88, u89, u90, u91, u92, u93, u94, u95, u96, u97, u98, u99, u100, u101, u102, u103, u104, u105, u106, u107, u108, u109, u110, u111, u112, u113, u114], []⟩ w := by
  have HS := Lib.hid hS
  have HC := Lib.hid hC
  clear hS hC
  conv => arg 2; whnf
  try dsimp only at hK ⊢
  refine wp_region_noPanic ?_
  refine wp_region_held_drew (S := fun W => W.cell? ⟨q, 1, none⟩ = some (sv ky) ∧ W.cell? ⟨q, 3, none⟩ = some (.slice (some ⟨bl, off, none⟩) m p4) ∧ W.cell? ⟨bl, off + k, none⟩ = some (sv y)) (by kernel_rfl) (HS.out _ ((Keeps.refl [] w).drew)) (fun hHeld => ?_)
  obtain ⟨w0, hw0⟩ : ∃ w0, w.drew = w0 := ⟨_, rfl⟩
  try rw [hw0] at hHeld
  rw [hw0]
  have K0 : Keeps [] w w0 := by rw [← hw0]; exact (Keeps.refl [] w).drew
  clear hw0
  refine wpAnyH_take (i := 0) (oi := ⟨some 77, .fieldAddr 34 (.tmp 5) 3, 0, _, _, none⟩) (v := ?vq33) rfl (by kernel_rfl) (by kernel_rfl) (by kernel_rfl) (fun _ _ _ h => h) (Or.inl ⟨by rfl, fun W hW => ?_⟩) (by assumption) ?_
  rotate_left
  · go_simp
    with_reducible rfl
  try simp only [Act.put, lA, l0, lS]
  refine wpAnyH_take (i := 1) (oi := ⟨some 78, .load 29 (.tmp 77), 29, _, _, none⟩) (v := .slice (some ⟨bl, off, none⟩) m p4) rfl (by kernel_rfl) (by kernel_rfl) (by kernel_rfl) (fun _ _ _ h => h) (Or.inl ⟨by rfl, fun W hW => ?_⟩) (by assumption) ?_
  · (obtain ⟨a0, a1, a2⟩ := hW; go_simp)
  try simp only [Act.put, lA, l0, lS]
  refine wpAnyH_take (i := 2) (oi := ⟨some 79, .move (.tmp 9), 3, _, _, none⟩) (v := ?vq34) rfl (by kernel_rfl) (by kernel_rfl) (by kernel_rfl) (fun _ _ _ h => h) (Or.inl ⟨by rfl, fun W hW => ?_⟩) (by assumption) ?_
  rotate_left
  · go_simp
    with_reducible rfl
  try simp only [Act.put, lA, l0, lS]
  refine wpAnyH_take (i := 3) (oi := ⟨some 80, .indexAddr 29 (.tmp 78) (.tmp 79), 0, _, _, none⟩) (v := ?vq35) rfl (by kernel_rfl) (by kernel_rfl) (by kernel_rfl) (fun _ _ _ h => h) (Or.inl ⟨by rfl, fun W hW => ?_⟩) (by assumption) ?_
  rotate_left
  · go_simp
    with_reducible rfl
  try simp only [Act.put, lA, l0, lS]
  refine wpAnyH_take (i := 4) (oi := ⟨some 81, .load 9 (.tmp 80), 9, _, _, none⟩) (v := sv y) rfl (by kernel_rfl) (by kernel_rfl) (by kernel_rfl) (fun _ _ _ h => h) (Or.inl ⟨by rfl, fun W hW => ?_⟩) (by assumption) ?_
  · (obtain ⟨a0, a1, a2⟩ := hW; go_simp)
  try simp only [Act.put, lA, l0, lS]
  refine wpAnyH_take (i := 5) (oi := ⟨some 82, .fieldAddr 34 (.tmp 5) 1, 0, _, _, none⟩) (v := ?vq36) rfl (by kernel_rfl) (by kernel_rfl) (by kernel_rfl) (fun _ _ _ h => h) (Or.inl ⟨by rfl, fun W hW => ?_⟩) (by assumption) ?_
  rotate_left
  · go_simp
    with_reducible rfl
  try simp only [Act.put, lA, l0, lS]
  refine wpAnyH_take (i := 6) (oi := ⟨some 83, .load 9 (.tmp 82), 9, _, _, none⟩) (v := sv ky) rfl (by kernel_rfl) (by kernel_rfl) (by kernel_rfl) (fun _ _ _ h => h) (Or.inl ⟨by rfl, fun W hW => ?_⟩) (by assumption) ?_
  · (obtain ⟨a0, a1, a2⟩ := hW; go_simp)
  try simp only [Act.put, lA, l0, lS]
  refine wpAnyH_ready (rs := [7]) (by kernel_rfl) (by simp) ?_
  refine AllReadyH.cons (o := ⟨some 84, .call { callee := .value (.func 63), args := #[.tmp 81, .tmp 83], argTypes := #[9, 9] }, 4, _, _, none⟩) rfl (fun KK hKK => ?_) AllReadyH.nil
  refine step_callW (by rfl) 63 _ _ rfl #[sv y, sv ky] (by first | (simp [Act.eval]; done) | (simp [Act.eval, Act.put]; done)) (enters_of Tryz.func63 (by kernel_rfl) rfl) (HC.out w0) ?_
  rintro e W9 ⟨rfl, h9⟩
  refine ⟨_, rfl, ?_⟩
  have K9 : Keeps [] w W9 := by rw [h9]; exact K0
  refine hKK.out _ _ (HS.out _ K9) (fun hHeld => ?_)
  clear hKK KK h9
  try simp only [Act.put, lA, l0, lS]
  refine wpAnyH_take (i := 8) (oi := ⟨some 85, .unOp .not 4 (.tmp 84), 4, _, _, none⟩) (v := .bool true) rfl (by kernel_rfl) (by kernel_rfl) (by kernel_rfl) (fun _ _ _ h => h) (Or.inl ⟨by rfl, fun W hW => ?_⟩) (by assumption) ?_
  · go_simp
  try simp only [Act.put, lA, l0, lS]
  refine wpAnyH_take (i := 9) (oi := ⟨some 86, .move (.tmp 85), 4, _, _, none⟩) (v := .bool true) rfl (by kernel_rfl) (by kernel_rfl) (by kernel_rfl) (fun _ _ _ h => h) (Or.inl ⟨by rfl, fun W hW => ?_⟩) (by assumption) ?_
  · go_simp
  try simp only [Act.put, lA, l0, lS]
  refine wpAnyH_take (i := 10) (oi := ⟨some 87, .move (.tmp 9), 3, _, _, some (9, false)⟩) (v := undef) rfl (by kernel_rfl) (by kernel_rfl) (by kernel_rfl) (fun _ _ _ h => h) (Or.inr ⟨by rfl, rfl⟩) (by assumption) ?_
  try simp only [Act.put, lA, l0, lS]
  refine wpAnyH_take (i := 11) (oi := ⟨some 88, .binOp .gtr 3 (.tmp 87) (.const (Value.int IntKind.i64 0)) 3, 4, _, _, some (9, false)⟩) (v := undef) rfl (by kernel_rfl) (by kernel_rfl) (by kernel_rfl) (fun _ _ _ h => h) (Or.inr ⟨by rfl, rfl⟩) (by assumption) ?_
  try simp only [Act.put, lA, l0, lS]
  refine wpAnyH_take (i := 12) (oi := ⟨some 89, .move (.tmp 88), 4, _, _, some (9, false)⟩) (v := undef) rfl (by kernel_rfl) (by kernel_rfl) (by kernel_rfl) (fun _ _ _ h => h) (Or.inr ⟨by rfl, rfl⟩) (by assumption) ?_
  try simp only [Act.put, lA, l0, lS]
  refine wpAnyH_take (i := 13) (oi := ⟨some 90, .fieldAddr 34 (.tmp 5) 3, 0, _, _, some (12, true)⟩) (v := undef) rfl (by kernel_rfl) (by kernel_rfl) (by kernel_rfl) (fun _ _ _ h => h) (Or.inr ⟨by rfl, rfl⟩) (by assumption) ?_
  try simp only [Act.put, lA, l0, lS]
  refine wpAnyH_take (i := 14) (oi := ⟨some 91, .load 29 (.tmp 90), 29, _, _, some (12, true)⟩) (v := undef) rfl (by kernel_rfl) (by kernel_rfl) (by kernel_rfl) (fun _ _ _ h => h) (Or.inr ⟨by rfl, rfl⟩) (by assumption) ?_
  try simp only [Act.put, lA, l0, lS]
  refine wpAnyH_take (i := 15) (oi := ⟨some 92, .move (.tmp 9), 3, _, _, some (12, true)⟩) (v := undef) rfl (by kernel_rfl) (by kernel_rfl) (by kernel_rfl) (fun _ _ _ h => h) (Or.inr ⟨by rfl, rfl⟩) (by assumption) ?_
  try simp only [Act.put, lA, l0, lS]
  refine wpAnyH_take (i := 16) (oi := ⟨some 93, .indexAddr 29 (.tmp 91) (.tmp 92), 0, _, _, some (12, true)⟩) (v := undef) rfl (by kernel_rfl) (by kernel_rfl) (by kernel_rfl) (fun _ _ _ h => h) (Or.inr ⟨by rfl, rfl⟩) (by assumption) ?_
  try simp only [Act.put, lA, l0, lS]
  refine wpAnyH_take (i := 17) (oi := ⟨some 94, .load 9 (.tmp 93), 9, _, _, some (12, true)⟩) (v := undef) rfl (by kernel_rfl) (by kernel_rfl) (by kernel_rfl) (fun _ _ _ h => h) (Or.inr ⟨by rfl, rfl⟩) (by assumption) ?_
  try simp only [Act.put, lA, l0, lS]
  refine wpAnyH_take (i := 18) (oi := ⟨some 95, .fieldAddr 34 (.tmp 5) 3, 0, _, _, some (12, true)⟩) (v := undef) rfl (by kernel_rfl) (by kernel_rfl) (by kernel_rfl) (fun _ _ _ h => h) (Or.inr ⟨by rfl, rfl⟩) (by assumption) ?_
  try simp only [Act.put, lA, l0, lS]
  refine wpAnyH_take (i := 19) (oi := ⟨some 96, .load 29 (.tmp 95), 29, _, _, some (12, true)⟩) (v := undef) rfl (by kernel_rfl) (by kernel_rfl) (by kernel_rfl) (fun _ _ _ h => h) (Or.inr ⟨by rfl, rfl⟩) (by assumption) ?_
  try simp only [Act.put, lA, l0, lS]
  refine wpAnyH_take (i := 20) (oi := ⟨some 97, .move (.tmp 9), 3, _, _, some (12, true)⟩) (v := undef) rfl (by kernel_rfl) (by kernel_rfl) (by kernel_rfl) (fun _ _ _ h => h) (Or.inr ⟨by rfl, rfl⟩) (by assumption) ?_
  try simp only [Act.put, lA, l0, lS]
  refine wpAnyH_take (i := 21) (oi := ⟨some 98, .binOp .sub 3 (.tmp 97) (.const (Value.int IntKind.i64 1)) 3, 3, _, _, some (12, true)⟩) (v := undef) rfl (by kernel_rfl) (by kernel_rfl) (by kernel_rfl) (fun _ _ _ h => h) (Or.inr ⟨by rfl, rfl⟩) (by assumption) ?_
  try simp only [Act.put, lA, l0, lS]
  refine wpAnyH_take (i := 22) (oi := ⟨some 99, .call { callee := .builtin .max, args := #[.tmp 98, .const (Value.int IntKind.i64 0)], argTypes := #[3, 3] }, 3, _, _, some (12, true)⟩) (v := undef) rfl (by kernel_rfl) (by kernel_rfl) (by kernel_rfl) (fun _ _ _ h => h) (Or.inr ⟨by rfl, rfl⟩) (by assumption) ?_
  try simp only [Act.put, lA, l0, lS]
  refine wpAnyH_take (i := 23) (oi := ⟨some 100, .indexAddr 29 (.tmp 96) (.tmp 99), 0, _, _, some (12, true)⟩) (v := undef) rfl (by kernel_rfl) (by kernel_rfl) (by kernel_rfl) (fun _ _ _ h => h) (Or.inr ⟨by rfl, rfl⟩) (by assumption) ?_
  try simp only [Act.put, lA, l0, lS]
  refine wpAnyH_take (i := 24) (oi := ⟨some 101, .load 9 (.tmp 100), 9, _, _, some (12, true)⟩) (v := undef) rfl (by kernel_rfl) (by kernel_rfl) (by kernel_rfl) (fun _ _ _ h => h) (Or.inr ⟨by rfl, rfl⟩) (by assumption) ?_
  try simp only [Act.put, lA, l0, lS]
  refine wpAnyH_take (i := 25) (oi := ⟨some 102, .binOp .leq 9 (.tmp 94) (.tmp 101) 9, 4, _, _, some (12, true)⟩) (v := undef) rfl (by kernel_rfl) (by kernel_rfl) (by kernel_rfl) (fun _ _ _ h => h) (Or.inr ⟨by rfl, rfl⟩) (by assumption) ?_
  try simp only [Act.put, lA, l0, lS]
  refine wpAnyH_take (i := 26) (oi := ⟨some 103, .pick (.tmp 89) (.tmp 102) (.const (Value.bool false)), 4, _, _, some (9, false)⟩) (v := undef) rfl (by kernel_rfl) (by kernel_rfl) (by kernel_rfl) (fun _ _ _ h => h) (Or.inr ⟨by rfl, rfl⟩) (by assumption) ?_
  try simp only [Act.put, lA, l0, lS]
  refine wpAnyH_take (i := 27) (oi := ⟨some 104, .pick (.tmp 86) (.const (Value.bool true)) (.tmp 103), 4, _, _, none⟩) (v := .bool true) rfl (by kernel_rfl) (by kernel_rfl) (by kernel_rfl) (fun _ _ _ h => h) (Or.inl ⟨by rfl, fun W hW => ?_⟩) (by assumption) ?_
  · go_simp
  try simp only [Act.put, lA, l0, lS]
  refine wpAnyH_done (by kernel_rfl) ?_ _
  refine NoPanic.normal ?_
  exact hK _ _ _ _ _ _ _ _ _ _ _ _ _ _ _ _ _ _ _ _ _ _ _ _ _ _ _ _ K9
noncomputable def no11zC : Code := ((Tryz.f53.body.bind (theRegion 11)).getD .skip)
set_option maxRecDepth 1000000 in
set_option maxHeartbeats 1600000 in
set_option linter.unusedSimpArgs false in
theorem no11z_any (w : World) (q bl off m p4 : Nat) (ky y : Str)  (K : Exit → Act → World → Prop)
    (hS : ∀ W, Keeps [] w W → W.cell? ⟨q, 1, none⟩ = some (sv ky) ∧ W.cell? ⟨q, 3, none⟩ = some (.slice (some ⟨bl, off, none⟩) m p4) ∧ W.cell? ⟨bl, off, none⟩ = some (sv y))
    (hC : ∀ W, Calls Tryz.prog 63 #[sv y, sv ky] W fun e w' => e = .returned (.bool true) ∧ w' = W)
    (i1 : 0 < m)
    (u0 u1 u2 u3 u4 u6 u7 u8 u10 u11 u12 u13 u14 u15 u16 u17 u18 u19 u20 u21 u22 u23 u24 u25 u26 u27 u28 u29 u30 u31 u32 u33 u34 u35 u36 u37 u38 u39 u40 u41 u42 u43 u44 u45 u46 u47 u48 u49 u50 u51 u52 u53 u54 u55 u56 u57 u58 u59 u60 u61 u62 u63 u64 u65 u66 u67 u68 u69 u70 u71 u72 u73 u74 u75 u76 u77 u78 u79 u80 u81 u82 u83 u84 u85 u86 u87 u88 u89 u90 u91 u92 u93 u94 u95 u96 u97 u98 u99 u100 u101 u102 u103 u104 u105 u106 u107 u108 u109 u110 u111 u112 u113 u114 : Value)
    (hK : ∀ (v77 v78 v79 v80 v81 v82 v83 v84 v85 v86 v87 v88 v89 v90 v91 v92 v93 v94 v95 v96 v97 v98 v99 v100 v101 v102 v103 : Value) (W : World), Keeps [] w W → K .normal ⟨#[u0, u1, u2, u3, u4, .pointer (some ⟨q, 0, none⟩), u6, u7, u8, .int .i64 0, u10, u11, u12, u13, u14, u15, u16, u17, u18, u19, u20, u21, u22, u23, u24, u25, u26, u27, u28, u29, u30, u31, u32, u33, u34, u35, u36, u37, u38, u39, u40, u41, u42, u43, u44, u45, u46, u47, u48, u49, u50, u51, u52, u53, u54, u55, u56, u57, u58, u59, u60, u61, u62, u63, u64, u65, u66, u67, u68, u69, u70, u71, u72, u73, u74, u75, u76, v77, v78, v79, v80, v81, v82, v83, v84, v85, v86, v87, v88, v89, v90, v91, v92, v93, v94, v95, v96, v97, v98, v99, v100, v101, v102, v103, .bool false, u105, u106, u107, u108, u109, u110, u111, u112, u113, u114], []⟩ W) :
    Code.wp Tryz.prog no11zC K ⟨#[u0, u1, u2, u3, u4, .pointer (some ⟨q, 0, none⟩), u6, u7, u8, .int .i64 0, u10, u11, u12, u13, u14, u15, u16, u17, u18, u19, u20, u21, u22, u23, u24, u25, u26, u27, u28, u29, u30, u31, u32, u33, u34, u35, u36, u37, u38, u39, u40, u41, u42, u43, u44, u45, u46, u47, u48, u49, u50, u51, u52, u53, u54, u55, u56, u57, u58, u59, u60, u61, u62, u63, u64, u65, u66, u67, u68, u69, u70, u71, u72, u73, u74, u75, u76, u77, u78, u79, u80, u81, u82, u83, u84, u85, u86, u87, u88, u89, u90, u91, u92, u93, u94, u95, u96, u97, u98, u99, u100, u101, u102, u103, u104, u105, u106, u107, u108, u109, u110, u111, u112, u113, u114], []⟩ w := by
  have HS := Lib.hid hS
  have HC := Lib.hid hC
  clear hS hC
  conv => arg 2; whnf
  try dsimp only at hK ⊢
  refine wp_region_noPanic ?_
  refine wp_region_held_drew (S := fun W => W.cell? ⟨q, 1, none⟩ = some (sv ky) ∧ W.cell? ⟨q, 3, none⟩ = some (.slice (some ⟨bl, off, none⟩) m p4) ∧ W.cell? ⟨bl, off, none⟩ = some (sv y)) (by kernel_rfl) (HS.out _ ((Keeps.refl [] w).drew)) (fun hHeld => ?_)
  obtain ⟨w0, hw0⟩ : ∃ w0, w.drew = w0 := ⟨_, rfl⟩
  try rw [hw0] at hHeld
  rw [hw0]
  have K0 : Keeps [] w w0 := by rw [← hw0]; exact (Keeps.refl [] w).drew
  clear hw0
  refine wpAnyH_take (i := 0) (oi := ⟨some 77, .fieldAddr 34 (.tmp 5) 3, 0, _, _, none⟩) (v := ?vq37) rfl (by kernel_rfl) (by kernel_rfl) (by kernel_rfl) (fun _ _ _ h => h) (Or.inl ⟨by rfl, fun W hW => ?_⟩) (by assumption) ?_
  rotate_left
  · go_simp
    with_reducible rfl
  try simp only [Act.put, lA, l0, lS]
  refine wpAnyH_take (i := 1) (oi := ⟨some 78, .load 29 (.tmp 77), 29, _, _, none⟩) (v := .slice (some ⟨bl, off, none⟩) m p4) rfl (by kernel_rfl) (by kernel_rfl) (by kernel_rfl) (fun _ _ _ h => h) (Or.inl ⟨by rfl, fun W hW => ?_⟩) (by assumption) ?_
  · (obtain ⟨a0, a1, a2⟩ := hW; go_simp)
  try simp only [Act.put, lA, l0, lS]
  refine wpAnyH_take (i := 2) (oi := ⟨some 79, .move (.tmp 9), 3, _, _, none⟩) (v := ?vq38) rfl (by kernel_rfl) (by kernel_rfl) (by kernel_rfl) (fun _ _ _ h => h) (Or.inl ⟨by rfl, fun W hW => ?_⟩) (by assumption) ?_
  rotate_left
  · go_simp
    with_reducible rfl
  try simp only [Act.put, lA, l0, lS]
  refine wpAnyH_take (i := 3) (oi := ⟨some 80, .indexAddr 29 (.tmp 78) (.tmp 79), 0, _, _, none⟩) (v := ?vq39) rfl (by kernel_rfl) (by kernel_rfl) (by kernel_rfl) (fun _ _ _ h => h) (Or.inl ⟨by rfl, fun W hW => ?_⟩) (by assumption) ?_
  rotate_left
  · go_simp
    with_reducible rfl
  try simp only [Act.put, lA, l0, lS]
  refine wpAnyH_take (i := 4) (oi := ⟨some 81, .load 9 (.tmp 80), 9, _, _, none⟩) (v := sv y) rfl (by kernel_rfl) (by kernel_rfl) (by kernel_rfl) (fun _ _ _ h => h) (Or.inl ⟨by rfl, fun W hW => ?_⟩) (by assumption) ?_
  · (obtain ⟨a0, a1, a2⟩ := hW; go_simp)
  try simp only [Act.put, lA, l0, lS]
  refine wpAnyH_take (i := 5) (oi := ⟨some 82, .fieldAddr 34 (.tmp 5) 1, 0, _, _, none⟩) (v := ?vq40) rfl (by kernel_rfl) (by kernel_rfl) (by kernel_rfl) (fun _ _ _ h => h) (Or.inl ⟨by rfl, fun W hW => ?_⟩) (by assumption) ?_
  rotate_left
  · go_simp
    with_reducible rfl
  try simp only [Act.put, lA, l0, lS]
  refine wpAnyH_take (i := 6) (oi := ⟨some 83, .load 9 (.tmp 82), 9, _, _, none⟩) (v := sv ky) rfl (by kernel_rfl) (by kernel_rfl) (by kernel_rfl) (fun _ _ _ h => h) (Or.inl ⟨by rfl, fun W hW => ?_⟩) (by assumption) ?_
  · (obtain ⟨a0, a1, a2⟩ := hW; go_simp)
  try simp only [Act.put, lA, l0, lS]
  refine wpAnyH_ready (rs := [7]) (by kernel_rfl) (by simp) ?_
  refine AllReadyH.cons (o := ⟨some 84, .call { callee := .value (.func 63), args := #[.tmp 81, .tmp 83], argTypes := #[9, 9] }, 4, _, _, none⟩) rfl (fun KK hKK => ?_) AllReadyH.nil
  refine step_callW (by rfl) 63 _ _ rfl #[sv y, sv ky] (by first | (simp [Act.eval]; done) | (simp [Act.eval, Act.put]; done)) (enters_of Tryz.func63 (by kernel_rfl) rfl) (HC.out w0) ?_
  rintro e W9 ⟨rfl, h9⟩
  refine ⟨_, rfl, ?_⟩
  have K9 : Keeps [] w W9 := by rw [h9]; exact K0
  refine hKK.out _ _ (HS.out _ K9) (fun hHeld => ?_)
  clear hKK KK h9
  try simp only [Act.put, lA, l0, lS]
  refine wpAnyH_take (i := 8) (oi := ⟨some 85, .unOp .not 4 (.tmp 84), 4, _, _, none⟩) (v := .bool false) rfl (by kernel_rfl) (by kernel_rfl) (by kernel_rfl) (fun _ _ _ h => h) (Or.inl ⟨by rfl, fun W hW => ?_⟩) (by assumption) ?_
  · go_simp
  try simp only [Act.put, lA, l0, lS]
  refine wpAnyH_take (i := 9) (oi := ⟨some 86, .move (.tmp 85), 4, _, _, none⟩) (v := .bool false) rfl (by kernel_rfl) (by kernel_rfl) (by kernel_rfl) (fun _ _ _ h => h) (Or.inl ⟨by rfl, fun W hW => ?_⟩) (by assumption) ?_
  · go_simp
  try simp only [Act.put, lA, l0, lS]
  refine wpAnyH_take (i := 10) (oi := ⟨some 87, .move (.tmp 9), 3, _, _, some (9, false)⟩) (v := ?vq41) rfl (by kernel_rfl) (by kernel_rfl) (by kernel_rfl) (fun _ _ _ h => h) (Or.inl ⟨by rfl, fun W hW => ?_⟩) (by assumption) ?_
  rotate_left
  · go_simp
    with_reducible rfl
  try simp only [Act.put, lA, l0, lS]
  refine wpAnyH_take (i := 11) (oi := ⟨some 88, .binOp .gtr 3 (.tmp 87) (.const (Value.int IntKind.i64 0)) 3, 4, _, _, some (9, false)⟩) (v := .bool false) rfl (by kernel_rfl) (by kernel_rfl) (by kernel_rfl) (fun _ _ _ h => h) (Or.inl ⟨by rfl, fun W hW => ?_⟩) (by assumption) ?_
  · go_simp
  try simp only [Act.put, lA, l0, lS]
  refine wpAnyH_take (i := 12) (oi := ⟨some 89, .move (.tmp 88), 4, _, _, some (9, false)⟩) (v := .bool false) rfl (by kernel_rfl) (by kernel_rfl) (by kernel_rfl) (fun _ _ _ h => h) (Or.inl ⟨by rfl, fun W hW => ?_⟩) (by assumption) ?_
  · go_simp
  try simp only [Act.put, lA, l0, lS]
  refine wpAnyH_take (i := 13) (oi := ⟨some 90, .fieldAddr 34 (.tmp 5) 3, 0, _, _, some (12, true)⟩) (v := undef) rfl (by kernel_rfl) (by kernel_rfl) (by kernel_rfl) (fun _ _ _ h => h) (Or.inr ⟨by rfl, rfl⟩) (by assumption) ?_
  try simp only [Act.put, lA, l0, lS]
  refine wpAnyH_take (i := 14) (oi := ⟨some 91, .load 29 (.tmp 90), 29, _, _, some (12, true)⟩) (v := undef) rfl (by kernel_rfl) (by kernel_rfl) (by kernel_rfl) (fun _ _ _ h => h) (Or.inr ⟨by rfl, rfl⟩) (by assumption) ?_
  try simp only [Act.put, lA, l0, lS]
  refine wpAnyH_take (i := 15) (oi := ⟨some 92, .move (.tmp 9), 3, _, _, some (12, true)⟩) (v := undef) rfl (by kernel_rfl) (by kernel_rfl) (by kernel_rfl) (fun _ _ _ h => h) (Or.inr ⟨by rfl, rfl⟩) (by assumption) ?_
  try simp only [Act.put, lA, l0, lS]
  refine wpAnyH_take (i := 16) (oi := ⟨some 93, .indexAddr 29 (.tmp 91) (.tmp 92), 0, _, _, some (12, true)⟩) (v := undef) rfl (by kernel_rfl) (by kernel_rfl) (by kernel_rfl) (fun _ _ _ h => h) (Or.inr ⟨by rfl, rfl⟩) (by assumption) ?_
  try simp only [Act.put, lA, l0, lS]
  refine wpAnyH_take (i := 17) (oi := ⟨some 94, .load 9 (.tmp 93), 9, _, _, some (12, true)⟩) (v := undef) rfl (by kernel_rfl) (by kernel_rfl) (by kernel_rfl) (fun _ _ _ h => h) (Or.inr ⟨by rfl, rfl⟩) (by assumption) ?_
  try simp only [Act.put, lA, l0, lS]
  refine wpAnyH_take (i := 18) (oi := ⟨some 95, .fieldAddr 34 (.tmp 5) 3, 0, _, _, some (12, true)⟩) (v := undef) rfl (by kernel_rfl) (by kernel_rfl) (by kernel_rfl) (fun _ _ _ h => h) (Or.inr ⟨by rfl, rfl⟩) (by assumption) ?_
  try simp only [Act.put, lA, l0, lS]
  refine wpAnyH_take (i := 19) (oi := ⟨some 96, .load 29 (.tmp 95), 29, _, _, some (12, true)⟩) (v := undef) rfl (by kernel_rfl) (by kernel_rfl) (by kernel_rfl) (fun _ _ _ h => h) (Or.inr ⟨by rfl, rfl⟩) (by assumption) ?_
  try simp only [Act.put, lA, l0, lS]
  refine wpAnyH_take (i := 20) (oi := ⟨some 97, .move (.tmp 9), 3, _, _, some (12, true)⟩) (v := undef) rfl (by kernel_rfl) (by kernel_rfl) (by kernel_rfl) (fun _ _ _ h => h) (Or.inr ⟨by rfl, rfl⟩) (by assumption) ?_
  try simp only [Act.put, lA, l0, lS]
  refine wpAnyH_take (i := 21) (oi := ⟨some 98, .binOp .sub 3 (.tmp 97) (.const (Value.int IntKind.i64 1)) 3, 3, _, _, some (12, true)⟩) (v := undef) rfl (by kernel_rfl) (by kernel_rfl) (by kernel_rfl) (fun _ _ _ h => h) (Or.inr ⟨by rfl, rfl⟩) (by assumption) ?_
  try simp only [Act.put, lA, l0, lS]
  refine wpAnyH_take (i := 22) (oi := ⟨some 99, .call { callee := .builtin .max, args := #[.tmp 98, .const (Value.int IntKind.i64 0)], argTypes := #[3, 3] }, 3, _, _, some (12, true)⟩) (v := undef) rfl (by kernel_rfl) (by kernel_rfl) (by kernel_rfl) (fun _ _ _ h => h) (Or.inr ⟨by rfl, rfl⟩) (by assumption) ?_
  try simp only [Act.put, lA, l0, lS]
  refine wpAnyH_take (i := 23) (oi := ⟨some 100, .indexAddr 29 (.tmp 96) (.tmp 99), 0, _, _, some (12, true)⟩) (v := undef) rfl (by kernel_rfl) (by kernel_rfl) (by kernel_rfl) (fun _ _ _ h => h) (Or.inr ⟨by rfl, rfl⟩) (by assumption) ?_
  try simp only [Act.put, lA, l0, lS]
  refine wpAnyH_take (i := 24) (oi := ⟨some 101, .load 9 (.tmp 100), 9, _, _, some (12, true)⟩) (v := undef) rfl (by kernel_rfl) (by kernel_rfl) (by kernel_rfl) (fun _ _ _ h => h) (Or.inr ⟨by rfl, rfl⟩) (by assumption) ?_
  try simp only [Act.put, lA, l0, lS]
  refine wpAnyH_take (i := 25) (oi := ⟨some 102, .binOp .leq 9 (.tmp 94) (.tmp 101) 9, 4, _, _, some (12, true)⟩) (v := undef) rfl (by kernel_rfl) (by kernel_rfl) (by kernel_rfl) (fun _ _ _ h => h) (Or.inr ⟨by rfl, rfl⟩) (by assumption) ?_
  try simp only [Act.put, lA, l0, lS]
  refine wpAnyH_take (i := 26) (oi := ⟨some 103, .pick (.tmp 89) (.tmp 102) (.const (Value.bool false)), 4, _, _, some (9, false)⟩) (v := .bool false) rfl (by kernel_rfl) (by kernel_rfl) (by kernel_rfl) (fun _ _ _ h => h) (Or.inl ⟨by rfl, fun W hW => ?_⟩) (by assumption) ?_
  · go_simp
  try simp only [Act.put, lA, l0, lS]
  refine wpAnyH_take (i := 27) (oi := ⟨some 104, .pick (.tmp 86) (.const (Value.bool true)) (.tmp 103), 4, _, _, none⟩) (v := .bool false) rfl (by kernel_rfl) (by kernel_rfl) (by kernel_rfl) (fun _ _ _ h => h) (Or.inl ⟨by rfl, fun W hW => ?_⟩) (by assumption) ?_
  · go_simp
  try simp only [Act.put, lA, l0, lS]
  refine wpAnyH_done (by kernel_rfl) ?_ _
  refine NoPanic.normal ?_
  exact hK _ _ _ _ _ _ _ _ _ _ _ _ _ _ _ _ _ _ _ _ _ _ _ _ _ _ _ _ K9
noncomputable def no11sC : Code := ((Tryz.f53.body.bind (theRegion 11)).getD .skip)
set_option maxRecDepth 1000000 in
set_option maxHeartbeats 1600000 in
set_option linter.unusedSimpArgs false in
theorem no11s_any (w : World) (q bl off m p4 k : Nat) (ky y : Str) (k1 : Nat) (z : Str) (t : Bool)  (K : Exit → Act → World → Prop)
    (hS : ∀ W, Keeps [] w W → W.cell? ⟨q, 1, none⟩ = some (sv ky) ∧ W.cell? ⟨q, 3, none⟩ = some (.slice (some ⟨bl, off, none⟩) m p4) ∧ W.cell? ⟨bl, off + k1, none⟩ = some (sv y) ∧ W.cell? ⟨bl, off + k, none⟩ = some (sv z))
    (hC : ∀ W, Calls Tryz.prog 63 #[sv y, sv ky] W fun e w' => e = .returned (.bool true) ∧ w' = W)
    (i0 : (0 : Int) ≤ (k1 : Int)) (i1 : (k1 : Int) < (m : Int)) (i2 : (0 : Int) ≤ (k : Int)) (i3 : (k : Int) < (m : Int)) (i4 : 0 < k1) (i5 : IntKind.i64.wrap ((k1 : Int) - 1) = (k : Int)) (i6 : max (k : Int) 0 = (k : Int))
    (hcmp : ∀ W, (binOp .leq 9 (sv y) (sv z)).run Tryz.prog W = .ok (.bool t) W)
    (u0 u1 u2 u3 u4 u6 u7 u8 u10 u11 u12 u13 u14 u15 u16 u17 u18 u19 u20 u21 u22 u23 u24 u25 u26 u27 u28 u29 u30 u31 u32 u33 u34 u35 u36 u37 u38 u39 u40 u41 u42 u43 u44 u45 u46 u47 u48 u49 u50 u51 u52 u53 u54 u55 u56 u57 u58 u59 u60 u61 u62 u63 u64 u65 u66 u67 u68 u69 u70 u71 u72 u73 u74 u75 u76 u77 u78 u79 u80 u81 u82 u83 u84 u85 u86 u87 u88 u89 u90 u91 u92 u93 u94 u95 u96 u97 u98 u99 u100 u101 u102 u103 u104 u105 u106 u107 u108 u109 u110 u111 u112 u113 u114 : Value)
    (hK : ∀ (v77 v78 v79 v80 v81 v82 v83 v84 v85 v86 v87 v88 v89 v90 v91 v92 v93 v94 v95 v96 v97 v98 v99 v100 v101 v102 v103 : Value) (W : World), Keeps [] w W → K .normal ⟨#[u0, u1, u2, u3, u4, .pointer (some ⟨q, 0, none⟩), u6, u7, u8, .int .i64 (k1 : Nat), u10, u11, u12, u13, u14, u15, u16, u17, u18, u19, u20, u21, u22, u23, u24, u25, u26, u27, u28, u29, u30, u31, u32, u33, u34, u35, u36, u37, u38, u39, u40, u41, u42, u43, u44, u45, u46, u47, u48, u49, u50, u51, u52, u53, u54, u55, u56, u57, u58, u59, u60, u61, u62, u63, u64, u65, u66, u67, u68, u69, u70, u71, u72, u73, u74, u75, u76, v77, v78, v79, v80, v81, v82, v83, v84, v85, v86, v87, v88, v89, v90, v91, v92, v93, v94, v95, v96, v97, v98, v99, v100, v101, v102, v103, .bool t, u105, u106, u107, u108, u109, u110, u111, u112, u113, u114], []⟩ W) :
    Code.wp Tryz.prog no11sC K ⟨#[u0, u1, u2, u3, u4, .pointer (some ⟨q, 0, none⟩), u6, u7, u8, .int .i64 (k1 : Nat), u10, u11, u12, u13, u14, u15, u16, u17, u18, u19, u20, u21, u22, u23, u24, u25, u26, u27, u28, u29, u30, u31, u32, u33, u34, u35, u36, u37, u38, u39, u40, u41, u42, u43, u44, u45, u46, u47, u48, u49, u50, u51, u52, u53, u54, u55, u56, u57, u58, u59, u60, u61, u62, u63, u64, u65, u66, u67, u68, u69, u70, u71, u72, u73, u74, u75, u76, u77, u78, u79, u80, u81, u82, u83, u84, u85, u86, u87, u88, u89, u90, u91, u92, u93, u94, u95, u96, u97, u98, u99, u100, u101, u102, u103, u104, u105, u106, u107, u108, u109, u110, u111, u112, u113, u114], []⟩ w := by
  have HS := Lib.hid hS
  have HC := Lib.hid hC
  clear hS hC
  have H5 := Lib.hid i5
  have H6 := Lib.hid i6
  have HCMP := Lib.hid hcmp
  clear i5 i6 hcmp
  conv => arg 2; whnf
  try dsimp only at hK ⊢
  refine wp_region_noPanic ?_
  refine wp_region_held_drew (S := fun W => W.cell? ⟨q, 1, none⟩ = some (sv ky) ∧ W.cell? ⟨q, 3, none⟩ = some (.slice (some ⟨bl, off, none⟩) m p4) ∧ W.cell? ⟨bl, off + k1, none⟩ = some (sv y) ∧ W.cell? ⟨bl, off + k, none⟩ = some (sv z)) (by kernel_rfl) (HS.out _ ((Keeps.refl [] w).drew)) (fun hHeld => ?_)
  obtain ⟨w0, hw0⟩ : ∃ w0, w.drew = w0 := ⟨_, rfl⟩
  try rw [hw0] at hHeld
  rw [hw0]
  have K0 : Keeps [] w w0 := by rw [← hw0]; exact (Keeps.refl [] w).drew
  clear hw0
  refine wpAnyH_take (i := 0) (oi := ⟨some 77, .fieldAddr 34 (.tmp 5) 3, 0, _, _, none⟩) (v := ?vq42) rfl (by kernel_rfl) (by kernel_rfl) (by kernel_rfl) (fun _ _ _ h => h) (Or.inl ⟨by rfl, fun W hW => ?_⟩) (by assumption) ?_
  rotate_left
  · go_simp
    with_reducible rfl
  try simp only [Act.put, lA, l0, lS]
  refine wpAnyH_take (i := 1) (oi := ⟨some 78, .load 29 (.tmp 77), 29, _, _, none⟩) (v := .slice (some ⟨bl, off, none⟩) m p4) rfl (by kernel_rfl) (by kernel_rfl) (by kernel_rfl) (fun _ _ _ h => h) (Or.inl ⟨by rfl, fun W hW => ?_⟩) (by assumption) ?_
  · (obtain ⟨a0, a1, a2, a3⟩ := hW; go_simp)
  try simp only [Act.put, lA, l0, lS]
  refine wpAnyH_take (i := 2) (oi := ⟨some 79, .move (.tmp 9), 3, _, _, none⟩) (v := ?vq43) rfl (by kernel_rfl) (by kernel_rfl) (by kernel_rfl) (fun _ _ _ h => h) (Or.inl ⟨by rfl, fun W hW => ?_⟩) (by assumption) ?_
  rotate_left
  · go_simp
    with_reducible rfl
  try simp only [Act.put, lA, l0, lS]
  refine wpAnyH_take (i := 3) (oi := ⟨some 80, .indexAddr 29 (.tmp 78) (.tmp 79), 0, _, _, none⟩) (v := ?vq44) rfl (by kernel_rfl) (by kernel_rfl) (by kernel_rfl) (fun _ _ _ h => h) (Or.inl ⟨by rfl, fun W hW => ?_⟩) (by assumption) ?_
  rotate_left
  · go_simp
    with_reducible rfl
  try simp only [Act.put, lA, l0, lS]
  refine wpAnyH_take (i := 4) (oi := ⟨some 81, .load 9 (.tmp 80), 9, _, _, none⟩) (v := sv y) rfl (by kernel_rfl) (by kernel_rfl) (by kernel_rfl) (fun _ _ _ h => h) (Or.inl ⟨by rfl, fun W hW => ?_⟩) (by assumption) ?_
  · (obtain ⟨a0, a1, a2, a3⟩ := hW; go_simp)
  try simp only [Act.put, lA, l0, lS]
  refine wpAnyH_take (i := 5) (oi := ⟨some 82, .fieldAddr 34 (.tmp 5) 1, 0, _, _, none⟩) (v := ?vq45) rfl (by kernel_rfl) (by kernel_rfl) (by kernel_rfl) (fun _ _ _ h => h) (Or.inl ⟨by rfl, fun W hW => ?_⟩) (by assumption) ?_
  rotate_left
  · go_simp
    with_reducible rfl
  try simp only [Act.put, lA, l0, lS]
  refine wpAnyH_take (i := 6) (oi := ⟨some 83, .load 9 (.tmp 82), 9, _, _, none⟩) (v := sv ky) rfl (by kernel_rfl) (by kernel_rfl) (by kernel_rfl) (fun _ _ _ h => h) (Or.inl ⟨by rfl, fun W hW => ?_⟩) (by assumption) ?_
  · (obtain ⟨a0, a1, a2, a3⟩ := hW; go_simp)
  try simp only [Act.put, lA, l0, lS]
  refine wpAnyH_ready (rs := [7]) (by kernel_rfl) (by simp) ?_
  refine AllReadyH.cons (o := ⟨some 84, .call { callee := .value (.func 63), args := #[.tmp 81, .tmp 83], argTypes := #[9, 9] }, 4, _, _, none⟩) rfl (fun KK hKK => ?_) AllReadyH.nil
  refine step_callW (by rfl) 63 _ _ rfl #[sv y, sv ky] (by first | (simp [Act.eval]; done) | (simp [Act.eval, Act.put]; done)) (enters_of Tryz.func63 (by kernel_rfl) rfl) (HC.out w0) ?_
  rintro e W9 ⟨rfl, h9⟩
  refine ⟨_, rfl, ?_⟩
  have K9 : Keeps [] w W9 := by rw [h9]; exact K0
  refine hKK.out _ _ (HS.out _ K9) (fun hHeld => ?_)
  clear hKK KK h9
  try simp only [Act.put, lA, l0, lS]
  refine wpAnyH_take (i := 8) (oi := ⟨some 85, .unOp .not 4 (.tmp 84), 4, _, _, none⟩) (v := .bool false) rfl (by kernel_rfl) (by kernel_rfl) (by kernel_rfl) (fun _ _ _ h => h) (Or.inl ⟨by rfl, fun W hW => ?_⟩) (by assumption) ?_
  · go_simp
  try simp only [Act.put, lA, l0, lS]
  refine wpAnyH_take (i := 9) (oi := ⟨some 86, .move (.tmp 85), 4, _, _, none⟩) (v := .bool false) rfl (by kernel_rfl) (by kernel_rfl) (by kernel_rfl) (fun _ _ _ h => h) (Or.inl ⟨by rfl, fun W hW => ?_⟩) (by assumption) ?_
  · go_simp
  try simp only [Act.put, lA, l0, lS]
  refine wpAnyH_take (i := 10) (oi := ⟨some 87, .move (.tmp 9), 3, _, _, some (9, false)⟩) (v := ?vq46) rfl (by kernel_rfl) (by kernel_rfl) (by kernel_rfl) (fun _ _ _ h => h) (Or.inl ⟨by rfl, fun W hW => ?_⟩) (by assumption) ?_
  rotate_left
  · go_simp
    with_reducible rfl
  try simp only [Act.put, lA, l0, lS]
  refine wpAnyH_take (i := 11) (oi := ⟨some 88, .binOp .gtr 3 (.tmp 87) (.const (Value.int IntKind.i64 0)) 3, 4, _, _, some (9, false)⟩) (v := .bool true) rfl (by kernel_rfl) (by kernel_rfl) (by kernel_rfl) (fun _ _ _ h => h) (Or.inl ⟨by rfl, fun W hW => ?_⟩) (by assumption) ?_
  · go_simp
  try simp only [Act.put, lA, l0, lS]
  refine wpAnyH_take (i := 12) (oi := ⟨some 89, .move (.tmp 88), 4, _, _, some (9, false)⟩) (v := .bool true) rfl (by kernel_rfl) (by kernel_rfl) (by kernel_rfl) (fun _ _ _ h => h) (Or.inl ⟨by rfl, fun W hW => ?_⟩) (by assumption) ?_
  · go_simp
  try simp only [Act.put, lA, l0, lS]
  refine wpAnyH_take (i := 13) (oi := ⟨some 90, .fieldAddr 34 (.tmp 5) 3, 0, _, _, some (12, true)⟩) (v := ?vq47) rfl (by kernel_rfl) (by kernel_rfl) (by kernel_rfl) (fun _ _ _ h => h) (Or.inl ⟨by rfl, fun W hW => ?_⟩) (by assumption) ?_
  rotate_left
  · go_simp
    with_reducible rfl
  try simp only [Act.put, lA, l0, lS]
  refine wpAnyH_take (i := 14) (oi := ⟨some 91, .load 29 (.tmp 90), 29, _, _, some (12, true)⟩) (v := .slice (some ⟨bl, off, none⟩) m p4) rfl (by kernel_rfl) (by kernel_rfl) (by kernel_rfl) (fun _ _ _ h => h) (Or.inl ⟨by rfl, fun W hW => ?_⟩) (by assumption) ?_
  · (obtain ⟨a0, a1, a2, a3⟩ := hW; go_simp)
  try simp only [Act.put, lA, l0, lS]
  refine wpAnyH_take (i := 15) (oi := ⟨some 92, .move (.tmp 9), 3, _, _, some (12, true)⟩) (v := ?vq48) rfl (by kernel_rfl) (by kernel_rfl) (by kernel_rfl) (fun _ _ _ h => h) (Or.inl ⟨by rfl, fun W hW => ?_⟩) (by assumption) ?_
  rotate_left
  · go_simp
    with_reducible rfl
  try simp only [Act.put, lA, l0, lS]
  refine wpAnyH_take (i := 16) (oi := ⟨some 93, .indexAddr 29 (.tmp 91) (.tmp 92), 0, _, _, some (12, true)⟩) (v := ?vq49) rfl (by kernel_rfl) (by kernel_rfl) (by kernel_rfl) (fun _ _ _ h => h) (Or.inl ⟨by rfl, fun W hW => ?_⟩) (by assumption) ?_
  rotate_left
  · go_simp
    with_reducible rfl
  try simp only [Act.put, lA, l0, lS]
  refine wpAnyH_take (i := 17) (oi := ⟨some 94, .load 9 (.tmp 93), 9, _, _, some (12, true)⟩) (v := sv y) rfl (by kernel_rfl) (by kernel_rfl) (by kernel_rfl) (fun _ _ _ h => h) (Or.inl ⟨by rfl, fun W hW => ?_⟩) (by assumption) ?_
  · (obtain ⟨a0, a1, a2, a3⟩ := hW; go_simp)
  try simp only [Act.put, lA, l0, lS]
  refine wpAnyH_take (i := 18) (oi := ⟨some 95, .fieldAddr 34 (.tmp 5) 3, 0, _, _, some (12, true)⟩) (v := ?vq50) rfl (by kernel_rfl) (by kernel_rfl) (by kernel_rfl) (fun _ _ _ h => h) (Or.inl ⟨by rfl, fun W hW => ?_⟩) (by assumption) ?_
  rotate_left
  · go_simp
    with_reducible rfl
  try simp only [Act.put, lA, l0, lS]
  refine wpAnyH_take (i := 19) (oi := ⟨some 96, .load 29 (.tmp 95), 29, _, _, some (12, true)⟩) (v := .slice (some ⟨bl, off, none⟩) m p4) rfl (by kernel_rfl) (by kernel_rfl) (by kernel_rfl) (fun _ _ _ h => h) (Or.inl ⟨by rfl, fun W hW => ?_⟩) (by assumption) ?_
  · (obtain ⟨a0, a1, a2, a3⟩ := hW; go_simp)
  try simp only [Act.put, lA, l0, lS]
  refine wpAnyH_take (i := 20) (oi := ⟨some 97, .move (.tmp 9), 3, _, _, some (12, true)⟩) (v := ?vq51) rfl (by kernel_rfl) (by kernel_rfl) (by kernel_rfl) (fun _ _ _ h => h) (Or.inl ⟨by rfl, fun W hW => ?_⟩) (by assumption) ?_
  rotate_left
  · go_simp
    with_reducible rfl
  try simp only [Act.put, lA, l0, lS]
  refine wpAnyH_take (i := 21) (oi := ⟨some 98, .binOp .sub 3 (.tmp 97) (.const (Value.int IntKind.i64 1)) 3, 3, _, _, some (12, true)⟩) (v := .int .i64 (k : Nat)) rfl (by kernel_rfl) (by kernel_rfl) (by kernel_rfl) (fun _ _ _ h => h) (Or.inl ⟨by rfl, fun W hW => ?_⟩) (by assumption) ?_
  · (have b0 := H5.out; go_simp)
  try simp only [Act.put, lA, l0, lS]
  refine wpAnyH_take (i := 22) (oi := ⟨some 99, .call { callee := .builtin .max, args := #[.tmp 98, .const (Value.int IntKind.i64 0)], argTypes := #[3, 3] }, 3, _, _, some (12, true)⟩) (v := .int .i64 (k : Nat)) rfl (by kernel_rfl) (by kernel_rfl) (by kernel_rfl) (fun _ _ _ h => h) (Or.inl ⟨by rfl, fun W hW => ?_⟩) (by assumption) ?_
  · (have b0 := H6.out; go_simp)
  try simp only [Act.put, lA, l0, lS]
  refine wpAnyH_take (i := 23) (oi := ⟨some 100, .indexAddr 29 (.tmp 96) (.tmp 99), 0, _, _, some (12, true)⟩) (v := ?vq52) rfl (by kernel_rfl) (by kernel_rfl) (by kernel_rfl) (fun _ _ _ h => h) (Or.inl ⟨by rfl, fun W hW => ?_⟩) (by assumption) ?_
  rotate_left
  · go_simp
    with_reducible rfl
  try simp only [Act.put, lA, l0, lS]
  refine wpAnyH_take (i := 24) (oi := ⟨some 101, .load 9 (.tmp 100), 9, _, _, some (12, true)⟩) (v := sv z) rfl (by kernel_rfl) (by kernel_rfl) (by kernel_rfl) (fun _ _ _ h => h) (Or.inl ⟨by rfl, fun W hW => ?_⟩) (by assumption) ?_
  · (obtain ⟨a0, a1, a2, a3⟩ := hW; go_simp)
  try simp only [Act.put, lA, l0, lS]
  refine wpAnyH_take (i := 25) (oi := ⟨some 102, .binOp .leq 9 (.tmp 94) (.tmp 101) 9, 4, _, _, some (12, true)⟩) (v := .bool t) rfl (by kernel_rfl) (by kernel_rfl) (by kernel_rfl) (fun _ _ _ h => h) (Or.inl ⟨by rfl, fun W hW => ?_⟩) (by assumption) ?_
  · (have b0 := HCMP.out W; go_simp)
  try simp only [Act.put, lA, l0, lS]
  refine wpAnyH_take (i := 26) (oi := ⟨some 103, .pick (.tmp 89) (.tmp 102) (.const (Value.bool false)), 4, _, _, some (9, false)⟩) (v := .bool t) rfl (by kernel_rfl) (by kernel_rfl) (by kernel_rfl) (fun _ _ _ h => h) (Or.inl ⟨by rfl, fun W hW => ?_⟩) (by assumption) ?_
  · go_simp
  try simp only [Act.put, lA, l0, lS]
  refine wpAnyH_take (i := 27) (oi := ⟨some 104, .pick (.tmp 86) (.const (Value.bool true)) (.tmp 103), 4, _, _, none⟩) (v := .bool t) rfl (by kernel_rfl) (by kernel_rfl) (by kernel_rfl) (fun _ _ _ h => h) (Or.inl ⟨by rfl, fun W hW => ?_⟩) (by assumption) ?_
  · go_simp
  try simp only [Act.put, lA, l0, lS]
  refine wpAnyH_done (by kernel_rfl) ?_ _
  refine NoPanic.normal ?_
  exact hK _ _ _ _ _ _ _ _ _ _ _ _ _ _ _ _ _ _ _ _ _ _ _ _ _ _ _ _ K9
noncomputable def no12C : Code := ((Tryz.f53.body.bind (theRegion 12)).getD .skip)
set_option maxRecDepth 1000000 in
set_option maxHeartbeats 3200000 in
set_option linter.unusedSimpArgs false in
theorem no12_any (w : World) (d q j n4 p4 : Nat) (A4 : Option Addr) (ky : Str) (l : List Str) (Q : World → Prop) (K : Exit → Act → World → Prop) (hn : n4 ≤ 1000000) (hN3 : 0 + n4 = n4)
    (hS : ∀ W, Keeps [] w W → W.cell? ⟨q, 1, none⟩ = some (sv ky) ∧ W.cell? ⟨q, 3, none⟩ = some (.slice A4 n4 p4))
    (hr1 : ∀ W, Keeps [] w W → Reads W W.heap.size 1 A4 n4 (vs l))
    (hC : ∀ W A c, Keeps [] w W → W.ownsRow 0 9 1 (.slice A n4 c) n4 ([] ++ vs l) → (∀ g ∈ fp (.slice A n4 c), w.heap.size ≤ g) → Calls Tryz.prog 86 #[.pointer (some ⟨d, 0, none⟩), .int .i64 (j : Nat), .agg #[.int .i64 1, sv ky, .string ⟨#[]⟩, .slice A n4 c]] W fun e w' => e = .returned (.tuple #[]) ∧ Q w')
    (u1 u2 u3 u4 u7 u8 u9 u10 u11 u12 u13 u14 u15 u16 u17 u18 u19 u20 u21 u22 u23 u24 u25 u26 u27 u28 u29 u30 u31 u32 u33 u34 u35 u36 u37 u38 u39 u40 u41 u42 u43 u44 u45 u46 u47 u48 u49 u50 u51 u52 u53 u54 u55 u56 u57 u58 u59 u60 u61 u62 u63 u64 u65 u66 u67 u68 u69 u70 u71 u72 u73 u74 u75 u76 u77 u78 u79 u80 u81 u82 u83 u84 u85 u86 u87 u88 u89 u90 u91 u92 u93 u94 u95 u96 u97 u98 u99 u100 u101 u102 u103 u104 u105 u106 u107 u108 u109 u110 u111 u112 u113 u114 : Value)
    (hK : ∀ (v105 v106 v107 v108 v109 v110 v111 v112 v113 v114 : Value) (W : World), Q W → K .normal ⟨#[.pointer (some ⟨d, 0, none⟩), u1, u2, u3, u4, .pointer (some ⟨q, 0, none⟩), .int .i64 (j : Nat), u7, u8, u9, u10, u11, u12, u13, u14, u15, u16, u17, u18, u19, u20, u21, u22, u23, u24, u25, u26, u27, u28, u29, u30, u31, u32, u33, u34, u35, u36, u37, u38, u39, u40, u41, u42, u43, u44, u45, u46, u47, u48, u49, u50, u51, u52, u53, u54, u55, u56, u57, u58, u59, u60, u61, u62, u63, u64, u65, u66, u67, u68, u69, u70, u71, u72, u73, u74, u75, u76, u77, u78, u79, u80, u81, u82, u83, u84, u85, u86, u87, u88, u89, u90, u91, u92, u93, u94, u95, u96, u97, u98, u99, u100, u101, u102, u103, u104, v105, v106, v107, v108, v109, v110, v111, v112, v113, v114], []⟩ W) :
    Code.wp Tryz.prog no12C K ⟨#[.pointer (some ⟨d, 0, none⟩), u1, u2, u3, u4, .pointer (some ⟨q, 0, none⟩), .int .i64 (j : Nat), u7, u8, u9, u10, u11, u12, u13, u14, u15, u16, u17, u18, u19, u20, u21, u22, u23, u24, u25, u26, u27, u28, u29, u30, u31, u32, u33, u34, u35, u36, u37, u38, u39, u40, u41, u42, u43, u44, u45, u46, u47, u48, u49, u50, u51, u52, u53, u54, u55, u56, u57, u58, u59, u60, u61, u62, u63, u64, u65, u66, u67, u68, u69, u70, u71, u72, u73, u74, u75, u76, u77, u78, u79, u80, u81, u82, u83, u84, u85, u86, u87, u88, u89, u90, u91, u92, u93, u94, u95, u96, u97, u98, u99, u100, u101, u102, u103, u104, u105, u106, u107, u108, u109, u110, u111, u112, u113, u114], []⟩ w := by
  have HS := Lib.hid hS
  have HR1 := Lib.hid hr1
  have HC := Lib.hid hC
  have HN3 := Lib.hid hN3
  clear hS hr1 hC hN3
  conv => arg 2; whnf
  try dsimp only at hK ⊢
  refine wp_region_noPanic ?_
  refine wp_region_last (S := fun W => W.cell? ⟨q, 1, none⟩ = some (sv ky) ∧ W.cell? ⟨q, 3, none⟩ = some (.slice A4 n4 p4)) 9 (by kernel_rfl) (HS.out _ ((Keeps.refl [] w).drew)) (fun hHeld => ?_)
  obtain ⟨w0, hw0⟩ : ∃ w0, w.drew = w0 := ⟨_, rfl⟩
  try rw [hw0] at hHeld
  rw [hw0]
  have K0 : Keeps [] w w0 := by rw [← hw0]; exact (Keeps.refl [] w).drew
  clear hw0
  refine wpG_take (nx := [9, 9, 3, 8, 7, 6, 7, 8, 9]) (i := 0) (oi := ⟨some 105, .move (.tmp 0), 26, _, _, none⟩) (v := ?vq53) (by kernel_rfl) rfl (by decide) (by kernel_rfl) (by kernel_rfl) (by kernel_rfl) (fun _ _ _ h => h) (Or.inl ⟨by rfl, fun W hW => ?_⟩) (by assumption) ?_
  rotate_left
  · go_simp
    with_reducible rfl
  try simp only [Act.put, lA, l0, lS]
  refine wpG_take (nx := [9, 9, 3, 8, 7, 6, 7, 8, 9]) (i := 1) (oi := ⟨some 106, .move (.tmp 6), 3, _, _, none⟩) (v := ?vq54) (by kernel_rfl) rfl (by decide) (by kernel_rfl) (by kernel_rfl) (by kernel_rfl) (fun _ _ _ h => h) (Or.inl ⟨by rfl, fun W hW => ?_⟩) (by assumption) ?_
  rotate_left
  · go_simp
    with_reducible rfl
  try simp only [Act.put, lA, l0, lS]
  refine wpG_take (nx := [9, 9, 3, 8, 7, 6, 7, 8, 9]) (i := 2) (oi := ⟨some 107, .fieldAddr 34 (.tmp 5) 1, 0, _, _, none⟩) (v := ?vq55) (by kernel_rfl) rfl (by decide) (by kernel_rfl) (by kernel_rfl) (by kernel_rfl) (fun _ _ _ h => h) (Or.inl ⟨by rfl, fun W hW => ?_⟩) (by assumption) ?_
  rotate_left
  · go_simp
    with_reducible rfl
  try simp only [Act.put, lA, l0, lS]
  refine wpG_take (nx := [9, 9, 3, 8, 7, 6, 7, 8, 9]) (i := 3) (oi := ⟨some 108, .load 9 (.tmp 107), 9, _, _, none⟩) (v := sv ky) (by kernel_rfl) rfl (by decide) (by kernel_rfl) (by kernel_rfl) (by kernel_rfl) (fun _ _ _ h => h) (Or.inl ⟨by rfl, fun W hW => ?_⟩) (by assumption) ?_
  · (obtain ⟨a0, a1⟩ := hW; go_simp)
  try simp only [Act.put, lA, l0, lS]
  refine wpG_take (nx := [9, 9, 3, 8, 7, 6, 7, 8, 9]) (i := 5) (oi := ⟨some 110, .fieldAddr 34 (.tmp 5) 3, 0, _, _, none⟩) (v := ?vq56) (by kernel_rfl) rfl (by decide) (by kernel_rfl) (by kernel_rfl) (by kernel_rfl) (fun _ _ _ h => h) (Or.inl ⟨by rfl, fun W hW => ?_⟩) (by assumption) ?_
  rotate_left
  · go_simp
    with_reducible rfl
  try simp only [Act.put, lA, l0, lS]
  refine wpG_take (nx := [9, 9, 3, 8, 7, 6, 7, 8, 9]) (i := 6) (oi := ⟨some 111, .load 29 (.tmp 110), 29, _, _, none⟩) (v := .slice A4 n4 p4) (by kernel_rfl) rfl (by decide) (by kernel_rfl) (by kernel_rfl) (by kernel_rfl) (fun _ _ _ h => h) (Or.inl ⟨by rfl, fun W hW => ?_⟩) (by assumption) ?_
  · (obtain ⟨a0, a1⟩ := hW; go_simp)
  try simp only [Act.put, lA, l0, lS]
  refine wpG_ready (rs := [4]) (by kernel_rfl) (by simp) ?_
  refine AllG.cons (o := ⟨some 109, .buildSlice 29 0 #[], 29, _, _, none⟩) rfl (fun KK hKK => ?_) AllG.nil
  go_simp
  obtain ⟨b58, f62⟩ : ∃ b, w0.heap.size = b := ⟨_, rfl⟩
  rw [f62]
  obtain ⟨W57, e61⟩ : ∃ W, World.alloc w0 (.cells #[] 9) = W := ⟨_, rfl⟩
  rw [e61]
  have kk59 : Keeps [] w0 W57 := by rw [← e61]; exact (Keeps.refl [] _).alloc _
  have K60 : Keeps [] w W57 := K0.trans kk59 (by simp)
  have ob63 : W57.ownsRow 0 9 1 (.slice (some ⟨b58, 0, none⟩) 0 0) 0 ([] : List Value) := by rw [← e61, ← f62]; exact own_of_blk (Blk.new _ 9 #[]) (by omega) (by omega) rfl rfl
  have ge64 : ∀ g ∈ fp (.slice (some ⟨b58, 0, none⟩) 0 0), w.heap.size ≤ g := by have := K0.size; intro g hg; have h0 : g = b58 := (by simpa [fp, Value.ownBlock] using hg); omega
  refine hKK.out _ _ (HS.out _ K60) (fun hHeld => ?_)
  clear hKK KK e61 f62
  try simp only [Act.put, lA, l0, lS]
  refine wpG_ready (rs := [7]) (by kernel_rfl) (by simp) ?_
  refine AllG.cons (o := ⟨some 112, .call { callee := .builtin .append, args := #[.tmp 109, .tmp 111], argTypes := #[29, 29] }, 29, _, _, none⟩) rfl (fun KK hKK => ?_) AllG.nil
  refine step_app (by rfl) (.tmp 109) (.tmp 111) 29 (by rfl) 9 (.string ⟨#[]⟩) 1 16 Tryz.underlying29 info9 rfl (by omega) (.slice (some ⟨b58, 0, none⟩) 0 0) 0 (([] : List Value)) ?_ ob63 _ A4 n4 p4 ((vs l)) ?_ (HR1.out _ K60) (vs_one l) (by unfold maxLen; omega) (by omega) (fun v66 W65 ob67 kk68 f69 => ?_)
  · first | (simp [Act.eval]; done) | (simp [Act.eval, Act.put]; done)
  · first | (simp [Act.eval]; done) | (simp [Act.eval, Act.put]; done)
  have K70 : Keeps [] w W65 := K60.trans kk68 (fun g hg => .inr (ge64 g hg))
  have ge71 : ∀ g ∈ fp v66, w.heap.size ≤ g := ges_app f69 ge64 K60.size
  rw [HN3.out] at ob67
  obtain ⟨A72, c73, rfl, -, -, -⟩ := own_shape ob67
  refine hKK.out _ _ (HS.out _ K70) (fun hHeld => ?_)
  clear hKK KK
  try simp only [Act.put, lA, l0, lS]
  refine wpG_take (nx := [9, 9, 3, 8, 7, 6, 7, 8, 9]) (i := 8) (oi := ⟨some 113, .build 34 #[(0, .const (Value.int IntKind.i64 1)), (1, .tmp 108), (3, .tmp 112)], 34, _, _, none⟩) (v := ?vq74) (by kernel_rfl) rfl (by decide) (by kernel_rfl) (by kernel_rfl) (by kernel_rfl) (fun _ _ _ h => h) (Or.inl ⟨by rfl, fun W hW => ?_⟩) (by assumption) ?_
  rotate_left
  · go_simp
    with_reducible rfl
  try simp only [Act.put, lA, l0, lS]
  refine wpG_ready (rs := [9]) (by kernel_rfl) (by simp) ?_
  refine AllG.last (o := ⟨some 114, .call { callee := .value (.func 86), args := #[.tmp 105, .tmp 106, .tmp 113], argTypes := #[26, 3, 34] }, 0, _, _, none⟩) rfl (fun KK hKK => ?_)
  refine step_callW (by rfl) 86 _ _ rfl #[.pointer (some ⟨d, 0, none⟩), .int .i64 (j : Nat), .agg #[.int .i64 1, sv ky, .string ⟨#[]⟩, (.slice A72 n4 c73)]] (by first | (simp [Act.eval]; done) | (simp [Act.eval, Act.put]; done)) (enters_of Tryz.func86 (by kernel_rfl) rfl) (HC.out _ _ _ K70 ob67 ge71) ?_
  rintro e W9 ⟨rfl, q9⟩
  refine ⟨_, rfl, ?_⟩
  refine hKK.out _ _ ?_
  clear hKK KK hHeld
  try simp only [Act.put, lA, l0, lS]
  refine wpG_done (by kernel_rfl) ?_ _
  refine NoPanic.normal ?_
  exact hK _ _ _ _ _ _ _ _ _ _ _ q9
end Go.Proofs.YtbllmpcpfmlemaaGreat
