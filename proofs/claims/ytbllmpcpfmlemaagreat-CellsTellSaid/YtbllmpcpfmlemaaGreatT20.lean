/- The reference: Valid (printed by t20gen.py). -/
import Derived.Test.YtbllmpcpfmlemaaGreatT19
import Derived.Test.YtbllmpcpfmlemaaGreatSh
namespace Go.Proofs.YtbllmpcpfmlemaaGreat
open Go.RowKit
noncomputable def va9aC : Code := ((Tryz.f15.body.bind (theRegion 9)).getD .skip)
set_option maxRecDepth 1000000 in
set_option maxHeartbeats 1600000 in
set_option linter.unusedSimpArgs false in
theorem va9a_any (w : World) (d b b8 : Nat) (zp : Int) (ky vl : Str) (u : Value)  (K : Exit → Act → World → Prop)
    (hS : ∀ W, Keeps [] w W → W.cell? ⟨b8, 0, none⟩ = some (.int .i64 0) ∧ W.cell? ⟨b8, 1, none⟩ = some (sv ky) ∧ W.cell? ⟨b8, 2, none⟩ = some (sv vl) ∧ W.cell? ⟨b8, 3, none⟩ = some u ∧ W.cell? ⟨b, 1, none⟩ = some (.int .i64 zp))
    (hC : ∀ W, Keeps [] w W → Calls Tryz.prog 17 #[.pointer (some ⟨d, 0, none⟩), .int .i64 zp, sv ky] W fun e w' => e = .returned (sv vl) ∧ Keeps [] W w')
    (u1 u2 u3 u4 u5 u7 u9 u10 u11 u12 u13 u14 u15 u16 u17 u18 u19 u20 u21 u22 u23 u24 u25 u26 u27 u28 u29 u30 u31 u32 u33 u34 u35 u36 u37 u38 u39 u40 u41 u42 u43 u44 u45 u46 u47 u48 u49 u50 u51 u52 u53 u54 u55 u56 u57 u58 u59 u60 u61 u62 u63 : Value)
    (hK : ∀ (v33 v34 v35 v36 v37 v38 v39 v40 v41 v42 v43 v44 v45 v46 v47 v48 v49 v50 v51 v52 v53 v54 v55 v56 v57 v58 v59 v60 v61 v62 : Value) (W : World), Keeps [] w W → K .normal ⟨#[.pointer (some ⟨d, 0, none⟩), u1, u2, u3, u4, u5, .pointer (some ⟨b, 0, none⟩), u7, .pointer (some ⟨b8, 0, none⟩), u9, u10, u11, u12, u13, u14, u15, u16, u17, u18, u19, u20, u21, u22, u23, u24, u25, u26, u27, u28, u29, u30, u31, u32, v33, v34, v35, v36, v37, v38, v39, v40, v41, v42, v43, v44, v45, v46, v47, v48, v49, v50, v51, v52, v53, v54, v55, v56, v57, v58, v59, v60, v61, v62, .bool false], []⟩ W) :
    Code.wp Tryz.prog va9aC K ⟨#[.pointer (some ⟨d, 0, none⟩), u1, u2, u3, u4, u5, .pointer (some ⟨b, 0, none⟩), u7, .pointer (some ⟨b8, 0, none⟩), u9, u10, u11, u12, u13, u14, u15, u16, u17, u18, u19, u20, u21, u22, u23, u24, u25, u26, u27, u28, u29, u30, u31, u32, u33, u34, u35, u36, u37, u38, u39, u40, u41, u42, u43, u44, u45, u46, u47, u48, u49, u50, u51, u52, u53, u54, u55, u56, u57, u58, u59, u60, u61, u62, u63], []⟩ w := by
  have HS := Lib.hid hS
  have HC := Lib.hid hC
  clear hS hC
  conv => arg 2; whnf
  try dsimp only at hK ⊢
  refine wp_region_noPanic ?_
  refine wp_region_held_drew (S := fun W => W.cell? ⟨b8, 0, none⟩ = some (.int .i64 0) ∧ W.cell? ⟨b8, 1, none⟩ = some (sv ky) ∧ W.cell? ⟨b8, 2, none⟩ = some (sv vl) ∧ W.cell? ⟨b8, 3, none⟩ = some u ∧ W.cell? ⟨b, 1, none⟩ = some (.int .i64 zp)) (by kernel_rfl) (HS.out _ ((Keeps.refl [] w).drew)) (fun hHeld => ?_)
  obtain ⟨w0, hw0⟩ : ∃ w0, w.drew = w0 := ⟨_, rfl⟩
  try rw [hw0] at hHeld
  rw [hw0]
  have K0 : Keeps [] w w0 := by rw [← hw0]; exact (Keeps.refl [] w).drew
  clear hw0
  refine wpAnyH_take (i := 0) (oi := ⟨some 33, .fieldAddr 34 (.tmp 8) 0, 0, _, _, none⟩) (v := ?vq1) rfl (by kernel_rfl) (by kernel_rfl) (by kernel_rfl) (fun _ _ _ h => h) (Or.inl ⟨by rfl, fun W hW => ?_⟩) (by assumption) ?_
  rotate_left
  · go_simp
    with_reducible rfl
  try simp only [Act.put, lA, l0, lS]
  refine wpAnyH_take (i := 1) (oi := ⟨some 34, .load 3 (.tmp 33), 3, _, _, none⟩) (v := .int .i64 0) rfl (by kernel_rfl) (by kernel_rfl) (by kernel_rfl) (fun _ _ _ h => h) (Or.inl ⟨by rfl, fun W hW => ?_⟩) (by assumption) ?_
  · (obtain ⟨a0, a1, a2, a3, a4⟩ := hW; go_simp)
  try simp only [Act.put, lA, l0, lS]
  refine wpAnyH_take (i := 2) (oi := ⟨some 35, .binOp .eql 3 (.tmp 34) (.const (Value.int IntKind.i64 0)) 3, 4, _, _, none⟩) (v := .bool true) rfl (by kernel_rfl) (by kernel_rfl) (by kernel_rfl) (fun _ _ _ h => h) (Or.inl ⟨by rfl, fun W hW => ?_⟩) (by assumption) ?_
  · go_simp
  try simp only [Act.put, lA, l0, lS]
  refine wpAnyH_take (i := 3) (oi := ⟨some 36, .move (.tmp 35), 4, _, _, none⟩) (v := .bool true) rfl (by kernel_rfl) (by kernel_rfl) (by kernel_rfl) (fun _ _ _ h => h) (Or.inl ⟨by rfl, fun W hW => ?_⟩) (by assumption) ?_
  · go_simp
  try simp only [Act.put, lA, l0, lS]
  refine wpAnyH_take (i := 4) (oi := ⟨some 37, .move (.tmp 0), 26, _, _, some (3, true)⟩) (v := ?vq2) rfl (by kernel_rfl) (by kernel_rfl) (by kernel_rfl) (fun _ _ _ h => h) (Or.inl ⟨by rfl, fun W hW => ?_⟩) (by assumption) ?_
  rotate_left
  · go_simp
    with_reducible rfl
  try simp only [Act.put, lA, l0, lS]
  refine wpAnyH_take (i := 5) (oi := ⟨some 38, .fieldAddr 68 (.tmp 6) 1, 0, _, _, some (3, true)⟩) (v := ?vq3) rfl (by kernel_rfl) (by kernel_rfl) (by kernel_rfl) (fun _ _ _ h => h) (Or.inl ⟨by rfl, fun W hW => ?_⟩) (by assumption) ?_
  rotate_left
  · go_simp
    with_reducible rfl
  try simp only [Act.put, lA, l0, lS]
  refine wpAnyH_take (i := 6) (oi := ⟨some 39, .load 3 (.tmp 38), 3, _, _, some (3, true)⟩) (v := .int .i64 zp) rfl (by kernel_rfl) (by kernel_rfl) (by kernel_rfl) (fun _ _ _ h => h) (Or.inl ⟨by rfl, fun W hW => ?_⟩) (by assumption) ?_
  · (obtain ⟨a0, a1, a2, a3, a4⟩ := hW; go_simp)
  try simp only [Act.put, lA, l0, lS]
  refine wpAnyH_take (i := 7) (oi := ⟨some 40, .fieldAddr 34 (.tmp 8) 1, 0, _, _, some (3, true)⟩) (v := ?vq4) rfl (by kernel_rfl) (by kernel_rfl) (by kernel_rfl) (fun _ _ _ h => h) (Or.inl ⟨by rfl, fun W hW => ?_⟩) (by assumption) ?_
  rotate_left
  · go_simp
    with_reducible rfl
  try simp only [Act.put, lA, l0, lS]
  refine wpAnyH_take (i := 8) (oi := ⟨some 41, .load 9 (.tmp 40), 9, _, _, some (3, true)⟩) (v := sv ky) rfl (by kernel_rfl) (by kernel_rfl) (by kernel_rfl) (fun _ _ _ h => h) (Or.inl ⟨by rfl, fun W hW => ?_⟩) (by assumption) ?_
  · (obtain ⟨a0, a1, a2, a3, a4⟩ := hW; go_simp)
  try simp only [Act.put, lA, l0, lS]
  refine wpAnyH_take (i := 10) (oi := ⟨some 43, .fieldAddr 34 (.tmp 8) 2, 0, _, _, some (3, true)⟩) (v := ?vq5) rfl (by kernel_rfl) (by kernel_rfl) (by kernel_rfl) (fun _ _ _ h => h) (Or.inl ⟨by rfl, fun W hW => ?_⟩) (by assumption) ?_
  rotate_left
  · go_simp
    with_reducible rfl
  try simp only [Act.put, lA, l0, lS]
  refine wpAnyH_take (i := 11) (oi := ⟨some 44, .load 9 (.tmp 43), 9, _, _, some (3, true)⟩) (v := sv vl) rfl (by kernel_rfl) (by kernel_rfl) (by kernel_rfl) (fun _ _ _ h => h) (Or.inl ⟨by rfl, fun W hW => ?_⟩) (by assumption) ?_
  · (obtain ⟨a0, a1, a2, a3, a4⟩ := hW; go_simp)
  try simp only [Act.put, lA, l0, lS]
  refine wpAnyH_ready (rs := [9]) (by kernel_rfl) (by simp) ?_
  refine AllReadyH.cons (o := ⟨some 42, .call { callee := .value (.func 17), args := #[.tmp 37, .tmp 39, .tmp 41], argTypes := #[26, 3, 9] }, 9, _, _, some (3, true)⟩) rfl (fun KK hKK => ?_) AllReadyH.nil
  refine step_callW (by rfl) 17 _ _ rfl #[.pointer (some ⟨d, 0, none⟩), .int .i64 zp, sv ky] (by first | (simp [Act.eval]; done) | (simp [Act.eval, Act.put]; done)) (enters_of Tryz.func17 (by kernel_rfl) rfl) (HC.out _ K0) ?_
  rintro e W9 ⟨rfl, k9⟩
  refine ⟨_, rfl, ?_⟩
  have K9 := K0.trans k9 (by simp)
  refine hKK.out _ _ (HS.out _ K9) (fun hHeld => ?_)
  clear hKK KK
  try simp only [Act.put, lA, l0, lS]
  refine wpAnyH_take (i := 12) (oi := ⟨some 45, .binOp .neq 9 (.tmp 42) (.tmp 44) 9, 4, _, _, some (3, true)⟩) (v := .bool false) rfl (by kernel_rfl) (by kernel_rfl) (by kernel_rfl) (fun _ _ _ h => h) (Or.inl ⟨by rfl, fun W hW => ?_⟩) (by assumption) ?_
  · go_simp
  try simp only [Act.put, lA, l0, lS]
  refine wpAnyH_take (i := 13) (oi := ⟨some 46, .pick (.tmp 36) (.tmp 45) (.const (Value.bool false)), 4, _, _, none⟩) (v := .bool false) rfl (by kernel_rfl) (by kernel_rfl) (by kernel_rfl) (fun _ _ _ h => h) (Or.inl ⟨by rfl, fun W hW => ?_⟩) (by assumption) ?_
  · go_simp
  try simp only [Act.put, lA, l0, lS]
  refine wpAnyH_take (i := 14) (oi := ⟨some 47, .move (.tmp 46), 4, _, _, none⟩) (v := .bool false) rfl (by kernel_rfl) (by kernel_rfl) (by kernel_rfl) (fun _ _ _ h => h) (Or.inl ⟨by rfl, fun W hW => ?_⟩) (by assumption) ?_
  · go_simp
  try simp only [Act.put, lA, l0, lS]
  refine wpAnyH_take (i := 15) (oi := ⟨some 48, .fieldAddr 34 (.tmp 8) 0, 0, _, _, some (14, false)⟩) (v := ?vq6) rfl (by kernel_rfl) (by kernel_rfl) (by kernel_rfl) (fun _ _ _ h => h) (Or.inl ⟨by rfl, fun W hW => ?_⟩) (by assumption) ?_
  rotate_left
  · go_simp
    with_reducible rfl
  try simp only [Act.put, lA, l0, lS]
  refine wpAnyH_take (i := 16) (oi := ⟨some 49, .load 3 (.tmp 48), 3, _, _, some (14, false)⟩) (v := .int .i64 0) rfl (by kernel_rfl) (by kernel_rfl) (by kernel_rfl) (fun _ _ _ h => h) (Or.inl ⟨by rfl, fun W hW => ?_⟩) (by assumption) ?_
  · (obtain ⟨a0, a1, a2, a3, a4⟩ := hW; go_simp)
  try simp only [Act.put, lA, l0, lS]
  refine wpAnyH_take (i := 17) (oi := ⟨some 50, .binOp .eql 3 (.tmp 49) (.const (Value.int IntKind.i64 1)) 3, 4, _, _, some (14, false)⟩) (v := .bool false) rfl (by kernel_rfl) (by kernel_rfl) (by kernel_rfl) (fun _ _ _ h => h) (Or.inl ⟨by rfl, fun W hW => ?_⟩) (by assumption) ?_
  · go_simp
  try simp only [Act.put, lA, l0, lS]
  refine wpAnyH_take (i := 18) (oi := ⟨some 51, .move (.tmp 50), 4, _, _, some (14, false)⟩) (v := .bool false) rfl (by kernel_rfl) (by kernel_rfl) (by kernel_rfl) (fun _ _ _ h => h) (Or.inl ⟨by rfl, fun W hW => ?_⟩) (by assumption) ?_
  · go_simp
  try simp only [Act.put, lA, l0, lS]
  refine wpAnyH_take (i := 19) (oi := ⟨some 52, .move (.tmp 0), 26, _, _, some (18, true)⟩) (v := undef) rfl (by kernel_rfl) (by kernel_rfl) (by kernel_rfl) (fun _ _ _ h => h) (Or.inr ⟨by rfl, rfl⟩) (by assumption) ?_
  try simp only [Act.put, lA, l0, lS]
  refine wpAnyH_take (i := 20) (oi := ⟨some 53, .fieldAddr 68 (.tmp 6) 1, 0, _, _, some (18, true)⟩) (v := undef) rfl (by kernel_rfl) (by kernel_rfl) (by kernel_rfl) (fun _ _ _ h => h) (Or.inr ⟨by rfl, rfl⟩) (by assumption) ?_
  try simp only [Act.put, lA, l0, lS]
  refine wpAnyH_take (i := 21) (oi := ⟨some 54, .load 3 (.tmp 53), 3, _, _, some (18, true)⟩) (v := undef) rfl (by kernel_rfl) (by kernel_rfl) (by kernel_rfl) (fun _ _ _ h => h) (Or.inr ⟨by rfl, rfl⟩) (by assumption) ?_
  try simp only [Act.put, lA, l0, lS]
  refine wpAnyH_take (i := 22) (oi := ⟨some 55, .fieldAddr 34 (.tmp 8) 1, 0, _, _, some (18, true)⟩) (v := undef) rfl (by kernel_rfl) (by kernel_rfl) (by kernel_rfl) (fun _ _ _ h => h) (Or.inr ⟨by rfl, rfl⟩) (by assumption) ?_
  try simp only [Act.put, lA, l0, lS]
  refine wpAnyH_take (i := 23) (oi := ⟨some 56, .load 9 (.tmp 55), 9, _, _, some (18, true)⟩) (v := undef) rfl (by kernel_rfl) (by kernel_rfl) (by kernel_rfl) (fun _ _ _ h => h) (Or.inr ⟨by rfl, rfl⟩) (by assumption) ?_
  try simp only [Act.put, lA, l0, lS]
  refine wpAnyH_take (i := 24) (oi := ⟨some 57, .call { callee := .value (.func 19), args := #[.tmp 52, .tmp 54, .tmp 56], argTypes := #[26, 3, 9] }, 29, _, _, some (18, true)⟩) (v := undef) rfl (by kernel_rfl) (by kernel_rfl) (by kernel_rfl) (fun _ _ _ h => h) (Or.inr ⟨by rfl, rfl⟩) (by assumption) ?_
  try simp only [Act.put, lA, l0, lS]
  refine wpAnyH_take (i := 25) (oi := ⟨some 58, .fieldAddr 34 (.tmp 8) 3, 0, _, _, some (18, true)⟩) (v := undef) rfl (by kernel_rfl) (by kernel_rfl) (by kernel_rfl) (fun _ _ _ h => h) (Or.inr ⟨by rfl, rfl⟩) (by assumption) ?_
  try simp only [Act.put, lA, l0, lS]
  refine wpAnyH_take (i := 26) (oi := ⟨some 59, .load 29 (.tmp 58), 29, _, _, some (18, true)⟩) (v := undef) rfl (by kernel_rfl) (by kernel_rfl) (by kernel_rfl) (fun _ _ _ h => h) (Or.inr ⟨by rfl, rfl⟩) (by assumption) ?_
  try simp only [Act.put, lA, l0, lS]
  refine wpAnyH_take (i := 27) (oi := ⟨some 60, .call { callee := .value (.func 13), args := #[.tmp 57, .tmp 59], argTypes := #[29, 29] }, 4, _, _, some (18, true)⟩) (v := undef) rfl (by kernel_rfl) (by kernel_rfl) (by kernel_rfl) (fun _ _ _ h => h) (Or.inr ⟨by rfl, rfl⟩) (by assumption) ?_
  try simp only [Act.put, lA, l0, lS]
  refine wpAnyH_take (i := 28) (oi := ⟨some 61, .unOp .not 4 (.tmp 60), 4, _, _, some (18, true)⟩) (v := undef) rfl (by kernel_rfl) (by kernel_rfl) (by kernel_rfl) (fun _ _ _ h => h) (Or.inr ⟨by rfl, rfl⟩) (by assumption) ?_
  try simp only [Act.put, lA, l0, lS]
  refine wpAnyH_take (i := 29) (oi := ⟨some 62, .pick (.tmp 51) (.tmp 61) (.const (Value.bool false)), 4, _, _, some (14, false)⟩) (v := .bool false) rfl (by kernel_rfl) (by kernel_rfl) (by kernel_rfl) (fun _ _ _ h => h) (Or.inl ⟨by rfl, fun W hW => ?_⟩) (by assumption) ?_
  · go_simp
  try simp only [Act.put, lA, l0, lS]
  refine wpAnyH_take (i := 30) (oi := ⟨some 63, .pick (.tmp 47) (.const (Value.bool true)) (.tmp 62), 4, _, _, none⟩) (v := .bool false) rfl (by kernel_rfl) (by kernel_rfl) (by kernel_rfl) (fun _ _ _ h => h) (Or.inl ⟨by rfl, fun W hW => ?_⟩) (by assumption) ?_
  · go_simp
  try simp only [Act.put, lA, l0, lS]
  refine wpAnyH_done (by kernel_rfl) ?_ _
  refine NoPanic.normal ?_
  exact hK _ _ _ _ _ _ _ _ _ _ _ _ _ _ _ _ _ _ _ _ _ _ _ _ _ _ _ _ _ _ _ K9
noncomputable def va9bC : Code := ((Tryz.f15.body.bind (theRegion 9)).getD .skip)
set_option maxRecDepth 1000000 in
set_option maxHeartbeats 1600000 in
set_option linter.unusedSimpArgs false in
theorem va9b_any (w : World) (d b b8 : Nat) (zp : Int) (ky vl : Str) (u : Value) (s : Str)  (K : Exit → Act → World → Prop)
    (hS : ∀ W, Keeps [] w W → W.cell? ⟨b8, 0, none⟩ = some (.int .i64 0) ∧ W.cell? ⟨b8, 1, none⟩ = some (sv ky) ∧ W.cell? ⟨b8, 2, none⟩ = some (sv vl) ∧ W.cell? ⟨b8, 3, none⟩ = some u ∧ W.cell? ⟨b, 1, none⟩ = some (.int .i64 zp))
    (hC : ∀ W, Keeps [] w W → Calls Tryz.prog 17 #[.pointer (some ⟨d, 0, none⟩), .int .i64 zp, sv ky] W fun e w' => e = .returned (sv s) ∧ Keeps [] W w')
    (hne : (s == vl) = false)
    (u1 u2 u3 u4 u5 u7 u9 u10 u11 u12 u13 u14 u15 u16 u17 u18 u19 u20 u21 u22 u23 u24 u25 u26 u27 u28 u29 u30 u31 u32 u33 u34 u35 u36 u37 u38 u39 u40 u41 u42 u43 u44 u45 u46 u47 u48 u49 u50 u51 u52 u53 u54 u55 u56 u57 u58 u59 u60 u61 u62 u63 : Value)
    (hK : ∀ (v33 v34 v35 v36 v37 v38 v39 v40 v41 v42 v43 v44 v45 v46 v47 v48 v49 v50 v51 v52 v53 v54 v55 v56 v57 v58 v59 v60 v61 v62 : Value) (W : World), Keeps [] w W → K .normal ⟨#[.pointer (some ⟨d, 0, none⟩), u1, u2, u3, u4, u5, .pointer (some ⟨b, 0, none⟩), u7, .pointer (some ⟨b8, 0, none⟩), u9, u10, u11, u12, u13, u14, u15, u16, u17, u18, u19, u20, u21, u22, u23, u24, u25, u26, u27, u28, u29, u30, u31, u32, v33, v34, v35, v36, v37, v38, v39, v40, v41, v42, v43, v44, v45, v46, v47, v48, v49, v50, v51, v52, v53, v54, v55, v56, v57, v58, v59, v60, v61, v62, .bool true], []⟩ W) :
    Code.wp Tryz.prog va9bC K ⟨#[.pointer (some ⟨d, 0, none⟩), u1, u2, u3, u4, u5, .pointer (some ⟨b, 0, none⟩), u7, .pointer (some ⟨b8, 0, none⟩), u9, u10, u11, u12, u13, u14, u15, u16, u17, u18, u19, u20, u21, u22, u23, u24, u25, u26, u27, u28, u29, u30, u31, u32, u33, u34, u35, u36, u37, u38, u39, u40, u41, u42, u43, u44, u45, u46, u47, u48, u49, u50, u51, u52, u53, u54, u55, u56, u57, u58, u59, u60, u61, u62, u63], []⟩ w := by
  have HS := Lib.hid hS
  have HC := Lib.hid hC
  clear hS hC
  have HNE := Lib.hid hne
  clear hne
  conv => arg 2; whnf
  try dsimp only at hK ⊢
  refine wp_region_noPanic ?_
  refine wp_region_held_drew (S := fun W => W.cell? ⟨b8, 0, none⟩ = some (.int .i64 0) ∧ W.cell? ⟨b8, 1, none⟩ = some (sv ky) ∧ W.cell? ⟨b8, 2, none⟩ = some (sv vl) ∧ W.cell? ⟨b8, 3, none⟩ = some u ∧ W.cell? ⟨b, 1, none⟩ = some (.int .i64 zp)) (by kernel_rfl) (HS.out _ ((Keeps.refl [] w).drew)) (fun hHeld => ?_)
  obtain ⟨w0, hw0⟩ : ∃ w0, w.drew = w0 := ⟨_, rfl⟩
  try rw [hw0] at hHeld
  rw [hw0]
  have K0 : Keeps [] w w0 := by rw [← hw0]; exact (Keeps.refl [] w).drew
  clear hw0
  refine wpAnyH_take (i := 0) (oi := ⟨some 33, .fieldAddr 34 (.tmp 8) 0, 0, _, _, none⟩) (v := ?vq7) rfl (by kernel_rfl) (by kernel_rfl) (by kernel_rfl) (fun _ _ _ h => h) (Or.inl ⟨by rfl, fun W hW => ?_⟩) (by assumption) ?_
  rotate_left
  · go_simp
    with_reducible rfl
  try simp only [Act.put, lA, l0, lS]
  refine wpAnyH_take (i := 1) (oi := ⟨some 34, .load 3 (.tmp 33), 3, _, _, none⟩) (v := .int .i64 0) rfl (by kernel_rfl) (by kernel_rfl) (by kernel_rfl) (fun _ _ _ h => h) (Or.inl ⟨by rfl, fun W hW => ?_⟩) (by assumption) ?_
  · (obtain ⟨a0, a1, a2, a3, a4⟩ := hW; go_simp)
  try simp only [Act.put, lA, l0, lS]
  refine wpAnyH_take (i := 2) (oi := ⟨some 35, .binOp .eql 3 (.tmp 34) (.const (Value.int IntKind.i64 0)) 3, 4, _, _, none⟩) (v := .bool true) rfl (by kernel_rfl) (by kernel_rfl) (by kernel_rfl) (fun _ _ _ h => h) (Or.inl ⟨by rfl, fun W hW => ?_⟩) (by assumption) ?_
  · go_simp
  try simp only [Act.put, lA, l0, lS]
  refine wpAnyH_take (i := 3) (oi := ⟨some 36, .move (.tmp 35), 4, _, _, none⟩) (v := .bool true) rfl (by kernel_rfl) (by kernel_rfl) (by kernel_rfl) (fun _ _ _ h => h) (Or.inl ⟨by rfl, fun W hW => ?_⟩) (by assumption) ?_
  · go_simp
  try simp only [Act.put, lA, l0, lS]
  refine wpAnyH_take (i := 4) (oi := ⟨some 37, .move (.tmp 0), 26, _, _, some (3, true)⟩) (v := ?vq8) rfl (by kernel_rfl) (by kernel_rfl) (by kernel_rfl) (fun _ _ _ h => h) (Or.inl ⟨by rfl, fun W hW => ?_⟩) (by assumption) ?_
  rotate_left
  · go_simp
    with_reducible rfl
  try simp only [Act.put, lA, l0, lS]
  refine wpAnyH_take (i := 5) (oi := ⟨some 38, .fieldAddr 68 (.tmp 6) 1, 0, _, _, some (3, true)⟩) (v := ?vq9) rfl (by kernel_rfl) (by kernel_rfl) (by kernel_rfl) (fun _ _ _ h => h) (Or.inl ⟨by rfl, fun W hW => ?_⟩) (by assumption) ?_
  rotate_left
  · go_simp
    with_reducible rfl
  try simp only [Act.put, lA, l0, lS]
  refine wpAnyH_take (i := 6) (oi := ⟨some 39, .load 3 (.tmp 38), 3, _, _, some (3, true)⟩) (v := .int .i64 zp) rfl (by kernel_rfl) (by kernel_rfl) (by kernel_rfl) (fun _ _ _ h => h) (Or.inl ⟨by rfl, fun W hW => ?_⟩) (by assumption) ?_
  · (obtain ⟨a0, a1, a2, a3, a4⟩ := hW; go_simp)
  try simp only [Act.put, lA, l0, lS]
  refine wpAnyH_take (i := 7) (oi := ⟨some 40, .fieldAddr 34 (.tmp 8) 1, 0, _, _, some (3, true)⟩) (v := ?vq10) rfl (by kernel_rfl) (by kernel_rfl) (by kernel_rfl) (fun _ _ _ h => h) (Or.inl ⟨by rfl, fun W hW => ?_⟩) (by assumption) ?_
  rotate_left
  · go_simp
    with_reducible rfl
  try simp only [Act.put, lA, l0, lS]
  refine wpAnyH_take (i := 8) (oi := ⟨some 41, .load 9 (.tmp 40), 9, _, _, some (3, true)⟩) (v := sv ky) rfl (by kernel_rfl) (by kernel_rfl) (by kernel_rfl) (fun _ _ _ h => h) (Or.inl ⟨by rfl, fun W hW => ?_⟩) (by assumption) ?_
  · (obtain ⟨a0, a1, a2, a3, a4⟩ := hW; go_simp)
  try simp only [Act.put, lA, l0, lS]
  refine wpAnyH_take (i := 10) (oi := ⟨some 43, .fieldAddr 34 (.tmp 8) 2, 0, _, _, some (3, true)⟩) (v := ?vq11) rfl (by kernel_rfl) (by kernel_rfl) (by kernel_rfl) (fun _ _ _ h => h) (Or.inl ⟨by rfl, fun W hW => ?_⟩) (by assumption) ?_
  rotate_left
  · go_simp
    with_reducible rfl
  try simp only [Act.put, lA, l0, lS]
  refine wpAnyH_take (i := 11) (oi := ⟨some 44, .load 9 (.tmp 43), 9, _, _, some (3, true)⟩) (v := sv vl) rfl (by kernel_rfl) (by kernel_rfl) (by kernel_rfl) (fun _ _ _ h => h) (Or.inl ⟨by rfl, fun W hW => ?_⟩) (by assumption) ?_
  · (obtain ⟨a0, a1, a2, a3, a4⟩ := hW; go_simp)
  try simp only [Act.put, lA, l0, lS]
  refine wpAnyH_ready (rs := [9]) (by kernel_rfl) (by simp) ?_
  refine AllReadyH.cons (o := ⟨some 42, .call { callee := .value (.func 17), args := #[.tmp 37, .tmp 39, .tmp 41], argTypes := #[26, 3, 9] }, 9, _, _, some (3, true)⟩) rfl (fun KK hKK => ?_) AllReadyH.nil
  refine step_callW (by rfl) 17 _ _ rfl #[.pointer (some ⟨d, 0, none⟩), .int .i64 zp, sv ky] (by first | (simp [Act.eval]; done) | (simp [Act.eval, Act.put]; done)) (enters_of Tryz.func17 (by kernel_rfl) rfl) (HC.out _ K0) ?_
  rintro e W9 ⟨rfl, k9⟩
  refine ⟨_, rfl, ?_⟩
  have K9 := K0.trans k9 (by simp)
  refine hKK.out _ _ (HS.out _ K9) (fun hHeld => ?_)
  clear hKK KK
  try simp only [Act.put, lA, l0, lS]
  refine wpAnyH_take (i := 12) (oi := ⟨some 45, .binOp .neq 9 (.tmp 42) (.tmp 44) 9, 4, _, _, some (3, true)⟩) (v := .bool true) rfl (by kernel_rfl) (by kernel_rfl) (by kernel_rfl) (fun _ _ _ h => h) (Or.inl ⟨by rfl, fun W hW => ?_⟩) (by assumption) ?_
  · (have b0 := HNE.out; go_simp)
  try simp only [Act.put, lA, l0, lS]
  refine wpAnyH_take (i := 13) (oi := ⟨some 46, .pick (.tmp 36) (.tmp 45) (.const (Value.bool false)), 4, _, _, none⟩) (v := .bool true) rfl (by kernel_rfl) (by kernel_rfl) (by kernel_rfl) (fun _ _ _ h => h) (Or.inl ⟨by rfl, fun W hW => ?_⟩) (by assumption) ?_
  · go_simp
  try simp only [Act.put, lA, l0, lS]
  refine wpAnyH_take (i := 14) (oi := ⟨some 47, .move (.tmp 46), 4, _, _, none⟩) (v := .bool true) rfl (by kernel_rfl) (by kernel_rfl) (by kernel_rfl) (fun _ _ _ h => h) (Or.inl ⟨by rfl, fun W hW => ?_⟩) (by assumption) ?_
  · go_simp
  try simp only [Act.put, lA, l0, lS]
  refine wpAnyH_take (i := 15) (oi := ⟨some 48, .fieldAddr 34 (.tmp 8) 0, 0, _, _, some (14, false)⟩) (v := undef) rfl (by kernel_rfl) (by kernel_rfl) (by kernel_rfl) (fun _ _ _ h => h) (Or.inr ⟨by rfl, rfl⟩) (by assumption) ?_
  try simp only [Act.put, lA, l0, lS]
  refine wpAnyH_take (i := 16) (oi := ⟨some 49, .load 3 (.tmp 48), 3, _, _, some (14, false)⟩) (v := undef) rfl (by kernel_rfl) (by kernel_rfl) (by kernel_rfl) (fun _ _ _ h => h) (Or.inr ⟨by rfl, rfl⟩) (by assumption) ?_
  try simp only [Act.put, lA, l0, lS]
  refine wpAnyH_take (i := 17) (oi := ⟨some 50, .binOp .eql 3 (.tmp 49) (.const (Value.int IntKind.i64 1)) 3, 4, _, _, some (14, false)⟩) (v := undef) rfl (by kernel_rfl) (by kernel_rfl) (by kernel_rfl) (fun _ _ _ h => h) (Or.inr ⟨by rfl, rfl⟩) (by assumption) ?_
  try simp only [Act.put, lA, l0, lS]
  refine wpAnyH_take (i := 18) (oi := ⟨some 51, .move (.tmp 50), 4, _, _, some (14, false)⟩) (v := undef) rfl (by kernel_rfl) (by kernel_rfl) (by kernel_rfl) (fun _ _ _ h => h) (Or.inr ⟨by rfl, rfl⟩) (by assumption) ?_
  try simp only [Act.put, lA, l0, lS]
  refine wpAnyH_take (i := 19) (oi := ⟨some 52, .move (.tmp 0), 26, _, _, some (18, true)⟩) (v := undef) rfl (by kernel_rfl) (by kernel_rfl) (by kernel_rfl) (fun _ _ _ h => h) (Or.inr ⟨by rfl, rfl⟩) (by assumption) ?_
  try simp only [Act.put, lA, l0, lS]
  refine wpAnyH_take (i := 20) (oi := ⟨some 53, .fieldAddr 68 (.tmp 6) 1, 0, _, _, some (18, true)⟩) (v := undef) rfl (by kernel_rfl) (by kernel_rfl) (by kernel_rfl) (fun _ _ _ h => h) (Or.inr ⟨by rfl, rfl⟩) (by assumption) ?_
  try simp only [Act.put, lA, l0, lS]
  refine wpAnyH_take (i := 21) (oi := ⟨some 54, .load 3 (.tmp 53), 3, _, _, some (18, true)⟩) (v := undef) rfl (by kernel_rfl) (by kernel_rfl) (by kernel_rfl) (fun _ _ _ h => h) (Or.inr ⟨by rfl, rfl⟩) (by assumption) ?_
  try simp only [Act.put, lA, l0, lS]
  refine wpAnyH_take (i := 22) (oi := ⟨some 55, .fieldAddr 34 (.tmp 8) 1, 0, _, _, some (18, true)⟩) (v := undef) rfl (by kernel_rfl) (by kernel_rfl) (by kernel_rfl) (fun _ _ _ h => h) (Or.inr ⟨by rfl, rfl⟩) (by assumption) ?_
  try simp only [Act.put, lA, l0, lS]
  refine wpAnyH_take (i := 23) (oi := ⟨some 56, .load 9 (.tmp 55), 9, _, _, some (18, true)⟩) (v := undef) rfl (by kernel_rfl) (by kernel_rfl) (by kernel_rfl) (fun _ _ _ h => h) (Or.inr ⟨by rfl, rfl⟩) (by assumption) ?_
  try simp only [Act.put, lA, l0, lS]
  refine wpAnyH_take (i := 24) (oi := ⟨some 57, .call { callee := .value (.func 19), args := #[.tmp 52, .tmp 54, .tmp 56], argTypes := #[26, 3, 9] }, 29, _, _, some (18, true)⟩) (v := undef) rfl (by kernel_rfl) (by kernel_rfl) (by kernel_rfl) (fun _ _ _ h => h) (Or.inr ⟨by rfl, rfl⟩) (by assumption) ?_
  try simp only [Act.put, lA, l0, lS]
  refine wpAnyH_take (i := 25) (oi := ⟨some 58, .fieldAddr 34 (.tmp 8) 3, 0, _, _, some (18, true)⟩) (v := undef) rfl (by kernel_rfl) (by kernel_rfl) (by kernel_rfl) (fun _ _ _ h => h) (Or.inr ⟨by rfl, rfl⟩) (by assumption) ?_
  try simp only [Act.put, lA, l0, lS]
  refine wpAnyH_take (i := 26) (oi := ⟨some 59, .load 29 (.tmp 58), 29, _, _, some (18, true)⟩) (v := undef) rfl (by kernel_rfl) (by kernel_rfl) (by kernel_rfl) (fun _ _ _ h => h) (Or.inr ⟨by rfl, rfl⟩) (by assumption) ?_
  try simp only [Act.put, lA, l0, lS]
  refine wpAnyH_take (i := 27) (oi := ⟨some 60, .call { callee := .value (.func 13), args := #[.tmp 57, .tmp 59], argTypes := #[29, 29] }, 4, _, _, some (18, true)⟩) (v := undef) rfl (by kernel_rfl) (by kernel_rfl) (by kernel_rfl) (fun _ _ _ h => h) (Or.inr ⟨by rfl, rfl⟩) (by assumption) ?_
  try simp only [Act.put, lA, l0, lS]
  refine wpAnyH_take (i := 28) (oi := ⟨some 61, .unOp .not 4 (.tmp 60), 4, _, _, some (18, true)⟩) (v := undef) rfl (by kernel_rfl) (by kernel_rfl) (by kernel_rfl) (fun _ _ _ h => h) (Or.inr ⟨by rfl, rfl⟩) (by assumption) ?_
  try simp only [Act.put, lA, l0, lS]
  refine wpAnyH_take (i := 29) (oi := ⟨some 62, .pick (.tmp 51) (.tmp 61) (.const (Value.bool false)), 4, _, _, some (14, false)⟩) (v := undef) rfl (by kernel_rfl) (by kernel_rfl) (by kernel_rfl) (fun _ _ _ h => h) (Or.inr ⟨by rfl, rfl⟩) (by assumption) ?_
  try simp only [Act.put, lA, l0, lS]
  refine wpAnyH_take (i := 30) (oi := ⟨some 63, .pick (.tmp 47) (.const (Value.bool true)) (.tmp 62), 4, _, _, none⟩) (v := .bool true) rfl (by kernel_rfl) (by kernel_rfl) (by kernel_rfl) (fun _ _ _ h => h) (Or.inl ⟨by rfl, fun W hW => ?_⟩) (by assumption) ?_
  · go_simp
  try simp only [Act.put, lA, l0, lS]
  refine wpAnyH_done (by kernel_rfl) ?_ _
  refine NoPanic.normal ?_
  exact hK _ _ _ _ _ _ _ _ _ _ _ _ _ _ _ _ _ _ _ _ _ _ _ _ _ _ _ _ _ _ _ K9
noncomputable def va9cC : Code := ((Tryz.f15.body.bind (theRegion 9)).getD .skip)
set_option maxRecDepth 1000000 in
set_option maxHeartbeats 1600000 in
set_option linter.unusedSimpArgs false in
theorem va9c_any (w : World) (d b b8 : Nat) (zp : Int) (ky vl : Str) (u : Value) (q : List Str) (t : Bool)  (K : Exit → Act → World → Prop)
    (hS : ∀ W, Keeps [] w W → W.cell? ⟨b8, 0, none⟩ = some (.int .i64 1) ∧ W.cell? ⟨b8, 1, none⟩ = some (sv ky) ∧ W.cell? ⟨b8, 2, none⟩ = some (sv vl) ∧ W.cell? ⟨b8, 3, none⟩ = some u ∧ W.cell? ⟨b, 1, none⟩ = some (.int .i64 zp))
    (hC : ∀ W, Keeps [] w W → Calls Tryz.prog 19 #[.pointer (some ⟨d, 0, none⟩), .int .i64 zp, sv ky] W fun e w' => ∃ A c, e = .returned (.slice A q.length c) ∧ w'.ownsRow 0 9 1 (.slice A q.length c) q.length (vs q) ∧ Keeps [] W w')
    (hC3 : ∀ W A c, Keeps [] w W → W.ownsRow 0 9 1 (.slice A q.length c) q.length (vs q) → Calls Tryz.prog 13 #[.slice A q.length c, u] W fun e w' => e = .returned (.bool t) ∧ Keeps [] W w')
    (u1 u2 u3 u4 u5 u7 u9 u10 u11 u12 u13 u14 u15 u16 u17 u18 u19 u20 u21 u22 u23 u24 u25 u26 u27 u28 u29 u30 u31 u32 u33 u34 u35 u36 u37 u38 u39 u40 u41 u42 u43 u44 u45 u46 u47 u48 u49 u50 u51 u52 u53 u54 u55 u56 u57 u58 u59 u60 u61 u62 u63 : Value)
    (hK : ∀ (v33 v34 v35 v36 v37 v38 v39 v40 v41 v42 v43 v44 v45 v46 v47 v48 v49 v50 v51 v52 v53 v54 v55 v56 v57 v58 v59 v60 v61 v62 : Value) (W : World), Keeps [] w W → K .normal ⟨#[.pointer (some ⟨d, 0, none⟩), u1, u2, u3, u4, u5, .pointer (some ⟨b, 0, none⟩), u7, .pointer (some ⟨b8, 0, none⟩), u9, u10, u11, u12, u13, u14, u15, u16, u17, u18, u19, u20, u21, u22, u23, u24, u25, u26, u27, u28, u29, u30, u31, u32, v33, v34, v35, v36, v37, v38, v39, v40, v41, v42, v43, v44, v45, v46, v47, v48, v49, v50, v51, v52, v53, v54, v55, v56, v57, v58, v59, v60, v61, v62, .bool (!t)], []⟩ W) :
    Code.wp Tryz.prog va9cC K ⟨#[.pointer (some ⟨d, 0, none⟩), u1, u2, u3, u4, u5, .pointer (some ⟨b, 0, none⟩), u7, .pointer (some ⟨b8, 0, none⟩), u9, u10, u11, u12, u13, u14, u15, u16, u17, u18, u19, u20, u21, u22, u23, u24, u25, u26, u27, u28, u29, u30, u31, u32, u33, u34, u35, u36, u37, u38, u39, u40, u41, u42, u43, u44, u45, u46, u47, u48, u49, u50, u51, u52, u53, u54, u55, u56, u57, u58, u59, u60, u61, u62, u63], []⟩ w := by
  have HS := Lib.hid hS
  have HC := Lib.hid hC
  clear hS hC
  have HC3 := Lib.hid hC3
  clear hC3
  conv => arg 2; whnf
  try dsimp only at hK ⊢
  refine wp_region_noPanic ?_
  refine wp_region_held_drew (S := fun W => W.cell? ⟨b8, 0, none⟩ = some (.int .i64 1) ∧ W.cell? ⟨b8, 1, none⟩ = some (sv ky) ∧ W.cell? ⟨b8, 2, none⟩ = some (sv vl) ∧ W.cell? ⟨b8, 3, none⟩ = some u ∧ W.cell? ⟨b, 1, none⟩ = some (.int .i64 zp)) (by kernel_rfl) (HS.out _ ((Keeps.refl [] w).drew)) (fun hHeld => ?_)
  obtain ⟨w0, hw0⟩ : ∃ w0, w.drew = w0 := ⟨_, rfl⟩
  try rw [hw0] at hHeld
  rw [hw0]
  have K0 : Keeps [] w w0 := by rw [← hw0]; exact (Keeps.refl [] w).drew
  clear hw0
  refine wpAnyH_take (i := 0) (oi := ⟨some 33, .fieldAddr 34 (.tmp 8) 0, 0, _, _, none⟩) (v := ?vq12) rfl (by kernel_rfl) (by kernel_rfl) (by kernel_rfl) (fun _ _ _ h => h) (Or.inl ⟨by rfl, fun W hW => ?_⟩) (by assumption) ?_
  rotate_left
  · go_simp
    with_reducible rfl
  try simp only [Act.put, lA, l0, lS]
  refine wpAnyH_take (i := 1) (oi := ⟨some 34, .load 3 (.tmp 33), 3, _, _, none⟩) (v := .int .i64 1) rfl (by kernel_rfl) (by kernel_rfl) (by kernel_rfl) (fun _ _ _ h => h) (Or.inl ⟨by rfl, fun W hW => ?_⟩) (by assumption) ?_
  · (obtain ⟨a0, a1, a2, a3, a4⟩ := hW; go_simp)
  try simp only [Act.put, lA, l0, lS]
  refine wpAnyH_take (i := 2) (oi := ⟨some 35, .binOp .eql 3 (.tmp 34) (.const (Value.int IntKind.i64 0)) 3, 4, _, _, none⟩) (v := .bool false) rfl (by kernel_rfl) (by kernel_rfl) (by kernel_rfl) (fun _ _ _ h => h) (Or.inl ⟨by rfl, fun W hW => ?_⟩) (by assumption) ?_
  · go_simp
  try simp only [Act.put, lA, l0, lS]
  refine wpAnyH_take (i := 3) (oi := ⟨some 36, .move (.tmp 35), 4, _, _, none⟩) (v := .bool false) rfl (by kernel_rfl) (by kernel_rfl) (by kernel_rfl) (fun _ _ _ h => h) (Or.inl ⟨by rfl, fun W hW => ?_⟩) (by assumption) ?_
  · go_simp
  try simp only [Act.put, lA, l0, lS]
  refine wpAnyH_take (i := 4) (oi := ⟨some 37, .move (.tmp 0), 26, _, _, some (3, true)⟩) (v := undef) rfl (by kernel_rfl) (by kernel_rfl) (by kernel_rfl) (fun _ _ _ h => h) (Or.inr ⟨by rfl, rfl⟩) (by assumption) ?_
  try simp only [Act.put, lA, l0, lS]
  refine wpAnyH_take (i := 5) (oi := ⟨some 38, .fieldAddr 68 (.tmp 6) 1, 0, _, _, some (3, true)⟩) (v := undef) rfl (by kernel_rfl) (by kernel_rfl) (by kernel_rfl) (fun _ _ _ h => h) (Or.inr ⟨by rfl, rfl⟩) (by assumption) ?_
  try simp only [Act.put, lA, l0, lS]
  refine wpAnyH_take (i := 6) (oi := ⟨some 39, .load 3 (.tmp 38), 3, _, _, some (3, true)⟩) (v := undef) rfl (by kernel_rfl) (by kernel_rfl) (by kernel_rfl) (fun _ _ _ h => h) (Or.inr ⟨by rfl, rfl⟩) (by assumption) ?_
  try simp only [Act.put, lA, l0, lS]
  refine wpAnyH_take (i := 7) (oi := ⟨some 40, .fieldAddr 34 (.tmp 8) 1, 0, _, _, some (3, true)⟩) (v := undef) rfl (by kernel_rfl) (by kernel_rfl) (by kernel_rfl) (fun _ _ _ h => h) (Or.inr ⟨by rfl, rfl⟩) (by assumption) ?_
  try simp only [Act.put, lA, l0, lS]
  refine wpAnyH_take (i := 8) (oi := ⟨some 41, .load 9 (.tmp 40), 9, _, _, some (3, true)⟩) (v := undef) rfl (by kernel_rfl) (by kernel_rfl) (by kernel_rfl) (fun _ _ _ h => h) (Or.inr ⟨by rfl, rfl⟩) (by assumption) ?_
  try simp only [Act.put, lA, l0, lS]
  refine wpAnyH_take (i := 9) (oi := ⟨some 42, .call { callee := .value (.func 17), args := #[.tmp 37, .tmp 39, .tmp 41], argTypes := #[26, 3, 9] }, 9, _, _, some (3, true)⟩) (v := undef) rfl (by kernel_rfl) (by kernel_rfl) (by kernel_rfl) (fun _ _ _ h => h) (Or.inr ⟨by rfl, rfl⟩) (by assumption) ?_
  try simp only [Act.put, lA, l0, lS]
  refine wpAnyH_take (i := 10) (oi := ⟨some 43, .fieldAddr 34 (.tmp 8) 2, 0, _, _, some (3, true)⟩) (v := undef) rfl (by kernel_rfl) (by kernel_rfl) (by kernel_rfl) (fun _ _ _ h => h) (Or.inr ⟨by rfl, rfl⟩) (by assumption) ?_
  try simp only [Act.put, lA, l0, lS]
  refine wpAnyH_take (i := 11) (oi := ⟨some 44, .load 9 (.tmp 43), 9, _, _, some (3, true)⟩) (v := undef) rfl (by kernel_rfl) (by kernel_rfl) (by kernel_rfl) (fun _ _ _ h => h) (Or.inr ⟨by rfl, rfl⟩) (by assumption) ?_
  try simp only [Act.put, lA, l0, lS]
  refine wpAnyH_take (i := 12) (oi := ⟨some 45, .binOp .neq 9 (.tmp 42) (.tmp 44) 9, 4, _, _, some (3, true)⟩) (v := undef) rfl (by kernel_rfl) (by kernel_rfl) (by kernel_rfl) (fun _ _ _ h => h) (Or.inr ⟨by rfl, rfl⟩) (by assumption) ?_
  try simp only [Act.put, lA, l0, lS]
  refine wpAnyH_take (i := 13) (oi := ⟨some 46, .pick (.tmp 36) (.tmp 45) (.const (Value.bool false)), 4, _, _, none⟩) (v := .bool false) rfl (by kernel_rfl) (by kernel_rfl) (by kernel_rfl) (fun _ _ _ h => h) (Or.inl ⟨by rfl, fun W hW => ?_⟩) (by assumption) ?_
  · go_simp
  try simp only [Act.put, lA, l0, lS]
  refine wpAnyH_take (i := 14) (oi := ⟨some 47, .move (.tmp 46), 4, _, _, none⟩) (v := .bool false) rfl (by kernel_rfl) (by kernel_rfl) (by kernel_rfl) (fun _ _ _ h => h) (Or.inl ⟨by rfl, fun W hW => ?_⟩) (by assumption) ?_
  · go_simp
  try simp only [Act.put, lA, l0, lS]
  refine wpAnyH_take (i := 15) (oi := ⟨some 48, .fieldAddr 34 (.tmp 8) 0, 0, _, _, some (14, false)⟩) (v := ?vq13) rfl (by kernel_rfl) (by kernel_rfl) (by kernel_rfl) (fun _ _ _ h => h) (Or.inl ⟨by rfl, fun W hW => ?_⟩) (by assumption) ?_
  rotate_left
  · go_simp
    with_reducible rfl
  try simp only [Act.put, lA, l0, lS]
  refine wpAnyH_take (i := 16) (oi := ⟨some 49, .load 3 (.tmp 48), 3, _, _, some (14, false)⟩) (v := .int .i64 1) rfl (by kernel_rfl) (by kernel_rfl) (by kernel_rfl) (fun _ _ _ h => h) (Or.inl ⟨by rfl, fun W hW => ?_⟩) (by assumption) ?_
  · (obtain ⟨a0, a1, a2, a3, a4⟩ := hW; go_simp)
  try simp only [Act.put, lA, l0, lS]
  refine wpAnyH_take (i := 17) (oi := ⟨some 50, .binOp .eql 3 (.tmp 49) (.const (Value.int IntKind.i64 1)) 3, 4, _, _, some (14, false)⟩) (v := .bool true) rfl (by kernel_rfl) (by kernel_rfl) (by kernel_rfl) (fun _ _ _ h => h) (Or.inl ⟨by rfl, fun W hW => ?_⟩) (by assumption) ?_
  · go_simp
  try simp only [Act.put, lA, l0, lS]
  refine wpAnyH_take (i := 18) (oi := ⟨some 51, .move (.tmp 50), 4, _, _, some (14, false)⟩) (v := .bool true) rfl (by kernel_rfl) (by kernel_rfl) (by kernel_rfl) (fun _ _ _ h => h) (Or.inl ⟨by rfl, fun W hW => ?_⟩) (by assumption) ?_
  · go_simp
  try simp only [Act.put, lA, l0, lS]
  refine wpAnyH_take (i := 19) (oi := ⟨some 52, .move (.tmp 0), 26, _, _, some (18, true)⟩) (v := ?vq14) rfl (by kernel_rfl) (by kernel_rfl) (by kernel_rfl) (fun _ _ _ h => h) (Or.inl ⟨by rfl, fun W hW => ?_⟩) (by assumption) ?_
  rotate_left
  · go_simp
    with_reducible rfl
  try simp only [Act.put, lA, l0, lS]
  refine wpAnyH_take (i := 20) (oi := ⟨some 53, .fieldAddr 68 (.tmp 6) 1, 0, _, _, some (18, true)⟩) (v := ?vq15) rfl (by kernel_rfl) (by kernel_rfl) (by kernel_rfl) (fun _ _ _ h => h) (Or.inl ⟨by rfl, fun W hW => ?_⟩) (by assumption) ?_
  rotate_left
  · go_simp
    with_reducible rfl
  try simp only [Act.put, lA, l0, lS]
  refine wpAnyH_take (i := 21) (oi := ⟨some 54, .load 3 (.tmp 53), 3, _, _, some (18, true)⟩) (v := .int .i64 zp) rfl (by kernel_rfl) (by kernel_rfl) (by kernel_rfl) (fun _ _ _ h => h) (Or.inl ⟨by rfl, fun W hW => ?_⟩) (by assumption) ?_
  · (obtain ⟨a0, a1, a2, a3, a4⟩ := hW; go_simp)
  try simp only [Act.put, lA, l0, lS]
  refine wpAnyH_take (i := 22) (oi := ⟨some 55, .fieldAddr 34 (.tmp 8) 1, 0, _, _, some (18, true)⟩) (v := ?vq16) rfl (by kernel_rfl) (by kernel_rfl) (by kernel_rfl) (fun _ _ _ h => h) (Or.inl ⟨by rfl, fun W hW => ?_⟩) (by assumption) ?_
  rotate_left
  · go_simp
    with_reducible rfl
  try simp only [Act.put, lA, l0, lS]
  refine wpAnyH_take (i := 23) (oi := ⟨some 56, .load 9 (.tmp 55), 9, _, _, some (18, true)⟩) (v := sv ky) rfl (by kernel_rfl) (by kernel_rfl) (by kernel_rfl) (fun _ _ _ h => h) (Or.inl ⟨by rfl, fun W hW => ?_⟩) (by assumption) ?_
  · (obtain ⟨a0, a1, a2, a3, a4⟩ := hW; go_simp)
  try simp only [Act.put, lA, l0, lS]
  refine wpAnyH_take (i := 25) (oi := ⟨some 58, .fieldAddr 34 (.tmp 8) 3, 0, _, _, some (18, true)⟩) (v := ?vq17) rfl (by kernel_rfl) (by kernel_rfl) (by kernel_rfl) (fun _ _ _ h => h) (Or.inl ⟨by rfl, fun W hW => ?_⟩) (by assumption) ?_
  rotate_left
  · go_simp
    with_reducible rfl
  try simp only [Act.put, lA, l0, lS]
  refine wpAnyH_take (i := 26) (oi := ⟨some 59, .load 29 (.tmp 58), 29, _, _, some (18, true)⟩) (v := u) rfl (by kernel_rfl) (by kernel_rfl) (by kernel_rfl) (fun _ _ _ h => h) (Or.inl ⟨by rfl, fun W hW => ?_⟩) (by assumption) ?_
  · (obtain ⟨a0, a1, a2, a3, a4⟩ := hW; go_simp)
  try simp only [Act.put, lA, l0, lS]
  refine wpAnyH_ready (rs := [24]) (by kernel_rfl) (by simp) ?_
  refine AllReadyH.cons (o := ⟨some 57, .call { callee := .value (.func 19), args := #[.tmp 52, .tmp 54, .tmp 56], argTypes := #[26, 3, 9] }, 29, _, _, some (18, true)⟩) rfl (fun KK hKK => ?_) AllReadyH.nil
  refine step_callW (by rfl) 19 _ _ rfl #[.pointer (some ⟨d, 0, none⟩), .int .i64 zp, sv ky] (by first | (simp [Act.eval]; done) | (simp [Act.eval, Act.put]; done)) (enters_of Tryz.func19 (by kernel_rfl) rfl) (HC.out _ K0) ?_
  rintro e W9 ⟨A9, c9, rfl, o9, k9⟩
  refine ⟨_, rfl, ?_⟩
  have K9 := K0.trans k9 (by simp)
  refine hKK.out _ _ (HS.out _ K9) (fun hHeld => ?_)
  clear hKK KK
  try simp only [Act.put, lA, l0, lS]
  refine wpAnyH_ready (rs := [27]) (by kernel_rfl) (by simp) ?_
  refine AllReadyH.cons (o := ⟨some 60, .call { callee := .value (.func 13), args := #[.tmp 57, .tmp 59], argTypes := #[29, 29] }, 4, _, _, some (18, true)⟩) rfl (fun KK hKK => ?_) AllReadyH.nil
  refine step_callW (by rfl) 13 _ _ rfl #[.slice A9 q.length c9, u] (by first | (simp [Act.eval]; done) | (simp [Act.eval, Act.put]; done)) (enters_of Tryz.func13 (by kernel_rfl) rfl) (HC3.out _ _ _ K9 o9) ?_
  rintro e W8 ⟨rfl, k8⟩
  refine ⟨_, rfl, ?_⟩
  have K8 := K9.trans k8 (by simp)
  refine hKK.out _ _ (HS.out _ K8) (fun hHeld => ?_)
  clear hKK KK
  try simp only [Act.put, lA, l0, lS]
  refine wpAnyH_take (i := 28) (oi := ⟨some 61, .unOp .not 4 (.tmp 60), 4, _, _, some (18, true)⟩) (v := .bool (!t)) rfl (by kernel_rfl) (by kernel_rfl) (by kernel_rfl) (fun _ _ _ h => h) (Or.inl ⟨by rfl, fun W hW => ?_⟩) (by assumption) ?_
  · go_simp
  try simp only [Act.put, lA, l0, lS]
  refine wpAnyH_take (i := 29) (oi := ⟨some 62, .pick (.tmp 51) (.tmp 61) (.const (Value.bool false)), 4, _, _, some (14, false)⟩) (v := .bool (!t)) rfl (by kernel_rfl) (by kernel_rfl) (by kernel_rfl) (fun _ _ _ h => h) (Or.inl ⟨by rfl, fun W hW => ?_⟩) (by assumption) ?_
  · go_simp
  try simp only [Act.put, lA, l0, lS]
  refine wpAnyH_take (i := 30) (oi := ⟨some 63, .pick (.tmp 47) (.const (Value.bool true)) (.tmp 62), 4, _, _, none⟩) (v := .bool (!t)) rfl (by kernel_rfl) (by kernel_rfl) (by kernel_rfl) (fun _ _ _ h => h) (Or.inl ⟨by rfl, fun W hW => ?_⟩) (by assumption) ?_
  · go_simp
  try simp only [Act.put, lA, l0, lS]
  refine wpAnyH_done (by kernel_rfl) ?_ _
  refine NoPanic.normal ?_
  exact hK _ _ _ _ _ _ _ _ _ _ _ _ _ _ _ _ _ _ _ _ _ _ _ _ _ _ _ _ _ _ _ K8
set_option maxRecDepth 100000 in
set_option maxHeartbeats 6400000 in
theorem rValid_any {P : List Str} {w : World} {d : Nat} {F G : List Nat} {C : St} (h : Rf w d F G C) (hW : WF P C) (hP : PoolOk P) (hl : C.length ≤ 1000000) (i : Int) :
    Calls Tryz.prog 15 #[.pointer (some ⟨d, 0, none⟩), .int .i64 i] w fun e w' => e = .returned (.bool (validP C i)) ∧ Keeps [] w w' := by
  cases hh : has C i with
  | false =>
    have e0 : validP C i = false := by unfold validP; rw [find_none.2 hh]
    rw [e0]
    have CP := Lib.hid (place_any h hl i)
    rw [plc_no hh] at CP
    clear h hh e0
    go_enter Tryz.func15, Tryz.ntmps15
    go_wp2_with fail
    refine CP.out.mono ?_
    rintro e w1 ⟨rfl, rfl⟩
    go_wp2_with fail
    go_ret
    exact ⟨rfl, Keeps.refl _ _⟩
  | true =>
    have hR0 := hW.tree.row0
    obtain ⟨x, j, g, n, cap, A1, A2, A3, p1, p2, p3, hf, hx, rfl, hp, hj, hn, hz, hpl⟩ := h.open_ hR0 hh
    have CP := Lib.hid (place_any h hl x.id)
    rw [hp] at CP
    have e0 : validP C x.id = x.rd.all (okRd C x.par) := by unfold validP; rw [hf]
    rw [e0]
    obtain ⟨V, hV⟩ : ∃ V, x.rd.all (okRd C x.par) = V := ⟨_, rfl⟩
    have HV := Lib.hid hV
    rw [hV]
    have hrl : x.rd.length ≤ 2000000 := rd_le hW hP hx
    have hok := hW.ok x hx
    have HLS : Hid (∀ r ∈ x.rd, (lstR r).length ≤ 1000000) := Lib.hid (fun r hr => by
      cases r with
      | cell a b => simp [lstR]
      | keys p l => exact hP.le (hok.ls p l hr).1 (fun s hs => ((hok.ls p l hr).2 s hs).1))
    have i0 : ¬ ((j : Int) < 0) := by omega
    have i2 : (0 : Int) ≤ (j : Int) := by omega
    have i3 : (j : Int) < (n : Int) := by omega
    have hnl : n ≤ 1000000 := by omega
    have HPL := Lib.hid hpl
    have HR := Lib.hid h
    have HSE := Lib.hid (fun W F G (h : Rf W d F G C) k => rSees hW hP hl h x.par k)
    have HSK := Lib.hid (fun W F G (h : Rf W d F G C) k => rSeesKeys hW hP hl h x.par k)
    have HSL := Lib.hid (fun k => seesKeys_len hW hP x.par k)
    obtain ⟨f0, c0, c1, c2, c3, c4, -, -, -⟩ := hpl
    clear h hh hf hx hp hj hn hz hok hV e0 hR0 hl
    go_enter Tryz.func15, Tryz.ntmps15
    go_wp2_with fail
    refine CP.out.mono ?_
    rintro e w1 ⟨rfl, rfl⟩
    clear CP
    go_wp2_with fail
    obtain ⟨W, hW⟩ : ∃ W, w1.alloc (.cells #[.int .i64 x.id, .int .i64 x.par, .slice A1 x.wr.length p1, .slice A2 x.rd.length p2, .slice A3 x.lg.length p3] 68) = W := ⟨_, rfl⟩
    obtain ⟨b, hb⟩ : ∃ b, w1.heap.size = b := ⟨_, rfl⟩
    have b0 : Blk W b 68 #[.int .i64 x.id, .int .i64 x.par, .slice A1 x.wr.length p1, .slice A2 x.rd.length p2, .slice A3 x.lg.length p3] := by rw [← hW, ← hb]; exact Blk.new _ _ _
    have k0 : Keeps [] w1 W := by rw [← hW]; exact (Keeps.refl _ _).alloc _
    rw [hW]
    rw [hb]
    have KB := Lib.hid k0
    have BB := Lib.hid b0
    have HPL2 := Lib.hid (HPL.out.keep0 k0)
    have HR2 := Lib.hid (HR.out.keep0 k0)
    clear hW hb k0 b0 f0 c0 c1 c2 c3 c4 i0 HPL HR i2 i3
    go_loopw [7, 8] (fun iv _ wr => ∃ q : Nat, q ≤ x.rd.length ∧ iv = .int .i64 q ∧ Keeps [] W wr ∧ ∀ j (hj : j < x.rd.length), j < q → okRd C x.par x.rd[j] = true) (fun iv _ _ => x.rd.length - (intOf iv).toNat)
    case atStart => exact ⟨0, by omega, rfl, Keeps.refl _ _, fun j _ h => absurd h (by omega)⟩
    case round =>
      obtain ⟨q, hq, rfl, hkr, hall⟩ := hrel
      have KR := Lib.hid hkr
      have HALL := Lib.hid hall
      clear hkr hall
      have f3 : wr.cell? ⟨b, 3, none⟩ = some (.slice A2 x.rd.length p2) := (BB.out.keep KR.out (by simp)).cell 3
      by_cases hlt : q < x.rd.length
      · obtain ⟨g2, c2, u, hv2, y0, y1, y2, y3, ou, -⟩ := rd_cells (HPL2.out.keep0 KR.out).o.rd hlt
        dsimp only at hv2
        obtain ⟨rfl, rfl⟩ : A2 = some ⟨g2, 0, none⟩ ∧ p2 = c2 := by injection hv2 with h1 h2 h3; exact ⟨h1, h3⟩
        obtain ⟨uA, uc, hu, -, -, -⟩ := own_shape ou
        subst hu
        have hmem := List.getElem_mem hlt
        have hls := HLS.out _ hmem
        have hokk : okRd C x.par x.rd[q] = true → ∀ j (hj : j < x.rd.length), j < q + 1 → okRd C x.par x.rd[j] = true := fun ho j hj hjq => by
          by_cases hj2 : j < q
          · exact HALL.out j hj hj2
          · obtain rfl : j = q := by omega
            exact ho
        have hbad : okRd C x.par x.rd[q] = false → V = false := fun ho => by
          rw [← HV.out, List.all_eq_false]
          exact ⟨_, hmem, by rw [ho]; simp⟩
        have HOKK := Lib.hid hokk
        have HBAD := Lib.hid hbad
        obtain ⟨r, hr⟩ : ∃ r, x.rd[q] = r := ⟨_, rfl⟩
        have HRQ := Lib.hid hr
        rw [hr] at y0 y1 y2 y3 ou hls HOKK HBAD
        have OU := Lib.hid ou
        have HLL := Lib.hid hls
        have j0 : (0 : Int) ≤ (q : Int) := by omega
        have j1 : (q : Int) < (x.rd.length : Int) := by omega
        clear hv2 hmem hls hokk hbad hr ou HALL
        obtain ⟨b8, hb8⟩ : ∃ b8, wr.heap.size = b8 := ⟨_, rfl⟩
        cases r with
        | cell k v =>
          have z0 : wr.cell? ⟨g2, q * 4, none⟩ = some (.int .i64 0) := y0
          have z1 : wr.cell? ⟨g2, q * 4 + 1, none⟩ = some (sv k) := y1
          have z2 : wr.cell? ⟨g2, q * 4 + 2, none⟩ = some (sv v) := y2
          have z3 : wr.cell? ⟨g2, q * 4 + 3, none⟩ = some (.slice uA 0 uc) := y3
          obtain ⟨X, hX⟩ : ∃ X, wr.alloc (.cells #[.int .i64 0, sv k, sv v, .slice uA 0 uc] 34) = X := ⟨_, rfl⟩
          have B8 : Hid (Blk X b8 34 #[.int .i64 0, sv k, sv v, .slice uA 0 uc]) := Lib.hid (by rw [← hX, ← hb8]; exact Blk.new _ _ _)
          have KX : Hid (Keeps [] W X) := Lib.hid (by rw [← hX]; exact KR.out.alloc _)
          clear y0 y1 y2 y3
          go_upto_region 9 with fail
          try rw [hb8]
          try rw [hX]
          have HSS : Hid (∀ X', Keeps [] X X' → X'.cell? ⟨b8, 0, none⟩ = some (.int .i64 0) ∧ X'.cell? ⟨b8, 1, none⟩ = some (sv k) ∧ X'.cell? ⟨b8, 2, none⟩ = some (sv v) ∧ X'.cell? ⟨b8, 3, none⟩ = some (.slice uA 0 uc) ∧ X'.cell? ⟨b, 1, none⟩ = some (.int .i64 x.par)) := Lib.hid (fun X' hk => by
            have h8 := B8.out.keep hk (by simp)
            have h6 := BB.out.keep (KX.out.trans hk (by simp)) (by simp)
            exact ⟨h8.cell 0, h8.cell 1, h8.cell 2, h8.cell 3, h6.cell 1⟩)
          have HCC : Hid (∀ X', Keeps [] X X' → Calls Tryz.prog 17 #[.pointer (some ⟨d, 0, none⟩), .int .i64 x.par, sv k] X' fun e w' => e = .returned (sv (sees C x.par k)) ∧ Keeps [] X' w') := Lib.hid (fun X' hk => HSE.out X' F G (HR2.out.keep0 (KX.out.trans hk (by simp))) k)
          clear hX hb8 z0 z1 z2 z3 B8 f3 j0 j1
          by_cases hse : sees C x.par k = v
          · rw [hse] at HCC
            have HN := Lib.hid (HOKK.out (by show decide (sees C x.par k = v) = true; rw [hse]; simp))
            clear hse HOKK HBAD
            refine va9a_any X d b b8 x.par k v _ _ HSS.out HCC.out _ _ _ _ _ _ _ _ _ _ _ _ _ _ _ _ _ _ _ _ _ _ _ _ _ _ _ _ _ _ _ _ _ _ _ _ _ _ _ _ _ _ _ _ _ _ _ _ _ _ _ _ _ _ _ _ _ _ _ _ _ ?_
            intro v33 v34 v35 v36 v37 v38 v39 v40 v41 v42 v43 v44 v45 v46 v47 v48 v49 v50 v51 v52 v53 v54 v55 v56 v57 v58 v59 v60 v61 v62 X2 hk2
            have KN := Lib.hid (KX.out.trans hk2 (by simp))
            clear hk2
            go_wp2_with fail
            exact ⟨⟨q + 1, by omega, rfl, KN.out, HN.out⟩, by simp only [intOf]; omega⟩
          · have hne : (sees C x.par k == v) = false := by simpa using hse
            have hVf : V = false := HBAD.out (by show decide (sees C x.par k = v) = false; exact decide_eq_false hse)
            clear hse HOKK HBAD
            subst hVf
            refine va9b_any X d b b8 x.par k v _ _ _ HSS.out HCC.out hne _ _ _ _ _ _ _ _ _ _ _ _ _ _ _ _ _ _ _ _ _ _ _ _ _ _ _ _ _ _ _ _ _ _ _ _ _ _ _ _ _ _ _ _ _ _ _ _ _ _ _ _ _ _ _ _ _ _ _ _ _ ?_
            intro v33 v34 v35 v36 v37 v38 v39 v40 v41 v42 v43 v44 v45 v46 v47 v48 v49 v50 v51 v52 v53 v54 v55 v56 v57 v58 v59 v60 v61 v62 X2 hk2
            have KN := Lib.hid (KB.out.trans (KX.out.trans hk2 (by simp)) (by simp))
            clear hk2 hne
            go_wp2_with fail
            go_ret
            exact ⟨rfl, KN.out⟩
        | keys k l =>
          have z0 : wr.cell? ⟨g2, q * 4, none⟩ = some (.int .i64 1) := y0
          have z1 : wr.cell? ⟨g2, q * 4 + 1, none⟩ = some (sv k) := y1
          have z2 : wr.cell? ⟨g2, q * 4 + 2, none⟩ = some (sv []) := y2
          have z3 : wr.cell? ⟨g2, q * 4 + 3, none⟩ = some (.slice uA l.length uc) := y3
          obtain ⟨X, hX⟩ : ∃ X, wr.alloc (.cells #[.int .i64 1, sv k, sv [], .slice uA l.length uc] 34) = X := ⟨_, rfl⟩
          have B8 : Hid (Blk X b8 34 #[.int .i64 1, sv k, sv [], .slice uA l.length uc]) := Lib.hid (by rw [← hX, ← hb8]; exact Blk.new _ _ _)
          have kX : Keeps [] wr X := by rw [← hX]; exact (Keeps.refl _ _).alloc _
          have KX : Hid (Keeps [] W X) := Lib.hid (KR.out.trans kX (by simp))
          have OU2 : Hid (X.ownsRow 0 9 1 (.slice uA l.length uc) l.length (vs l)) := Lib.hid (own_keep OU.out kX (by simp))
          have hll : l.length ≤ 1000000 := HLL.out
          clear y0 y1 y2 y3 kX
          go_upto_region 9 with fail
          try rw [hb8]
          try rw [hX]
          have HSS : Hid (∀ X', Keeps [] X X' → X'.cell? ⟨b8, 0, none⟩ = some (.int .i64 1) ∧ X'.cell? ⟨b8, 1, none⟩ = some (sv k) ∧ X'.cell? ⟨b8, 2, none⟩ = some (sv []) ∧ X'.cell? ⟨b8, 3, none⟩ = some (.slice uA l.length uc) ∧ X'.cell? ⟨b, 1, none⟩ = some (.int .i64 x.par)) := Lib.hid (fun X' hk => by
            have h8 := B8.out.keep hk (by simp)
            have h6 := BB.out.keep (KX.out.trans hk (by simp)) (by simp)
            exact ⟨h8.cell 0, h8.cell 1, h8.cell 2, h8.cell 3, h6.cell 1⟩)
          have HCC : Hid (∀ X', Keeps [] X X' → Calls Tryz.prog 19 #[.pointer (some ⟨d, 0, none⟩), .int .i64 x.par, sv k] X' fun e w' => ∃ A c, e = .returned (.slice A (seesKeys C x.par k).length c) ∧ w'.ownsRow 0 9 1 (.slice A (seesKeys C x.par k).length c) (seesKeys C x.par k).length (vs (seesKeys C x.par k)) ∧ Keeps [] X' w') := Lib.hid (fun X' hk => by
            refine (HSK.out X' F G (HR2.out.keep0 (KX.out.trans hk (by simp))) k).mono ?_
            rintro e w' ⟨⟨v, rfl, o1, -⟩, k1⟩
            obtain ⟨A, c, rfl, -, -, -⟩ := own_shape o1
            exact ⟨A, c, rfl, o1, k1⟩)
          have HC3 : Hid (∀ X' A c, Keeps [] X X' → X'.ownsRow 0 9 1 (.slice A (seesKeys C x.par k).length c) (seesKeys C x.par k).length (vs (seesKeys C x.par k)) → Calls Tryz.prog 13 #[.slice A (seesKeys C x.par k).length c, .slice uA l.length uc] X' fun e w' => e = .returned (.bool (decide (seesKeys C x.par k = l))) ∧ Keeps [] X' w') := Lib.hid (fun X' A c hk ho => same_any X' A uA _ l c uc (AtS.of_own ho (HSL.out k)) (AtS.of_own (own_keep OU2.out hk (by simp)) hll))
          have HN : Hid (decide (seesKeys C x.par k = l) = true → ∀ j (hj : j < x.rd.length), j < q + 1 → okRd C x.par x.rd[j] = true) := Lib.hid (fun h => HOKK.out h)
          have HF : Hid (decide (seesKeys C x.par k = l) = false → V = false) := Lib.hid (fun h => HBAD.out h)
          generalize decide (seesKeys C x.par k = l) = t at HC3 HN HF
          generalize seesKeys C x.par k = ql at HCC HC3
          clear hX hb8 z0 z1 z2 z3 B8 f3 j0 j1 HOKK HBAD hll OU
          refine va9c_any X d b b8 x.par k [] _ ql t _ HSS.out HCC.out HC3.out _ _ _ _ _ _ _ _ _ _ _ _ _ _ _ _ _ _ _ _ _ _ _ _ _ _ _ _ _ _ _ _ _ _ _ _ _ _ _ _ _ _ _ _ _ _ _ _ _ _ _ _ _ _ _ _ _ _ _ _ _ ?_
          intro v33 v34 v35 v36 v37 v38 v39 v40 v41 v42 v43 v44 v45 v46 v47 v48 v49 v50 v51 v52 v53 v54 v55 v56 v57 v58 v59 v60 v61 v62 X2 hk2
          have KN := Lib.hid (KX.out.trans hk2 (by simp))
          clear hk2
          cases t with
          | true =>
            have HN2 := Lib.hid (HN.out rfl)
            go_wp2_with fail
            exact ⟨⟨q + 1, by omega, rfl, KN.out, HN2.out⟩, by simp only [intOf]; omega⟩
          | false =>
            have hVf := HF.out rfl
            subst hVf
            go_wp2_with fail
            go_ret
            exact ⟨rfl, KB.out.trans KN.out (by simp)⟩
      · obtain rfl : q = x.rd.length := by omega
        have j1 : ¬ ((x.rd.length : Int) < (x.rd.length : Int)) := by omega
        have hVt : V = true := by
          rw [← HV.out, List.all_eq_true]
          intro r hr
          obtain ⟨j, hj, rfl⟩ := List.mem_iff_getElem.1 hr
          exact HALL.out j hj hj
        subst hVt
        go_wp2_with fail
        go_ret
        exact ⟨rfl, KB.out.trans KR.out (by simp)⟩
end Go.Proofs.YtbllmpcpfmlemaaGreat
